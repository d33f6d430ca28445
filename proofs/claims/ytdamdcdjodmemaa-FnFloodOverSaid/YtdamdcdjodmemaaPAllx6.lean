/- Proved here: contracts of functions of the given program, or lemmas on them, for the laws of this seat. Written by xprint.py, a program of this session, on the ground of the kit's print; parts by hand: wip/x/ext. -/
import Derived.Test.YtdamdcdjodmemaaPAllx0
import Derived.Test.YtdamdcdjodmemaaPAllx1
import Derived.Test.YtdamdcdjodmemaaPAllx3
import Derived.Test.YtdamdcdjodmemaaPAllx4
import Derived.Test.YtdamdcdjodmemaaPAllx5
namespace Go.Proofs.Ytdamdcdjodmemaa.PAll
open Go.RowKit Go.Proofs.YtdamdcdjodmemaaW.PrintWords Go.Proofs.YtdamdcdjodmemaaW.PrintLast Go.Proofs.YtdamdcdjodmemaaW.PrintMore
attribute [local go_sem] max2_int min2_int max_two min_two max_three min_three max_four min_four   -- for this text's walks alone
set_option linter.unusedVariables false
set_option linter.unusedSimpArgs false

/-! ### spec_FloodOver: function 33 -/
mutual
def spec_FloodOver.j0 : Nat → Int → List Int → Bool → Int → List (S51) → List Int → List Int → Option (List Int)
 | 0,_,_,_,_,_,_,_ => none
 | k + 1,x1,x5,x18,x469000,x469001,x469002,x469003 => if x18 = true then (some x5) else (if 0 ≤ x1 then (if x1 < (x469002.length : Int) then ((spec_l7Joined.f k x469000 x469001 (rd x469002 x1)).bind fun t475 => ((spec_TreeOf.f k x469000 x469001).bind fun t478 => (spec_FloodOver.l0 k x5 t475 t478 0 x469000 x469001 x469002 x469003))) else (none)) else (none))
def spec_FloodOver.l0 : Nat → List Int → List Bool → List Int → Int → Int → List (S51) → List Int → List Int → Option (List Int)
 | 0,_,_,_,_,_,_,_,_ => none
 | k + 1,x5,x6,x7,x8,x469000,x469001,x469002,x469003 => if x8 < (x7.length : Int) then (if 0 ≤ x8 then (if 0 ≤ (rd x7 x8) then (if (rd x7 x8) < (x469001.length : Int) then (if 0 ≤ ((rd_T51 x469001 (rd x7 x8)).f0) then (if ((rd_T51 x469001 (rd x7 x8)).f0) < (x6.length : Int) then (if rdOf false x6 ((rd_T51 x469001 (rd x7 x8)).f0) = true then (if x5.length < 17592186044416 then (spec_FloodOver.l0 k (x5 ++ [rd x7 x8]) x6 x7 (wrap64 (x8 + 1)) x469000 x469001 x469002 x469003) else (none)) else (spec_FloodOver.l0 k x5 x6 x7 (wrap64 (x8 + 1)) x469000 x469001 x469002 x469003)) else (none)) else (none)) else (none)) else (none)) else (none)) else (some x5)
end
def spec_FloodOver.f (k : Nat) (a0_0 : Int) (l0_1 : List (S51)) (l0_2 : List Int) (l0_3 : List Int) (a1 : Int) : Option (List Int):=(some (([] : List Int) : List Int)).bind fun y469 => ((spec_NetValid.f k a0_0 l0_1 l0_2 l0_3).bind fun t472 => (if t472 = true then ((spec_l19Station.f a0_0 l0_1 l0_2 l0_3 a1).bind fun t473 => (spec_FloodOver.j0 k a1 y469 (!t473) a0_0 l0_1 l0_2 l0_3)) else (spec_FloodOver.j0 k a1 y469 true a0_0 l0_1 l0_2 l0_3)))
theorem spec_FloodOver.mono_l : ∀ k,(∀ y0 y1 y2 y3 y4 y5 y6,LeO (spec_FloodOver.j0 k y0 y1 y2 y3 y4 y5 y6) (spec_FloodOver.j0 (k + 1) y0 y1 y2 y3 y4 y5 y6)) ∧ (∀ y0 y1 y2 y3 y4 y5 y6 y7,LeO (spec_FloodOver.l0 k y0 y1 y2 y3 y4 y5 y6 y7) (spec_FloodOver.l0 (k + 1) y0 y1 y2 y3 y4 y5 y6 y7))
 | 0 => ⟨fun _ _ _ _ _ _ _ r h => by simp [spec_FloodOver.j0] at h,fun _ _ _ _ _ _ _ _ r h => by simp [spec_FloodOver.l0] at h⟩
 | k + 1 => by
  obtain ⟨ih0,ih1⟩:=spec_FloodOver.mono_l k
  refine ⟨?_,?_⟩
  ·intro y0 y1 y2 y3 y4 y5 y6
   unfold spec_FloodOver.j0
   repeat' first
   | (with_reducible exact ih0 _ _ _ _ _ _ _)
   | (with_reducible exact ih1 _ _ _ _ _ _ _ _)
   | (with_reducible exact spec_NetValid.mono _ _ _ _ _)
   | (with_reducible exact spec_TreeOf.mono _ _ _)
   | (with_reducible exact spec_l7Joined.mono _ _ _ _)
   | (with_reducible exact LeO.refl _)
   | (with_reducible exact LeO.none _)
   | (with_reducible refine LeO.ite ?_ ?_)
   | (with_reducible refine LeO.bind ?_ (fun _ => ?_))
   | exact ih0 _ _ _ _ _ _ _
   | exact ih1 _ _ _ _ _ _ _ _
   | exact spec_NetValid.mono _ _ _ _ _
   | exact spec_TreeOf.mono _ _ _
   | exact spec_l7Joined.mono _ _ _ _
   | exact LeO.none _
   | refine LeO.ite ?_ ?_
   | refine LeO.bind ?_ (fun _ => ?_)
  ·intro y0 y1 y2 y3 y4 y5 y6 y7
   unfold spec_FloodOver.l0
   repeat' first
   | (with_reducible exact ih0 _ _ _ _ _ _ _)
   | (with_reducible exact ih1 _ _ _ _ _ _ _ _)
   | (with_reducible exact spec_NetValid.mono _ _ _ _ _)
   | (with_reducible exact spec_TreeOf.mono _ _ _)
   | (with_reducible exact spec_l7Joined.mono _ _ _ _)
   | (with_reducible exact LeO.refl _)
   | (with_reducible exact LeO.none _)
   | (with_reducible refine LeO.ite ?_ ?_)
   | (with_reducible refine LeO.bind ?_ (fun _ => ?_))
   | exact ih0 _ _ _ _ _ _ _
   | exact ih1 _ _ _ _ _ _ _ _
   | exact spec_NetValid.mono _ _ _ _ _
   | exact spec_TreeOf.mono _ _ _
   | exact spec_l7Joined.mono _ _ _ _
   | exact LeO.none _
   | refine LeO.ite ?_ ?_
   | refine LeO.bind ?_ (fun _ => ?_)
theorem spec_FloodOver.mono : ∀ a0 a1 a2 a3 a4 k,LeO (spec_FloodOver.f k a0 a1 a2 a3 a4) (spec_FloodOver.f (k + 1) a0 a1 a2 a3 a4):=by
 intro a0 a1 a2 a3 a4 k
 obtain ⟨ih0,ih1⟩:=spec_FloodOver.mono_l k
 unfold spec_FloodOver.f
 repeat' first
   | (with_reducible exact ih0 _ _ _ _ _ _ _)
   | (with_reducible exact ih1 _ _ _ _ _ _ _ _)
   | (with_reducible exact spec_NetValid.mono _ _ _ _ _)
   | (with_reducible exact spec_TreeOf.mono _ _ _)
   | (with_reducible exact spec_l7Joined.mono _ _ _ _)
   | (with_reducible exact LeO.refl _)
   | (with_reducible exact LeO.none _)
   | (with_reducible refine LeO.ite ?_ ?_)
   | (with_reducible refine LeO.bind ?_ (fun _ => ?_))
   | exact ih0 _ _ _ _ _ _ _
   | exact ih1 _ _ _ _ _ _ _ _
   | exact spec_NetValid.mono _ _ _ _ _
   | exact spec_TreeOf.mono _ _ _
   | exact spec_l7Joined.mono _ _ _ _
   | exact LeO.none _
   | refine LeO.ite ?_ ?_
   | refine LeO.bind ?_ (fun _ => ?_)
def spec_FloodOver.T4 : Bool × List (List Nat × List Nat):=(true,[([],[]),([0],[0]),([],[]),([2],[2]),([],[]),([4],[4]),([],[]),([5,6],[5,6]),([7],[7]),([1,3,8],[1,3,8]),([9,9,0,1,2,3,4,5,6,7,8,9],[9])])
def spec_FloodOver.B4 : List Nat:=[0,1,0,4,0,16,0,112,240,511,1023]
theorem spec_FloodOver.tab4 : rtab .any (opsOf Try.f33 4) = spec_FloodOver.T4:=by kernel_rfl
theorem spec_FloodOver.bits4 : waitsOk spec_FloodOver.T4.2 spec_FloodOver.B4 = true:=by kernel_rfl
def spec_FloodOver.T9 : Bool × List (List Nat × List Nat):=(true,[([],[]),([],[]),([1],[1]),([],[]),([],[]),([3,4],[3,4]),([5],[5]),([2,6],[2,6]),([7],[7]),([8],[8]),([0,9],[0,9]),([10],[10])])
def spec_FloodOver.B9 : List Nat:=[0,0,2,0,0,24,56,126,254,510,1023,2047]
theorem spec_FloodOver.tab9 : rtab .any (opsOf Try.f33 9) = spec_FloodOver.T9:=by kernel_rfl
theorem spec_FloodOver.bits9 : waitsOk spec_FloodOver.T9.2 spec_FloodOver.B9 = true:=by kernel_rfl
set_option maxHeartbeats 8000000 in
set_option maxRecDepth 100000 in
theorem spec_FloodOver.calls (k : Nat) (a0_0 : Int) (A0_1 : Option Addr) (c0_1 : Nat) (l0_1 : List (S51)) (A0_2 : Option Addr) (c0_2 : Nat) (l0_2 : List Int) (A0_3 : Option Addr) (c0_3 : Nat) (l0_3 : List Int) (a1 : Int) (r : List Int) (w : World) (hr0_1 : Kd.C k51 w A0_1 l0_1.length l0_1) (hc0_1 : l0_1.length ≤ c0_1) (hr0_2 : Kd.C (Kd.int .i64) w A0_2 l0_2.length l0_2) (hc0_2 : l0_2.length ≤ c0_2) (hr0_3 : Kd.C (Kd.int .i64) w A0_3 l0_3.length l0_3) (hc0_3 : l0_3.length ≤ c0_3) (h : spec_FloodOver.f k a0_0 l0_1 l0_2 l0_3 a1 = some r) :
  Calls Try.prog 33 #[.agg #[.int .i64 a0_0,.slice A0_1 l0_1.length c0_1,.slice A0_2 l0_2.length c0_2,.slice A0_3 l0_3.length c0_3],.int .i64 a1] w fun e w' => ∃ v0_ : Value,e = .returned (v0_) ∧ Kd.R (Kd.int .i64) 3 w' w.heap.size (fun _ => True) v0_ r ∧ Below w.heap.size w w':=by
 have hu30:=Try.underlying30
 have HR0_1:=mk_ hr0_1
 have HC0_1:=mk_ hc0_1
 clear hr0_1 hc0_1
 have HR0_2:=mk_ hr0_2
 have HC0_2:=mk_ hc0_2
 clear hr0_2 hc0_2
 have HR0_3:=mk_ hr0_3
 have HC0_3:=mk_ hc0_3
 clear hr0_3 hc0_3
 have HB:=mk_ (Below.refl w.heap.size w)
 have H : ((some (([] : List Int) : List Int)).bind fun y469 => ((spec_NetValid.f k a0_0 l0_1 l0_2 l0_3).bind fun t472 => (if t472 = true then ((spec_l19Station.f a0_0 l0_1 l0_2 l0_3 a1).bind fun t473 => (spec_FloodOver.j0 k a1 y469 (!t473) a0_0 l0_1 l0_2 l0_3)) else (spec_FloodOver.j0 k a1 y469 true a0_0 l0_1 l0_2 l0_3)))) = some r:=h
 clear h
 obtain ⟨y469,hy469⟩ : ∃ y_ : List Int,y_ = (([] : List Int)):=⟨_,rfl⟩
 replace H : ((spec_NetValid.f k a0_0 l0_1 l0_2 l0_3).bind fun t472 => (if t472 = true then ((spec_l19Station.f a0_0 l0_1 l0_2 l0_3 a1).bind fun t473 => (spec_FloodOver.j0 k a1 y469 (!t473) a0_0 l0_1 l0_2 l0_3)) else (spec_FloodOver.j0 k a1 y469 true a0_0 l0_1 l0_2 l0_3))) = some r:=by first|(rw [hy469];with_reducible exact H)|(have H2_:=(Option.bind_some _ _).symm.trans H;rw [hy469];with_reducible exact H2_)|(have H2_:=(Option.bind_some _ _).symm.trans H;with_reducible exact H2_)|with_reducible exact H|(rw [hy469];exact H)|exact H
 have Ny469:=mk_ hy469
 clear hy469
 have HC3:=mk_ H
 clear H
 go_enter Try.func33,Try.ntmps33
 go_upto_region 2 with (first|((with_reducible refine gate_dst (N:=2) rfl ?_);refine box_event ?hg (N:=2) ?hd (cs:=#[.int .i64 a0_0,.slice A0_1 l0_1.length c0_1,.slice A0_2 l0_2.length c0_2,.slice A0_3 l0_3.length c0_3]) (t:=30) ?hr ?_;(case hd => rfl);(case hg => rfl);(case hr => first|(go_simp;done)|(go_simp;rfl));intro gb468 hg w4 hbox hb;have n0_:=mk_ (st_ (by repeat (first|(with_reducible first|exact HB.out|apply ba_|apply bn_|apply bd_)|exact HB.out)) hb);have n1_:=mk_ (hbox);have n2_:=mk_ ((by rw [hg];exact (bz_ (by repeat (first|(with_reducible first|exact HB.out|apply ba_|apply bn_|apply bd_)|exact HB.out))) : w.heap.size ≤ gb468));have n3_:=mk_ ((by rw [hg];exact (bz_ (by repeat (first|(with_reducible first|exact HB.out|apply ba_|apply bn_|apply bd_)|exact HB.out))) : w.heap.size ≤ gb468));clear HB;have HB:=n0_;have BK468:=n1_;have GW468:=n2_;have GE468:=n3_;clear n0_ n1_ n2_ n3_;clear hb hbox hg)|((with_reducible refine gate_dst (N:=9) rfl ?_);refine Kd.R_lit (Kd.int .i64) _ 3 ?hg (N:=9) ?hd (xs:=([] : List Int)) (inner:=[]) (ok:=fun _ => True) (okp:=fun _ => True) ?hr ?hp (fun _ hk => hk) trivial (Below.refl _ _) (Nat.le_refl _) (by simp) ?_;(case hd => rfl);(case hg => rfl);(case hr => first|(go_simp;done)|(go_simp;rfl));(case hp => exact (Reps.none _ _));intro v470 w5 ho6 hb hg_ hnew_;clear hg_ hnew_;(first|rw [← Ny469.out] at ho6|(simp only [Int.reduceToNat] at ho6;rw [← Ny469.out] at ho6));have n0_:=mk_ (Kd.R_lower ho6 (bz_ (by repeat (first|(with_reducible first|exact HB.out|apply ba_|apply bn_|apply bd_|refine bs_ ?_ GE468.out)|exact HB.out))));have n1_:=mk_ (blk_below (g:=gb468) (o:=.cells #[.int .i64 a0_0,.slice A0_1 l0_1.length c0_1,.slice A0_2 l0_2.length c0_2,.slice A0_3 l0_3.length c0_3] 30 (0,0)) (by (with_reducible repeat (first|refine kn_ ?_ _|refine kd_ ?_|refine ka_ ?_ _));exact BK468.out) hb);have n2_:=mk_ (st_ (by repeat (first|(with_reducible first|exact HB.out|apply ba_|apply bn_|apply bd_|refine bs_ ?_ GE468.out)|exact HB.out)) hb);clear BK468;clear HB;have HO471:=n0_;have BK468:=n1_;have HB:=n2_;clear n0_ n1_ n2_;clear hb ho6))
 (try simp only [Act.put,List.setIfInBounds_toArray,List.set_cons_zero,List.set_cons_succ])
 go_cut [18] (fun v18 wc => ∃ (kq : Nat) (x18_2 : Bool),v18 = .bool x18_2 ∧ Aside0 (spec_FloodOver.j0 kq a1 y469 x18_2 a0_0 l0_1 l0_2 l0_3 = some r) ∧ Aside0 (kq ≤ k) ∧ Aside0 (Kd.R (Kd.int .i64) 3 wc w.heap.size (fun _ => True) v470 y469) ∧ Aside0 (wc.heap[gb468]? = some (.cells #[.int .i64 a0_0,(.slice A0_1 l0_1.length c0_1),(.slice A0_2 l0_2.length c0_2),(.slice A0_3 l0_3.length c0_3)] 30 (0,0))) ∧ Aside0 (Below w.heap.size w wc))
 case first =>
  have H:=HC3.out
  clear HC3
  replace H:=Option.bind_eq_some_iff.mp H
  obtain ⟨t472,A70,H⟩:=H
  replace H : (if t472 = true then ((spec_l19Station.f a0_0 l0_1 l0_2 l0_3 a1).bind fun t473 => (spec_FloodOver.j0 k a1 y469 (!t473) a0_0 l0_1 l0_2 l0_3)) else (spec_FloodOver.j0 k a1 y469 true a0_0 l0_1 l0_2 l0_3)) = some r:=H
  have A7:=mk_ A70
  clear A70
  by_cases c8 : t472 = true
  ·subst c8
   have H1 : ((spec_l19Station.f a0_0 l0_1 l0_2 l0_3 a1).bind fun t473 => (spec_FloodOver.j0 k a1 y469 (!t473) a0_0 l0_1 l0_2 l0_3)) = some r:=by rw [if_pos rfl] at H;exact H
   clear H
   have H:=H1
   clear H1
   replace H:=Option.bind_eq_some_iff.mp H
   obtain ⟨t473,A90,H⟩:=H
   replace H : (spec_FloodOver.j0 k a1 y469 (!t473) a0_0 l0_1 l0_2 l0_3) = some r:=H
   have A9:=mk_ A90
   clear A90
   have H':=mk_ H
   clear H
   have hcz10_0 : w5.cell? ⟨gb468,0,none⟩ = some (.int .i64 a0_0):=(bc_ BK468.out 0).trans rfl
   have hcz10_1 : w5.cell? ⟨gb468,1,none⟩ = some (.slice A0_1 l0_1.length c0_1):=(bc_ BK468.out 1).trans rfl
   have hcz10_2 : w5.cell? ⟨gb468,2,none⟩ = some (.slice A0_2 l0_2.length c0_2):=(bc_ BK468.out 2).trans rfl
   have hcz10_3 : w5.cell? ⟨gb468,3,none⟩ = some (.slice A0_3 l0_3.length c0_3):=(bc_ BK468.out 3).trans rfl
   have hfz10_0:=bf_ BK468.out 0
   have hfz10_1:=bf_ BK468.out 1
   have hfz10_2:=bf_ BK468.out 2
   have hfz10_3:=bf_ BK468.out 3
   go_wp2_with (first|((with_reducible refine gate_callee (f:=13) rfl ?_);refine goesL_ (some 11) rfl rfl Try.func13 (by kernel_rfl) rfl #[.agg #[.int .i64 a0_0,.slice A0_1 l0_1.length c0_1,.slice A0_2 l0_2.length c0_2,.slice A0_3 l0_3.length c0_3]] rfl (by (try simp only [List.map_toArray,List.map_cons,List.map_nil]);first|done|rfl|(simp only [List.length_drop,List.length_take];rfl)) ?_;(with_reducible refine (spec_NetValid.calls k a0_0 _ _ l0_1 _ _ l0_2 _ _ l0_3 true _ ?side1 ?side2 ?side3 ?side4 ?side5 ?side6 A7.out).mono ?_);(case side1 => repeat (first|exact (cb_ HR0_1.out HB.out)|(with_reducible refine ca_ ?_ _)|(with_reducible refine cn_ ?_ _)|(with_reducible refine cd_ ?_)));(case side2 => exact HC0_1.out);(case side3 => repeat (first|exact (cb_ HR0_2.out HB.out)|(with_reducible refine ca_ ?_ _)|(with_reducible refine cn_ ?_ _)|(with_reducible refine cd_ ?_)));(case side4 => exact HC0_2.out);(case side5 => repeat (first|exact (cb_ HR0_3.out HB.out)|(with_reducible refine ca_ ?_ _)|(with_reducible refine cn_ ?_ _)|(with_reducible refine cd_ ?_)));(case side6 => exact HC0_3.out);rintro e w11 ⟨rfl,hb⟩;refine ⟨_,rfl,?_⟩;have n0_:=mk_ (rb_ (by (with_reducible repeat (first|apply ra_|apply rn_|apply rd_));exact HO471.out) hb);have n1_:=mk_ (blk_below (g:=gb468) (o:=.cells #[.int .i64 a0_0,.slice A0_1 l0_1.length c0_1,.slice A0_2 l0_2.length c0_2,.slice A0_3 l0_3.length c0_3] 30 (0,0)) (by (with_reducible repeat (first|refine kn_ ?_ _|refine kd_ ?_|refine ka_ ?_ _));exact BK468.out) hb);have n2_:=mk_ (st_ (by repeat (first|(with_reducible first|exact HB.out|apply ba_|apply bn_|apply bd_|refine bs_ ?_ GE468.out)|exact HB.out)) hb);clear HO471;clear BK468;clear HB;have HO471:=n0_;have BK468:=n1_;have HB:=n2_;clear n0_ n1_ n2_;(try clear hb);(try clear hb2);(try clear hk);(try clear hi);have hcz12_0 : w11.cell? ⟨gb468,0,none⟩ = some (.int .i64 a0_0):=(bc_ BK468.out 0).trans rfl;have hcz12_1 : w11.cell? ⟨gb468,1,none⟩ = some (.slice A0_1 l0_1.length c0_1):=(bc_ BK468.out 1).trans rfl;have hcz12_2 : w11.cell? ⟨gb468,2,none⟩ = some (.slice A0_2 l0_2.length c0_2):=(bc_ BK468.out 2).trans rfl;have hcz12_3 : w11.cell? ⟨gb468,3,none⟩ = some (.slice A0_3 l0_3.length c0_3):=(bc_ BK468.out 3).trans rfl;have hfz12_0:=bf_ BK468.out 0;have hfz12_1:=bf_ BK468.out 1;have hfz12_2:=bf_ BK468.out 2;have hfz12_3:=bf_ BK468.out 3)|(go_at_call 56;(with_reducible refine (spec_l19Station.calls a0_0 _ _ l0_1 _ _ l0_2 _ _ l0_3 a1 t473 _ ?side1 ?side2 ?side3 ?side4 ?side5 ?side6 A9.out).mono ?_);(case side1 => repeat (first|exact (cb_ HR0_1.out HB.out)|(with_reducible refine ca_ ?_ _)|(with_reducible refine cn_ ?_ _)|(with_reducible refine cd_ ?_)));(case side2 => exact HC0_1.out);(case side3 => repeat (first|exact (cb_ HR0_2.out HB.out)|(with_reducible refine ca_ ?_ _)|(with_reducible refine cn_ ?_ _)|(with_reducible refine cd_ ?_)));(case side4 => exact HC0_2.out);(case side5 => repeat (first|exact (cb_ HR0_3.out HB.out)|(with_reducible refine ca_ ?_ _)|(with_reducible refine cn_ ?_ _)|(with_reducible refine cd_ ?_)));(case side6 => exact HC0_3.out);rintro e w13 ⟨rfl,hb⟩;have n0_:=mk_ (rb_ (by (with_reducible repeat (first|apply ra_|apply rn_|apply rd_));exact HO471.out) hb);have n1_:=mk_ (blk_below (g:=gb468) (o:=.cells #[.int .i64 a0_0,.slice A0_1 l0_1.length c0_1,.slice A0_2 l0_2.length c0_2,.slice A0_3 l0_3.length c0_3] 30 (0,0)) (by (with_reducible repeat (first|refine kn_ ?_ _|refine kd_ ?_|refine ka_ ?_ _));exact BK468.out) hb);have n2_:=mk_ (st_ (by repeat (first|(with_reducible first|exact HB.out|apply ba_|apply bn_|apply bd_|refine bs_ ?_ GE468.out)|exact HB.out)) hb);clear HO471;clear BK468;clear HB;have HO471:=n0_;have BK468:=n1_;have HB:=n2_;clear n0_ n1_ n2_;(try clear hb);(try clear hb2);(try clear hk);(try clear hi)))
   go_meet
   case rel => exact ⟨_,(!t473),(by first|rfl|(simp;done)|(simp [*];done)),H',⟨by first|omega|exact Nat.le_refl _⟩,⟨by (with_reducible repeat (first|apply ra_|apply rn_|apply rd_));exact HO471.out⟩,⟨by (with_reducible repeat (first|refine kn_ ?_ _|refine kd_ ?_|refine ka_ ?_ _));exact BK468.out⟩,⟨by repeat (first|(with_reducible first|exact HB.out|apply ba_|apply bn_|apply bd_|refine bs_ ?_ GE468.out)|exact HB.out)⟩⟩
  ·replace c8:=Bool.eq_false_iff.mpr c8
   subst c8
   have H1 : (spec_FloodOver.j0 k a1 y469 true a0_0 l0_1 l0_2 l0_3) = some r:=by rw [if_neg (show ¬ (false = true) by decide)] at H;exact H
   clear H
   have H:=H1
   clear H1
   have H':=mk_ H
   clear H
   have hcz14_0 : w5.cell? ⟨gb468,0,none⟩ = some (.int .i64 a0_0):=(bc_ BK468.out 0).trans rfl
   have hcz14_1 : w5.cell? ⟨gb468,1,none⟩ = some (.slice A0_1 l0_1.length c0_1):=(bc_ BK468.out 1).trans rfl
   have hcz14_2 : w5.cell? ⟨gb468,2,none⟩ = some (.slice A0_2 l0_2.length c0_2):=(bc_ BK468.out 2).trans rfl
   have hcz14_3 : w5.cell? ⟨gb468,3,none⟩ = some (.slice A0_3 l0_3.length c0_3):=(bc_ BK468.out 3).trans rfl
   have hfz14_0:=bf_ BK468.out 0
   have hfz14_1:=bf_ BK468.out 1
   have hfz14_2:=bf_ BK468.out 2
   have hfz14_3:=bf_ BK468.out 3
   go_wp2_with (first|((with_reducible refine gate_callee (f:=13) rfl ?_);refine goesL_ (some 11) rfl rfl Try.func13 (by kernel_rfl) rfl #[.agg #[.int .i64 a0_0,.slice A0_1 l0_1.length c0_1,.slice A0_2 l0_2.length c0_2,.slice A0_3 l0_3.length c0_3]] rfl (by (try simp only [List.map_toArray,List.map_cons,List.map_nil]);first|done|rfl|(simp only [List.length_drop,List.length_take];rfl)) ?_;(with_reducible refine (spec_NetValid.calls k a0_0 _ _ l0_1 _ _ l0_2 _ _ l0_3 false _ ?side1 ?side2 ?side3 ?side4 ?side5 ?side6 A7.out).mono ?_);(case side1 => repeat (first|exact (cb_ HR0_1.out HB.out)|(with_reducible refine ca_ ?_ _)|(with_reducible refine cn_ ?_ _)|(with_reducible refine cd_ ?_)));(case side2 => exact HC0_1.out);(case side3 => repeat (first|exact (cb_ HR0_2.out HB.out)|(with_reducible refine ca_ ?_ _)|(with_reducible refine cn_ ?_ _)|(with_reducible refine cd_ ?_)));(case side4 => exact HC0_2.out);(case side5 => repeat (first|exact (cb_ HR0_3.out HB.out)|(with_reducible refine ca_ ?_ _)|(with_reducible refine cn_ ?_ _)|(with_reducible refine cd_ ?_)));(case side6 => exact HC0_3.out);rintro e w15 ⟨rfl,hb⟩;refine ⟨_,rfl,?_⟩;have n0_:=mk_ (rb_ (by (with_reducible repeat (first|apply ra_|apply rn_|apply rd_));exact HO471.out) hb);have n1_:=mk_ (blk_below (g:=gb468) (o:=.cells #[.int .i64 a0_0,.slice A0_1 l0_1.length c0_1,.slice A0_2 l0_2.length c0_2,.slice A0_3 l0_3.length c0_3] 30 (0,0)) (by (with_reducible repeat (first|refine kn_ ?_ _|refine kd_ ?_|refine ka_ ?_ _));exact BK468.out) hb);have n2_:=mk_ (st_ (by repeat (first|(with_reducible first|exact HB.out|apply ba_|apply bn_|apply bd_|refine bs_ ?_ GE468.out)|exact HB.out)) hb);clear HO471;clear BK468;clear HB;have HO471:=n0_;have BK468:=n1_;have HB:=n2_;clear n0_ n1_ n2_;(try clear hb);(try clear hb2);(try clear hk);(try clear hi)))
   go_meet
   case rel => exact ⟨_,(true),(by first|rfl|(simp;done)|(simp [*];done)),H',⟨by first|omega|exact Nat.le_refl _⟩,⟨by (with_reducible repeat (first|apply ra_|apply rn_|apply rd_));exact HO471.out⟩,⟨by (with_reducible repeat (first|refine kn_ ?_ _|refine kd_ ?_|refine ka_ ?_ _));exact BK468.out⟩,⟨by repeat (first|(with_reducible first|exact HB.out|apply ba_|apply bn_|apply bd_|refine bs_ ?_ GE468.out)|exact HB.out)⟩⟩
 case rest =>
  clear HC3
  try clear c1
  try clear p2
  try clear c3
  try clear c8
  try clear c13
  try clear hcz10_0
  try clear hcz10_1
  try clear hcz10_2
  try clear hcz10_3
  try clear hcz12_0
  try clear hcz12_1
  try clear hcz12_2
  try clear hcz12_3
  try clear hcz14_0
  try clear hcz14_1
  try clear hcz14_2
  try clear hcz14_3
  try clear hfz10_0
  try clear hfz10_1
  try clear hfz10_2
  try clear hfz10_3
  try clear hfz12_0
  try clear hfz12_1
  try clear hfz12_2
  try clear hfz12_3
  try clear hfz14_0
  try clear hfz14_1
  try clear hfz14_2
  try clear hfz14_3
  obtain ⟨kq,x18_2,rfl,HA,HJ2,HO_5,BK468,HB⟩:=hcut
  cases kq with
  | zero => exact absurd HA.out (by simp [spec_FloodOver.j0])
  | succ kj2 =>
   have H:=HA.out
   clear HA
   simp only [spec_FloodOver.j0] at H
   by_cases c16 : x18_2 = true
   ·subst c16
    have H1 : (some y469) = some r:=by rw [if_pos rfl] at H;exact H
    clear H
    have H:=H1
    clear H1
    obtain rfl:=Option.some.inj H
    go_wp2
    go_ret
    exact ⟨_,by first|rfl|(simp [errW_none,errW_some] <;> rfl)|(simp [*,errW_none,errW_some] <;> rfl),by (with_reducible repeat (first|apply ra_|apply rn_|apply rd_));exact HO_5.out,by repeat (first|(with_reducible first|exact HB.out|apply ba_|apply bn_|apply bd_|refine bs_ ?_ GE468.out)|exact HB.out)⟩
   ·replace c16:=Bool.eq_false_iff.mpr c16
    subst c16
    have H1 : (if 0 ≤ a1 then (if a1 < (l0_2.length : Int) then ((spec_l7Joined.f kj2 a0_0 l0_1 (rd l0_2 a1)).bind fun t475 => ((spec_TreeOf.f kj2 a0_0 l0_1).bind fun t478 => (spec_FloodOver.l0 kj2 y469 t475 t478 0 a0_0 l0_1 l0_2 l0_3))) else (none)) else (none)) = some r:=by rw [if_neg (show ¬ (false = true) by decide)] at H;exact H
    clear H
    have H:=H1
    clear H1
    by_cases c17 : 0 ≤ a1
    ·rw [if_pos c17] at H
     have c17b0 : decide (0 ≤ a1) = true:=decide_eq_true c17
     clear c17
     by_cases c18 : a1 < (l0_2.length : Int)
     ·rw [if_pos c18] at H
      have c18b0 : decide (a1 < (l0_2.length : Int)) = true:=decide_eq_true c18
      clear c18
      replace H:=Option.bind_eq_some_iff.mp H
      obtain ⟨t475,A190,H⟩:=H
      replace H : ((spec_TreeOf.f kj2 a0_0 l0_1).bind fun t478 => (spec_FloodOver.l0 kj2 y469 t475 t478 0 a0_0 l0_1 l0_2 l0_3)) = some r:=H
      have A19:=mk_ A190
      clear A190
      replace H:=Option.bind_eq_some_iff.mp H
      obtain ⟨t478,A200,H⟩:=H
      replace H : (spec_FloodOver.l0 kj2 y469 t475 t478 0 a0_0 l0_1 l0_2 l0_3) = some r:=H
      have A20:=mk_ A200
      clear A200
      have H':=mk_ H
      clear H
      try go_wp2
      have n0_:=mk_ (rd_ HO_5.out)
      have n1_:=mk_ (kd_ BK468.out)
      have n2_:=mk_ (bd_ HB.out)
      clear HO_5
      clear BK468
      clear HB
      have HO_5:=n0_
      have BK468:=n1_
      have HB:=n2_
      clear n0_ n1_ n2_
      have p474 : 0 ≤ (a1 : Int):=od_ (by first|(with_reducible assumption)|assumption)
      have q474 : a1 < (l0_2.length : Int):=od_ (by first|(with_reducible assumption)|assumption)
      obtain ⟨ad474,e474,hx474_0⟩:=Kd.at_int HR0_2.out a1 p474 q474
      have hw474_0:=hx474_0
      cases e474
      replace hx474_0:=(HB.out.cell (wl_ w _ hx474_0)).trans hx474_0
      replace p474:=eq_true p474
      replace q474:=eq_true q474
      refine start_ (n:=11) (S:=fun w' => w'.cell? ⟨gb468,0,none⟩ = some (.int .i64 a0_0) ∧ w'.cell? ⟨gb468,1,none⟩ = some (.slice A0_1 l0_1.length c0_1) ∧ w'.cell? ⟨gb468,2,none⟩ = some (.slice (some ad474) l0_2.length c0_2) ∧ w'.cell? ⟨gb468,3,none⟩ = some (.slice A0_3 l0_3.length c0_3) ∧ w'.cell? (ad474.add (a1).toNat) = some (.int .i64 (rd l0_2 a1))) (ds:=[]) #[false,false,false,false,false,false,false,false,false,false,false] (by kernel_rfl) rfl rfl ⟨(bc_ BK468.out 0).trans rfl,(bc_ BK468.out 1).trans rfl,(bc_ BK468.out 2).trans rfl,(bc_ BK468.out 3).trans rfl,((HB.out.cell (wl_ w _ hw474_0)).trans hw474_0)⟩ (fun hHeld => ?_);refine with_tabW spec_FloodOver.tab4 spec_FloodOver.bits4 (fun HT_ HW_ => ?_)
      generalize wc.drew = w21 at HO_5 BK468 HB hx474_0 hHeld ⊢
      refine pure_ (i:=0) (N:=some 20) (v:=?_) (a':=?_) #[true,false,false,false,false,false,false,false,false,false,false] rfl rfl (any_of HT_.out (by kernel_rfl)) (fun _ _ _ h => h) (Or.inl ⟨by rfl,?_⟩) ?_ ?_
      rotate_left
      ·intro w'
       go_simp
       with_reducible rfl
      rotate_left
      ·simp only [Act.put,List.setIfInBounds_toArray,List.set_cons_zero,List.set_cons_succ,i64_w,i32_w]
       rfl
      refine pure_ (i:=2) (N:=some 22) (v:=?_) (a':=?_) #[true,false,true,false,false,false,false,false,false,false,false] rfl rfl (any_of HT_.out (by kernel_rfl)) (fun _ _ _ h => h) (Or.inl ⟨by rfl,?_⟩) ?_ ?_
      rotate_left
      ·intro w'
       go_simp
       with_reducible rfl
      rotate_left
      ·simp only [Act.put,List.setIfInBounds_toArray,List.set_cons_zero,List.set_cons_succ,i64_w,i32_w]
       rfl
      refine pure_ (i:=4) (N:=some 24) (v:=?_) (a':=?_) #[true,false,true,false,true,false,false,false,false,false,false] rfl rfl (any_of HT_.out (by kernel_rfl)) (fun _ _ _ h => h) (Or.inl ⟨by rfl,?_⟩) ?_ ?_
      rotate_left
      ·intro w'
       go_simp
       with_reducible rfl
      rotate_left
      ·simp only [Act.put,List.setIfInBounds_toArray,List.set_cons_zero,List.set_cons_succ,i64_w,i32_w]
       rfl
      refine pure_ (i:=6) (N:=some 26) (v:=?_) (a':=?_) #[true,false,true,false,true,false,true,false,false,false,false] rfl rfl (any_of HT_.out (by kernel_rfl)) (fun _ _ _ h => h) (Or.inl ⟨by rfl,?_⟩) ?_ ?_
      rotate_left
      ·intro w'
       go_simp
       with_reducible rfl
      rotate_left
      ·simp only [Act.put,List.setIfInBounds_toArray,List.set_cons_zero,List.set_cons_succ,i64_w,i32_w]
       rfl
      refine take_ (i:=1) (N:=some 21) (v:=?_) (a':=?_) #[true,true,true,false,true,false,true,false,false,false,false] rfl rfl (take_ofW HT_.out HW_.out (by kernel_rfl)) (fun _ _ _ h => h) (Or.inl ⟨by rfl,?_⟩) hHeld ?_ ?_
      rotate_left
      ·rintro w' ⟨s0,s1,s2,s3,s4⟩
       go_simp
       with_reducible rfl
      rotate_left
      ·simp only [Act.put,List.setIfInBounds_toArray,List.set_cons_zero,List.set_cons_succ,i64_w,i32_w]
       rfl
      refine take_ (i:=3) (N:=some 23) (v:=?_) (a':=?_) #[true,true,true,true,true,false,true,false,false,false,false] rfl rfl (take_ofW HT_.out HW_.out (by kernel_rfl)) (fun _ _ _ h => h) (Or.inl ⟨by rfl,?_⟩) hHeld ?_ ?_
      rotate_left
      ·rintro w' ⟨s0,s1,s2,s3,s4⟩
       go_simp
       with_reducible rfl
      rotate_left
      ·simp only [Act.put,List.setIfInBounds_toArray,List.set_cons_zero,List.set_cons_succ,i64_w,i32_w]
       rfl
      refine take_ (i:=5) (N:=some 25) (v:=?_) (a':=?_) #[true,true,true,true,true,true,true,false,false,false,false] rfl rfl (take_ofW HT_.out HW_.out (by kernel_rfl)) (fun _ _ _ h => h) (Or.inl ⟨by rfl,?_⟩) hHeld ?_ ?_
      rotate_left
      ·rintro w' ⟨s0,s1,s2,s3,s4⟩
       go_simp
       with_reducible rfl
      rotate_left
      ·simp only [Act.put,List.setIfInBounds_toArray,List.set_cons_zero,List.set_cons_succ,i64_w,i32_w]
       rfl
      refine pure_ (i:=7) (N:=some 27) (v:=?_) (a':=?_) #[true,true,true,true,true,true,true,true,false,false,false] rfl rfl (any_of HT_.out (by kernel_rfl)) (fun _ _ _ h => h) (Or.inl ⟨by rfl,?_⟩) ?_ ?_
      rotate_left
      ·intro w'
       go_simp
       with_reducible rfl
      rotate_left
      ·simp only [Act.put,List.setIfInBounds_toArray,List.set_cons_zero,List.set_cons_succ,i64_w,i32_w]
       rfl
      refine take_ (i:=8) (N:=some 28) (v:=?_) (a':=?_) #[true,true,true,true,true,true,true,true,true,false,false] rfl rfl (take_ofW HT_.out HW_.out (by kernel_rfl)) (fun _ _ _ h => h) (Or.inl ⟨by rfl,?_⟩) hHeld ?_ ?_
      rotate_left
      ·rintro w' ⟨s0,s1,s2,s3,s4⟩
       go_simp
       with_reducible rfl
      rotate_left
      ·simp only [Act.put,List.setIfInBounds_toArray,List.set_cons_zero,List.set_cons_succ,i64_w,i32_w]
       rfl
      refine one_ (i:=9) (N:=some 29) #[true,true,true,true,true,true,true,true,true,true,false] rfl rfl (one_of HT_.out (by kernel_rfl)) (by decide) (fun K hK => ?_)
      refine goes_ Try.func57 (by kernel_rfl) rfl #[.int .i64 a0_0,.slice A0_1 l0_1.length c0_1,.int .i64 (rd l0_2 a1)] (by rfl) rfl rfl (by (try simp only [List.map_toArray,List.map_cons,List.map_nil]);first|done|rfl|(simp only [List.length_drop,List.length_take];rfl)) ?_
      with_reducible refine (spec_l7Joined.calls kj2 a0_0 _ _ l0_1 (rd l0_2 a1) t475 _ ?side1 ?side2 A19.out).mono ?_
      (case side1 => repeat (first|exact (cb_ HR0_1.out HB.out)|(with_reducible refine ca_ ?_ _)|(with_reducible refine cn_ ?_ _)|(with_reducible refine cd_ ?_)))
      (case side2 => exact HC0_1.out)
      rintro e w22 ⟨v476,rfl,ho0,hb⟩
      refine ⟨_,rfl,?_⟩
      have n0_:=mk_ (rb_ (by (with_reducible repeat (first|apply ra_|apply rn_|apply rd_));exact HO_5.out) hb)
      have n1_:=mk_ (Kd.R_lower ho0 (bz_ (by repeat (first|(with_reducible first|exact HB.out|apply ba_|apply bn_|apply bd_|refine bs_ ?_ GE468.out)|exact HB.out))))
      have n2_:=mk_ (blk_below (g:=gb468) (o:=.cells #[.int .i64 a0_0,.slice A0_1 l0_1.length c0_1,.slice (some ad474) l0_2.length c0_2,.slice A0_3 l0_3.length c0_3] 30 (0,0)) (by (with_reducible repeat (first|refine kn_ ?_ _|refine kd_ ?_|refine ka_ ?_ _));exact BK468.out) hb)
      have n3_:=mk_ (st_ (by repeat (first|(with_reducible first|exact HB.out|apply ba_|apply bn_|apply bd_|refine bs_ ?_ GE468.out)|exact HB.out)) hb)
      clear HO_5
      clear BK468
      clear HB
      have HO_5:=n0_
      have HO477:=n1_
      have BK468:=n2_
      have HB:=n3_
      clear n0_ n1_ n2_ n3_
      (try clear hb)
      (try clear hb2)
      (try clear hk)
      (try clear hi)
      (try clear ho0)
      refine hK.out _ _ ⟨(bc_ BK468.out 0).trans rfl,(bc_ BK468.out 1).trans rfl,(bc_ BK468.out 2).trans rfl,(bc_ BK468.out 3).trans rfl,((HB.out.cell (wl_ w _ hw474_0)).trans hw474_0)⟩ (fun hHeld => ?_)
      clear hK K
      refine norm_ (a':=?_) ?_ ?_
      rotate_left
      ·show Act.put _ (some 29) _ = _
       simp only [Act.put,List.setIfInBounds_toArray,List.set_cons_zero,List.set_cons_succ,i64_w,i32_w]
       rfl
      refine pure_ (i:=10) (N:=some 6) (v:=?_) (a':=?_) #[true,true,true,true,true,true,true,true,true,true,true] rfl rfl (any_of HT_.out (by kernel_rfl)) (fun _ _ _ h => h) (Or.inl ⟨by rfl,?_⟩) ?_ ?_
      rotate_left
      ·intro w'
       go_simp
       with_reducible rfl
      rotate_left
      ·simp only [Act.put,List.setIfInBounds_toArray,List.set_cons_zero,List.set_cons_succ,i64_w,i32_w]
       rfl
      refine done_ (done_of HT_.out (by kernel_rfl)) ?_
      have hcz23_0 : w22.cell? ⟨gb468,0,none⟩ = some (.int .i64 a0_0):=(bc_ BK468.out 0).trans rfl
      have hcz23_1 : w22.cell? ⟨gb468,1,none⟩ = some (.slice A0_1 l0_1.length c0_1):=(bc_ BK468.out 1).trans rfl
      have hcz23_2 : w22.cell? ⟨gb468,2,none⟩ = some (.slice (some ad474) l0_2.length c0_2):=(bc_ BK468.out 2).trans rfl
      have hcz23_3 : w22.cell? ⟨gb468,3,none⟩ = some (.slice A0_3 l0_3.length c0_3):=(bc_ BK468.out 3).trans rfl
      have hfz23_0:=bf_ BK468.out 0
      have hfz23_1:=bf_ BK468.out 1
      have hfz23_2:=bf_ BK468.out 2
      have hfz23_3:=bf_ BK468.out 3
      try go_wp2_with (first|((with_reducible refine gate_callee (f:=65) rfl ?_);refine goesL_ (some 34) rfl rfl Try.func65 (by kernel_rfl) rfl #[.int .i64 a0_0,.slice A0_1 l0_1.length c0_1] rfl (by (try simp only [List.map_toArray,List.map_cons,List.map_nil]);first|done|rfl|(simp only [List.length_drop,List.length_take];rfl)) ?_;(with_reducible refine (spec_TreeOf.calls kj2 a0_0 _ _ l0_1 t478 _ ?side1 ?side2 A20.out).mono ?_);(case side1 => repeat (first|exact (cb_ HR0_1.out HB.out)|(with_reducible refine ca_ ?_ _)|(with_reducible refine cn_ ?_ _)|(with_reducible refine cd_ ?_)));(case side2 => exact HC0_1.out);rintro e w24 ⟨v479,rfl,ho0,hb⟩;refine ⟨_,rfl,?_⟩;have n0_:=mk_ (re_ (by (with_reducible repeat (first|apply ra_|apply rn_|apply rd_));exact HO_5.out) (Kd.R_base ho0) hb);have n1_:=mk_ (rb_ (by (with_reducible repeat (first|apply ra_|apply rn_|apply rd_));exact HO477.out) hb);have n2_:=mk_ (Kd.R_lower (Kd.R_new' ho0 (Kd.R_lt (by (with_reducible repeat (first|apply ra_|apply rn_|apply rd_));exact HO_5.out))) (bz_ (by repeat (first|(with_reducible first|exact HB.out|apply ba_|apply bn_|apply bd_|refine bs_ ?_ GE468.out)|exact HB.out))));have n3_:=mk_ (blk_below (g:=gb468) (o:=.cells #[.int .i64 a0_0,.slice A0_1 l0_1.length c0_1,.slice (some ad474) l0_2.length c0_2,.slice A0_3 l0_3.length c0_3] 30 (0,0)) (by (with_reducible repeat (first|refine kn_ ?_ _|refine kd_ ?_|refine ka_ ?_ _));exact BK468.out) hb);have n4_:=mk_ (st_ (by repeat (first|(with_reducible first|exact HB.out|apply ba_|apply bn_|apply bd_|refine bs_ ?_ GE468.out)|exact HB.out)) hb);clear HO_5;clear HO477;clear BK468;clear HB;have HO_5:=n0_;have HO477:=n1_;have HO480:=n2_;have BK468:=n3_;have HB:=n4_;clear n0_ n1_ n2_ n3_ n4_;(try clear hb);(try clear hb2);(try clear hk);(try clear hi);(try clear ho0)))
      go_loopg [5,8] kj2 (fun kq v5 v8 w' => ∃ (x5_2 : List Int) (x8_2 : Int),v8 = .int .i64 x8_2 ∧ Aside0 (spec_FloodOver.l0 kq x5_2 t475 t478 x8_2 a0_0 l0_1 l0_2 l0_3 = some r) ∧ Aside0 (kq ≤ kj2) ∧ Aside0 (Kd.R (Kd.int .i64) 3 w' w.heap.size (fun k_ => some k_ ≠ (v479 : Value).ownBlock) v5 x5_2) ∧ Aside0 (Kd.R Kd.bool 4 w' w.heap.size (fun _ => True) v476 t475) ∧ Aside0 (Kd.R (Kd.int .i64) 3 w' w.heap.size (fun k_ => some k_ ≠ (v5 : Value).ownBlock) v479 t478) ∧ Aside0 (w'.heap[gb468]? = some (.cells #[.int .i64 a0_0,(.slice A0_1 l0_1.length c0_1),(.slice (some ad474) l0_2.length c0_2),(.slice A0_3 l0_3.length c0_3)] 30 (0,0))) ∧ Aside0 (Below w.heap.size w w'))
      case atStart => exact ⟨(y469),(0),(by first|rfl|(simp;done)|(simp [*];done)),H',⟨Nat.le_refl _⟩,⟨by (with_reducible repeat (first|apply ra_|apply rn_|apply rd_));exact rm_ HO_5.out (fun _ hk => hk.2)⟩,⟨by (with_reducible repeat (first|apply ra_|apply rn_|apply rd_));exact HO477.out⟩,⟨by (with_reducible repeat (first|apply ra_|apply rn_|apply rd_));exact rm_ HO480.out (fun _ hk => hk.2)⟩,⟨by (with_reducible repeat (first|refine kn_ ?_ _|refine kd_ ?_|refine ka_ ?_ _));exact BK468.out⟩,⟨by repeat (first|(with_reducible first|exact HB.out|apply ba_|apply bn_|apply bd_|refine bs_ ?_ GE468.out)|exact HB.out)⟩⟩
      case round =>
       clear H'
       try clear c1
       try clear p2
       try clear c3
       try clear p4
       try clear q4
       try clear hx4
       try clear c5
       try clear c6
       try clear c8
       try clear c13
       try clear c16
       try clear c17
       try clear c17b0
       try clear c18
       try clear c18b0
       try clear hcz10_0
       try clear hcz10_1
       try clear hcz10_2
       try clear hcz10_3
       try clear hcz12_0
       try clear hcz12_1
       try clear hcz12_2
       try clear hcz12_3
       try clear hcz14_0
       try clear hcz14_1
       try clear hcz14_2
       try clear hcz14_3
       try clear hcz23_0
       try clear hcz23_1
       try clear hcz23_2
       try clear hcz23_3
       try clear hfz10_0
       try clear hfz10_1
       try clear hfz10_2
       try clear hfz10_3
       try clear hfz12_0
       try clear hfz12_1
       try clear hfz12_2
       try clear hfz12_3
       try clear hfz14_0
       try clear hfz14_1
       try clear hfz14_2
       try clear hfz14_3
       try clear hfz23_0
       try clear hfz23_1
       try clear hfz23_2
       try clear hfz23_3
       try clear hx474_0
       try clear p2
       try clear p474
       try clear q474
       obtain ⟨x5_2,x8_2,rfl,HA,HK2,HO_5,HO_6,HO_7,BK468,HB⟩:=hrel
       cases gk with
       | zero => exact absurd HA.out (by simp [spec_FloodOver.l0])
       | succ k2 =>
        have H:=HA.out
        clear HA
        simp only [spec_FloodOver.l0] at H
        by_cases c25 : x8_2 < (t478.length : Int)
        ·rw [if_pos c25] at H
         have c25b0 : decide (x8_2 < (t478.length : Int)) = true:=decide_eq_true c25
         clear c25
         by_cases c26 : 0 ≤ x8_2
         ·rw [if_pos c26] at H
          have c26b0 : decide (0 ≤ x8_2) = true:=decide_eq_true c26
          clear c26
          by_cases c27 : 0 ≤ (rd t478 x8_2)
          ·rw [if_pos c27] at H
           have c27b0 : decide (0 ≤ (rd t478 x8_2)) = true:=decide_eq_true c27
           clear c27
           by_cases c28 : (rd t478 x8_2) < (l0_1.length : Int)
           ·rw [if_pos c28] at H
            have c28b0 : decide ((rd t478 x8_2) < (l0_1.length : Int)) = true:=decide_eq_true c28
            clear c28
            by_cases c29 : 0 ≤ ((rd_T51 l0_1 (rd t478 x8_2)).f0)
            ·rw [if_pos c29] at H
             have c29b0 : decide (0 ≤ ((rd_T51 l0_1 (rd t478 x8_2)).f0)) = true:=decide_eq_true c29
             clear c29
             by_cases c30 : ((rd_T51 l0_1 (rd t478 x8_2)).f0) < (t475.length : Int)
             ·rw [if_pos c30] at H
              have c30b0 : decide (((rd_T51 l0_1 (rd t478 x8_2)).f0) < (t475.length : Int)) = true:=decide_eq_true c30
              clear c30
              obtain ⟨bq31,hbq31⟩ : ∃ b_ : Bool,b_ = (rdOf false t475 ((rd_T51 l0_1 (rd t478 x8_2)).f0)):=⟨_,rfl⟩
              replace H : (if bq31 = true then (if x5_2.length < 17592186044416 then (spec_FloodOver.l0 k2 (x5_2 ++ [rd t478 x8_2]) t475 t478 (wrap64 (x8_2 + 1)) a0_0 l0_1 l0_2 l0_3) else (none)) else (spec_FloodOver.l0 k2 x5_2 t475 t478 (wrap64 (x8_2 + 1)) a0_0 l0_1 l0_2 l0_3)) = some r:=by rw [← hbq31] at H;exact H
              have Nbq31:=mk_ hbq31
              clear hbq31
              by_cases c32 : bq31 = true
              ·subst c32
               have H1 : (if x5_2.length < 17592186044416 then (spec_FloodOver.l0 k2 (x5_2 ++ [rd t478 x8_2]) t475 t478 (wrap64 (x8_2 + 1)) a0_0 l0_1 l0_2 l0_3) else (none)) = some r:=by rw [if_pos rfl] at H;exact H
               clear H
               have H:=H1
               clear H1
               by_cases c33 : x5_2.length < 17592186044416
               ·rw [if_pos c33] at H
                have LMc33:=mk_ c33
                clear c33
                obtain ⟨y485,hy485⟩ : ∃ y_ : List Int,y_ = (x5_2 ++ [rd t478 x8_2]):=⟨_,rfl⟩
                replace H : (spec_FloodOver.l0 k2 y485 t475 t478 (wrap64 (x8_2 + 1)) a0_0 l0_1 l0_2 l0_3) = some r:=by first|(rw [hy485];with_reducible exact H)|(have H2_:=(Option.bind_some _ _).symm.trans H;rw [hy485];with_reducible exact H2_)|(have H2_:=(Option.bind_some _ _).symm.trans H;with_reducible exact H2_)|with_reducible exact H|(rw [hy485];exact H)|exact H
                have Ny485:=mk_ hy485
                clear hy485
                have H':=mk_ H
                clear H
                obtain ⟨Ao34,co34,eo34⟩:=Kd.R_slice HO_7.out
                subst eo34
                try go_wp2
                have n0_:=mk_ (rd_ HO_5.out)
                have n1_:=mk_ (rd_ HO_6.out)
                have n2_:=mk_ (rd_ HO_7.out)
                have n3_:=mk_ (kd_ BK468.out)
                have n4_:=mk_ (bd_ HB.out)
                clear HO_5
                clear HO_6
                clear HO_7
                clear BK468
                clear HB
                have HO_5:=n0_
                have HO_6:=n1_
                have HO_7:=n2_
                have BK468:=n3_
                have HB:=n4_
                clear n0_ n1_ n2_ n3_ n4_
                have p481 : 0 ≤ (x8_2 : Int):=od_ (by first|(with_reducible assumption)|assumption)
                have q481 : x8_2 < (t478.length : Int):=od_ (by first|(with_reducible assumption)|assumption)
                obtain ⟨ad481,e481,hx481_0⟩:=Kd.at_int (rr_ HO_7.out).2.2 x8_2 p481 q481
                cases e481
                replace p481:=eq_true p481
                replace q481:=eq_true q481
                have p482 : 0 ≤ ((rd t478 x8_2) : Int):=od_ (by first|(with_reducible assumption)|assumption)
                have q482 : (rd t478 x8_2) < (l0_1.length : Int):=od_ (by first|(with_reducible assumption)|assumption)
                obtain ⟨ad482,e482,hx482_0,hx482_1,hx482_2⟩:=at_T51 HR0_1.out (rd t478 x8_2) p482 q482
                have hw482_2:=hx482_2
                have hw482_1:=hx482_1
                have hw482_0:=hx482_0
                cases e482
                replace hx482_0:=(HB.out.cell (wl_ w _ hx482_0)).trans hx482_0
                replace hx482_1:=(HB.out.cell (wl_ w _ hx482_1)).trans hx482_1
                replace hx482_2:=(HB.out.cell (wl_ w _ hx482_2)).trans hx482_2
                replace p482:=eq_true p482
                replace q482:=eq_true q482
                obtain ⟨Ao36,co36,eo36⟩:=Kd.R_slice HO_6.out
                (first|subst eo36|(injection eo36 with f1_ f2_ f3_;have f4_:=f1_.symm;have f5_:=f3_.symm;clear f1_ f2_ f3_;subst f4_;subst f5_))
                have p483 : 0 ≤ (((rd_T51 l0_1 (rd t478 x8_2)).f0) : Int):=od_ (by first|(with_reducible assumption)|assumption)
                have q483 : ((rd_T51 l0_1 (rd t478 x8_2)).f0) < (t475.length : Int):=od_ (by first|(with_reducible assumption)|assumption)
                obtain ⟨ad483,e483,hx483_0⟩:=Kd.at_bool (rr_ HO_6.out).2.2 ((rd_T51 l0_1 (rd t478 x8_2)).f0) p483 q483
                (try rw [← Nbq31.out] at hx483_0)
                cases e483
                replace p483:=eq_true p483
                replace q483:=eq_true q483
                refine start_ (n:=12) (S:=fun w' => w'.cell? ⟨gb468,0,none⟩ = some (.int .i64 a0_0) ∧ w'.cell? ⟨gb468,1,none⟩ = some (.slice (some ad482) l0_1.length c0_1) ∧ w'.cell? ⟨gb468,2,none⟩ = some (.slice (some ad474) l0_2.length c0_2) ∧ w'.cell? ⟨gb468,3,none⟩ = some (.slice A0_3 l0_3.length c0_3) ∧ w'.cell? (ad481.add (x8_2).toNat) = some (.int .i64 (rd t478 x8_2)) ∧ w'.cell? (ad482.add (((rd t478 x8_2)).toNat * 3)) = some (.int .i64 ((rd_T51 l0_1 (rd t478 x8_2)).f0)) ∧ w'.cell? ⟨(ad482.add (((rd t478 x8_2)).toNat * 3)).block,(ad482.add (((rd t478 x8_2)).toNat * 3)).off + 1,none⟩ = some (.int .i64 ((rd_T51 l0_1 (rd t478 x8_2)).f1)) ∧ w'.cell? ⟨(ad482.add (((rd t478 x8_2)).toNat * 3)).block,(ad482.add (((rd t478 x8_2)).toNat * 3)).off + 2,none⟩ = some (.int .i64 ((rd_T51 l0_1 (rd t478 x8_2)).f2)) ∧ w'.cell? (ad483.add (((rd_T51 l0_1 (rd t478 x8_2)).f0)).toNat) = some (.bool true)) (ds:=[]) #[false,false,false,false,false,false,false,false,false,false,false,false] (by kernel_rfl) rfl rfl ⟨(bc_ BK468.out 0).trans rfl,(bc_ BK468.out 1).trans rfl,(bc_ BK468.out 2).trans rfl,(bc_ BK468.out 3).trans rfl,hx481_0,((HB.out.cell (wl_ w _ hw482_0)).trans hw482_0),((HB.out.cell (wl_ w _ hw482_1)).trans hw482_1),((HB.out.cell (wl_ w _ hw482_2)).trans hw482_2),hx483_0⟩ (fun hHeld => ?_);refine with_tabW spec_FloodOver.tab9 spec_FloodOver.bits9 (fun HT_ HW_ => ?_)
                generalize wr.drew = w35 at HO_5 HO_6 HO_7 BK468 HB hx481_0 hx482_0 hx482_1 hx482_2 hx483_0 hHeld ⊢
                refine pure_ (i:=0) (N:=some 41) (v:=?_) (a':=?_) #[true,false,false,false,false,false,false,false,false,false,false,false] rfl rfl (any_of HT_.out (by kernel_rfl)) (fun _ _ _ h => h) (Or.inl ⟨by rfl,?_⟩) ?_ ?_
                rotate_left
                ·intro w'
                 go_simp
                 with_reducible rfl
                rotate_left
                ·simp only [Act.put,List.setIfInBounds_toArray,List.set_cons_zero,List.set_cons_succ,i64_w,i32_w]
                 rfl
                refine pure_ (i:=1) (N:=some 42) (v:=?_) (a':=?_) #[true,true,false,false,false,false,false,false,false,false,false,false] rfl rfl (any_of HT_.out (by kernel_rfl)) (fun _ _ _ h => h) (Or.inl ⟨by rfl,?_⟩) ?_ ?_
                rotate_left
                ·intro w'
                 go_simp
                 with_reducible rfl
                rotate_left
                ·simp only [Act.put,List.setIfInBounds_toArray,List.set_cons_zero,List.set_cons_succ,i64_w,i32_w]
                 rfl
                refine pure_ (i:=3) (N:=some 44) (v:=?_) (a':=?_) #[true,true,false,true,false,false,false,false,false,false,false,false] rfl rfl (any_of HT_.out (by kernel_rfl)) (fun _ _ _ h => h) (Or.inl ⟨by rfl,?_⟩) ?_ ?_
                rotate_left
                ·intro w'
                 go_simp
                 with_reducible rfl
                rotate_left
                ·simp only [Act.put,List.setIfInBounds_toArray,List.set_cons_zero,List.set_cons_succ,i64_w,i32_w]
                 rfl
                refine pure_ (i:=4) (N:=some 45) (v:=?_) (a':=?_) #[true,true,false,true,true,false,false,false,false,false,false,false] rfl rfl (any_of HT_.out (by kernel_rfl)) (fun _ _ _ h => h) (Or.inl ⟨by rfl,?_⟩) ?_ ?_
                rotate_left
                ·intro w'
                 go_simp
                 with_reducible rfl
                rotate_left
                ·simp only [Act.put,List.setIfInBounds_toArray,List.set_cons_zero,List.set_cons_succ,i64_w,i32_w]
                 rfl
                refine pure_ (i:=5) (N:=some 46) (v:=?_) (a':=?_) #[true,true,false,true,true,true,false,false,false,false,false,false] rfl rfl (any_of HT_.out (by kernel_rfl)) (fun _ _ _ h => h) (Or.inl ⟨by rfl,?_⟩) ?_ ?_
                rotate_left
                ·intro w'
                 go_simp
                 with_reducible rfl
                rotate_left
                ·simp only [Act.put,List.setIfInBounds_toArray,List.set_cons_zero,List.set_cons_succ,i64_w,i32_w]
                 rfl
                refine take_ (i:=2) (N:=some 43) (v:=?_) (a':=?_) #[true,true,true,true,true,true,false,false,false,false,false,false] rfl rfl (take_ofW HT_.out HW_.out (by kernel_rfl)) (fun _ _ _ h => h) (Or.inl ⟨by rfl,?_⟩) hHeld ?_ ?_
                rotate_left
                ·rintro w' ⟨s0,s1,s2,s3,s4,s5,s6,s7,s8⟩
                 go_simp
                 with_reducible rfl
                rotate_left
                ·simp only [Act.put,List.setIfInBounds_toArray,List.set_cons_zero,List.set_cons_succ,i64_w,i32_w]
                 rfl
                refine take_ (i:=6) (N:=some 47) (v:=?_) (a':=?_) #[true,true,true,true,true,true,true,false,false,false,false,false] rfl rfl (take_ofW HT_.out HW_.out (by kernel_rfl)) (fun _ _ _ h => h) (Or.inl ⟨by rfl,?_⟩) hHeld ?_ ?_
                rotate_left
                ·rintro w' ⟨s0,s1,s2,s3,s4,s5,s6,s7,s8⟩
                 go_simp
                 with_reducible rfl
                rotate_left
                ·simp only [Act.put,List.setIfInBounds_toArray,List.set_cons_zero,List.set_cons_succ,i64_w,i32_w]
                 rfl
                refine pure_ (i:=7) (N:=some 48) (v:=?_) (a':=?_) #[true,true,true,true,true,true,true,true,false,false,false,false] rfl rfl (any_of HT_.out (by kernel_rfl)) (fun _ _ _ h => h) (Or.inl ⟨by rfl,?_⟩) ?_ ?_
                rotate_left
                ·intro w'
                 go_simp
                 with_reducible rfl
                rotate_left
                ·simp only [Act.put,List.setIfInBounds_toArray,List.set_cons_zero,List.set_cons_succ,i64_w,i32_w]
                 rfl
                refine pure_ (i:=8) (N:=some 49) (v:=?_) (a':=?_) #[true,true,true,true,true,true,true,true,true,false,false,false] rfl rfl (any_of HT_.out (by kernel_rfl)) (fun _ _ _ h => h) (Or.inl ⟨by rfl,?_⟩) ?_ ?_
                rotate_left
                ·intro w'
                 go_simp
                 with_reducible rfl
                rotate_left
                ·simp only [Act.put,List.setIfInBounds_toArray,List.set_cons_zero,List.set_cons_succ,i64_w,i32_w]
                 rfl
                refine take_ (i:=9) (N:=some 50) (v:=?_) (a':=?_) #[true,true,true,true,true,true,true,true,true,true,false,false] rfl rfl (take_ofW HT_.out HW_.out (by kernel_rfl)) (fun _ _ _ h => h) (Or.inl ⟨by rfl,?_⟩) hHeld ?_ ?_
                rotate_left
                ·rintro w' ⟨s0,s1,s2,s3,s4,s5,s6,s7,s8⟩
                 go_simp
                 with_reducible rfl
                rotate_left
                ·simp only [Act.put,List.setIfInBounds_toArray,List.set_cons_zero,List.set_cons_succ,i64_w,i32_w]
                 rfl
                refine pure_ (i:=10) (N:=some 51) (v:=?_) (a':=?_) #[true,true,true,true,true,true,true,true,true,true,true,false] rfl rfl (any_of HT_.out (by kernel_rfl)) (fun _ _ _ h => h) (Or.inl ⟨by rfl,?_⟩) ?_ ?_
                rotate_left
                ·intro w'
                 go_simp
                 with_reducible rfl
                rotate_left
                ·simp only [Act.put,List.setIfInBounds_toArray,List.set_cons_zero,List.set_cons_succ,i64_w,i32_w]
                 rfl
                refine take_ (i:=11) (N:=some 52) (v:=?_) (a':=?_) #[true,true,true,true,true,true,true,true,true,true,true,true] rfl rfl (take_ofW HT_.out HW_.out (by kernel_rfl)) (fun _ _ _ h => h) (Or.inl ⟨by rfl,?_⟩) hHeld ?_ ?_
                rotate_left
                ·rintro w' ⟨s0,s1,s2,s3,s4,s5,s6,s7,s8⟩
                 go_simp
                 with_reducible rfl
                rotate_left
                ·simp only [Act.put,List.setIfInBounds_toArray,List.set_cons_zero,List.set_cons_succ,i64_w,i32_w]
                 rfl
                refine done_ (done_of HT_.out (by kernel_rfl)) ?_
                have p484 : 0 ≤ (x8_2 : Int):=od_ (by first|(with_reducible assumption)|assumption)
                have q484 : x8_2 < (t478.length : Int):=od_ (by first|(with_reducible assumption)|assumption)
                obtain ⟨ad484,e484,hx484_0⟩:=Kd.at_int (rr_ HO_7.out).2.2 x8_2 p484 q484
                obtain rfl : ad481 = ad484:=(by injection e484)
                replace p484:=eq_true p484
                replace q484:=eq_true q484
                try go_wp2_with (first|((with_reducible refine gate_builtin (b:=.append) (xs:=#[.tmp 53,.tmp 58]) rfl ?_);at_builtin;refine Kd.R_append (Kd.int .i64) (w0:=w) w.heap.size rfl (.tmp 53) (.tmp 58) 23 3 (.int .i64 0) 8 rfl Try.underlying23 info3 rfl (by decide) (by omega) u5 x5_2 (rd t478 x8_2) [.int .i64 (rd t478 x8_2)] (fun k_ => some k_ ≠ (.slice (some ad481) t478.length co34 : Value).ownBlock) (fun _ => False) rfl rfl ?aP (fun _ hk => hk.elim) ?aF ?aO ?aB ?aS ?aL ?_;(case aP => exact rfl);(case aB => exact (by repeat (first|(with_reducible first|exact HB.out|apply ba_|apply bn_|apply bd_|refine bs_ ?_ GE468.out)|exact HB.out)));(case aF => exact (fun k_ hk => Kd.fresh' (Kd.R_lt (by (with_reducible repeat (first|apply ra_|apply rn_|apply rd_));exact HO_7.out)) k_ hk));(case aO => exact (by (with_reducible repeat (first|apply ra_|apply rn_|apply rd_));exact HO_5.out));(case aS => exact (bz_ (by repeat (first|(with_reducible first|exact HB.out|apply ba_|apply bn_|apply bd_|refine bs_ ?_ GE468.out)|exact HB.out))));(case aL => have:=LMc33.out;omega);intro v486 w37 ho hb hg hat;rw [← Ny485.out] at ho;have n0_:=mk_ (Kd.R_over' (by (with_reducible repeat (first|apply ra_|apply rn_|apply rd_));exact HO_6.out) (Kd.R_typed (by (with_reducible repeat (first|apply ra_|apply rn_|apply rd_));exact HO_5.out)) (by decide) hg);have n1_:=mk_ (Kd.R_after (ok:=(fun _ => True)) (by (with_reducible repeat (first|apply ra_|apply rn_|apply rd_));exact rm_ HO_7.out (fun _ hk => ⟨trivial,hk⟩)) hg hat);have n2_:=mk_ (blk_grown (g:=gb468) (o:=.cells #[.int .i64 a0_0,.slice (some ad482) l0_1.length c0_1,.slice (some ad474) l0_2.length c0_2,.slice A0_3 l0_3.length c0_3] 30 (0,0)) (by (with_reducible repeat (first|refine kn_ ?_ _|refine kd_ ?_|refine ka_ ?_ _));exact BK468.out) hg (Kd.R_ne HO_5.out BK468.out (by decide)));have n3_:=mk_ (hb);have n4_:=mk_ (ho);clear HO_6;clear HO_7;clear BK468;clear HB;clear HO_5;have HO_6:=n0_;have HO_7:=n1_;have BK468:=n2_;have HB:=n3_;have HO487:=n4_;clear n0_ n1_ n2_ n3_ n4_;clear ho hb hg hat))
                go_roundg k2
                case measure => have:=HJ2.out;have:=HK2.out;omega
                case rel => exact ⟨(y485),(wrap64 (x8_2 + 1)),(by first|rfl|(simp;done)|(simp [*];done)),H',⟨by have:=HJ2.out;have:=HK2.out;omega⟩,⟨by (with_reducible repeat (first|apply ra_|apply rn_|apply rd_));exact HO487.out⟩,⟨by (with_reducible repeat (first|apply ra_|apply rn_|apply rd_));exact HO_6.out⟩,⟨by (with_reducible repeat (first|apply ra_|apply rn_|apply rd_));exact rm_ HO_7.out (fun _ hk => hk.2)⟩,⟨by (with_reducible repeat (first|refine kn_ ?_ _|refine kd_ ?_|refine ka_ ?_ _));exact BK468.out⟩,⟨by repeat (first|(with_reducible first|exact HB.out|apply ba_|apply bn_|apply bd_|refine bs_ ?_ GE468.out)|exact HB.out)⟩⟩
               ·rw [if_neg c33] at H
                exact absurd H (by simp)
              ·replace c32:=Bool.eq_false_iff.mpr c32
               subst c32
               have H1 : (spec_FloodOver.l0 k2 x5_2 t475 t478 (wrap64 (x8_2 + 1)) a0_0 l0_1 l0_2 l0_3) = some r:=by rw [if_neg (show ¬ (false = true) by decide)] at H;exact H
               clear H
               have H:=H1
               clear H1
               have H':=mk_ H
               clear H
               obtain ⟨Ao38,co38,eo38⟩:=Kd.R_slice HO_7.out
               subst eo38
               try go_wp2
               have n0_:=mk_ (rd_ HO_5.out)
               have n1_:=mk_ (rd_ HO_6.out)
               have n2_:=mk_ (rd_ HO_7.out)
               have n3_:=mk_ (kd_ BK468.out)
               have n4_:=mk_ (bd_ HB.out)
               clear HO_5
               clear HO_6
               clear HO_7
               clear BK468
               clear HB
               have HO_5:=n0_
               have HO_6:=n1_
               have HO_7:=n2_
               have BK468:=n3_
               have HB:=n4_
               clear n0_ n1_ n2_ n3_ n4_
               have p481 : 0 ≤ (x8_2 : Int):=od_ (by first|(with_reducible assumption)|assumption)
               have q481 : x8_2 < (t478.length : Int):=od_ (by first|(with_reducible assumption)|assumption)
               obtain ⟨ad481,e481,hx481_0⟩:=Kd.at_int (rr_ HO_7.out).2.2 x8_2 p481 q481
               cases e481
               replace p481:=eq_true p481
               replace q481:=eq_true q481
               have p482 : 0 ≤ ((rd t478 x8_2) : Int):=od_ (by first|(with_reducible assumption)|assumption)
               have q482 : (rd t478 x8_2) < (l0_1.length : Int):=od_ (by first|(with_reducible assumption)|assumption)
               obtain ⟨ad482,e482,hx482_0,hx482_1,hx482_2⟩:=at_T51 HR0_1.out (rd t478 x8_2) p482 q482
               have hw482_2:=hx482_2
               have hw482_1:=hx482_1
               have hw482_0:=hx482_0
               cases e482
               replace hx482_0:=(HB.out.cell (wl_ w _ hx482_0)).trans hx482_0
               replace hx482_1:=(HB.out.cell (wl_ w _ hx482_1)).trans hx482_1
               replace hx482_2:=(HB.out.cell (wl_ w _ hx482_2)).trans hx482_2
               replace p482:=eq_true p482
               replace q482:=eq_true q482
               obtain ⟨Ao40,co40,eo40⟩:=Kd.R_slice HO_6.out
               (first|subst eo40|(injection eo40 with f1_ f2_ f3_;have f4_:=f1_.symm;have f5_:=f3_.symm;clear f1_ f2_ f3_;subst f4_;subst f5_))
               have p483 : 0 ≤ (((rd_T51 l0_1 (rd t478 x8_2)).f0) : Int):=od_ (by first|(with_reducible assumption)|assumption)
               have q483 : ((rd_T51 l0_1 (rd t478 x8_2)).f0) < (t475.length : Int):=od_ (by first|(with_reducible assumption)|assumption)
               obtain ⟨ad483,e483,hx483_0⟩:=Kd.at_bool (rr_ HO_6.out).2.2 ((rd_T51 l0_1 (rd t478 x8_2)).f0) p483 q483
               (try rw [← Nbq31.out] at hx483_0)
               cases e483
               replace p483:=eq_true p483
               replace q483:=eq_true q483
               refine start_ (n:=12) (S:=fun w' => w'.cell? ⟨gb468,0,none⟩ = some (.int .i64 a0_0) ∧ w'.cell? ⟨gb468,1,none⟩ = some (.slice (some ad482) l0_1.length c0_1) ∧ w'.cell? ⟨gb468,2,none⟩ = some (.slice (some ad474) l0_2.length c0_2) ∧ w'.cell? ⟨gb468,3,none⟩ = some (.slice A0_3 l0_3.length c0_3) ∧ w'.cell? (ad481.add (x8_2).toNat) = some (.int .i64 (rd t478 x8_2)) ∧ w'.cell? (ad482.add (((rd t478 x8_2)).toNat * 3)) = some (.int .i64 ((rd_T51 l0_1 (rd t478 x8_2)).f0)) ∧ w'.cell? ⟨(ad482.add (((rd t478 x8_2)).toNat * 3)).block,(ad482.add (((rd t478 x8_2)).toNat * 3)).off + 1,none⟩ = some (.int .i64 ((rd_T51 l0_1 (rd t478 x8_2)).f1)) ∧ w'.cell? ⟨(ad482.add (((rd t478 x8_2)).toNat * 3)).block,(ad482.add (((rd t478 x8_2)).toNat * 3)).off + 2,none⟩ = some (.int .i64 ((rd_T51 l0_1 (rd t478 x8_2)).f2)) ∧ w'.cell? (ad483.add (((rd_T51 l0_1 (rd t478 x8_2)).f0)).toNat) = some (.bool false)) (ds:=[]) #[false,false,false,false,false,false,false,false,false,false,false,false] (by kernel_rfl) rfl rfl ⟨(bc_ BK468.out 0).trans rfl,(bc_ BK468.out 1).trans rfl,(bc_ BK468.out 2).trans rfl,(bc_ BK468.out 3).trans rfl,hx481_0,((HB.out.cell (wl_ w _ hw482_0)).trans hw482_0),((HB.out.cell (wl_ w _ hw482_1)).trans hw482_1),((HB.out.cell (wl_ w _ hw482_2)).trans hw482_2),hx483_0⟩ (fun hHeld => ?_);refine with_tabW spec_FloodOver.tab9 spec_FloodOver.bits9 (fun HT_ HW_ => ?_)
               generalize wr.drew = w39 at HO_5 HO_6 HO_7 BK468 HB hx481_0 hx482_0 hx482_1 hx482_2 hx483_0 hHeld ⊢
               refine pure_ (i:=0) (N:=some 41) (v:=?_) (a':=?_) #[true,false,false,false,false,false,false,false,false,false,false,false] rfl rfl (any_of HT_.out (by kernel_rfl)) (fun _ _ _ h => h) (Or.inl ⟨by rfl,?_⟩) ?_ ?_
               rotate_left
               ·intro w'
                go_simp
                with_reducible rfl
               rotate_left
               ·simp only [Act.put,List.setIfInBounds_toArray,List.set_cons_zero,List.set_cons_succ,i64_w,i32_w]
                rfl
               refine pure_ (i:=1) (N:=some 42) (v:=?_) (a':=?_) #[true,true,false,false,false,false,false,false,false,false,false,false] rfl rfl (any_of HT_.out (by kernel_rfl)) (fun _ _ _ h => h) (Or.inl ⟨by rfl,?_⟩) ?_ ?_
               rotate_left
               ·intro w'
                go_simp
                with_reducible rfl
               rotate_left
               ·simp only [Act.put,List.setIfInBounds_toArray,List.set_cons_zero,List.set_cons_succ,i64_w,i32_w]
                rfl
               refine pure_ (i:=3) (N:=some 44) (v:=?_) (a':=?_) #[true,true,false,true,false,false,false,false,false,false,false,false] rfl rfl (any_of HT_.out (by kernel_rfl)) (fun _ _ _ h => h) (Or.inl ⟨by rfl,?_⟩) ?_ ?_
               rotate_left
               ·intro w'
                go_simp
                with_reducible rfl
               rotate_left
               ·simp only [Act.put,List.setIfInBounds_toArray,List.set_cons_zero,List.set_cons_succ,i64_w,i32_w]
                rfl
               refine pure_ (i:=4) (N:=some 45) (v:=?_) (a':=?_) #[true,true,false,true,true,false,false,false,false,false,false,false] rfl rfl (any_of HT_.out (by kernel_rfl)) (fun _ _ _ h => h) (Or.inl ⟨by rfl,?_⟩) ?_ ?_
               rotate_left
               ·intro w'
                go_simp
                with_reducible rfl
               rotate_left
               ·simp only [Act.put,List.setIfInBounds_toArray,List.set_cons_zero,List.set_cons_succ,i64_w,i32_w]
                rfl
               refine pure_ (i:=5) (N:=some 46) (v:=?_) (a':=?_) #[true,true,false,true,true,true,false,false,false,false,false,false] rfl rfl (any_of HT_.out (by kernel_rfl)) (fun _ _ _ h => h) (Or.inl ⟨by rfl,?_⟩) ?_ ?_
               rotate_left
               ·intro w'
                go_simp
                with_reducible rfl
               rotate_left
               ·simp only [Act.put,List.setIfInBounds_toArray,List.set_cons_zero,List.set_cons_succ,i64_w,i32_w]
                rfl
               refine take_ (i:=2) (N:=some 43) (v:=?_) (a':=?_) #[true,true,true,true,true,true,false,false,false,false,false,false] rfl rfl (take_ofW HT_.out HW_.out (by kernel_rfl)) (fun _ _ _ h => h) (Or.inl ⟨by rfl,?_⟩) hHeld ?_ ?_
               rotate_left
               ·rintro w' ⟨s0,s1,s2,s3,s4,s5,s6,s7,s8⟩
                go_simp
                with_reducible rfl
               rotate_left
               ·simp only [Act.put,List.setIfInBounds_toArray,List.set_cons_zero,List.set_cons_succ,i64_w,i32_w]
                rfl
               refine take_ (i:=6) (N:=some 47) (v:=?_) (a':=?_) #[true,true,true,true,true,true,true,false,false,false,false,false] rfl rfl (take_ofW HT_.out HW_.out (by kernel_rfl)) (fun _ _ _ h => h) (Or.inl ⟨by rfl,?_⟩) hHeld ?_ ?_
               rotate_left
               ·rintro w' ⟨s0,s1,s2,s3,s4,s5,s6,s7,s8⟩
                go_simp
                with_reducible rfl
               rotate_left
               ·simp only [Act.put,List.setIfInBounds_toArray,List.set_cons_zero,List.set_cons_succ,i64_w,i32_w]
                rfl
               refine pure_ (i:=7) (N:=some 48) (v:=?_) (a':=?_) #[true,true,true,true,true,true,true,true,false,false,false,false] rfl rfl (any_of HT_.out (by kernel_rfl)) (fun _ _ _ h => h) (Or.inl ⟨by rfl,?_⟩) ?_ ?_
               rotate_left
               ·intro w'
                go_simp
                with_reducible rfl
               rotate_left
               ·simp only [Act.put,List.setIfInBounds_toArray,List.set_cons_zero,List.set_cons_succ,i64_w,i32_w]
                rfl
               refine pure_ (i:=8) (N:=some 49) (v:=?_) (a':=?_) #[true,true,true,true,true,true,true,true,true,false,false,false] rfl rfl (any_of HT_.out (by kernel_rfl)) (fun _ _ _ h => h) (Or.inl ⟨by rfl,?_⟩) ?_ ?_
               rotate_left
               ·intro w'
                go_simp
                with_reducible rfl
               rotate_left
               ·simp only [Act.put,List.setIfInBounds_toArray,List.set_cons_zero,List.set_cons_succ,i64_w,i32_w]
                rfl
               refine take_ (i:=9) (N:=some 50) (v:=?_) (a':=?_) #[true,true,true,true,true,true,true,true,true,true,false,false] rfl rfl (take_ofW HT_.out HW_.out (by kernel_rfl)) (fun _ _ _ h => h) (Or.inl ⟨by rfl,?_⟩) hHeld ?_ ?_
               rotate_left
               ·rintro w' ⟨s0,s1,s2,s3,s4,s5,s6,s7,s8⟩
                go_simp
                with_reducible rfl
               rotate_left
               ·simp only [Act.put,List.setIfInBounds_toArray,List.set_cons_zero,List.set_cons_succ,i64_w,i32_w]
                rfl
               refine pure_ (i:=10) (N:=some 51) (v:=?_) (a':=?_) #[true,true,true,true,true,true,true,true,true,true,true,false] rfl rfl (any_of HT_.out (by kernel_rfl)) (fun _ _ _ h => h) (Or.inl ⟨by rfl,?_⟩) ?_ ?_
               rotate_left
               ·intro w'
                go_simp
                with_reducible rfl
               rotate_left
               ·simp only [Act.put,List.setIfInBounds_toArray,List.set_cons_zero,List.set_cons_succ,i64_w,i32_w]
                rfl
               refine take_ (i:=11) (N:=some 52) (v:=?_) (a':=?_) #[true,true,true,true,true,true,true,true,true,true,true,true] rfl rfl (take_ofW HT_.out HW_.out (by kernel_rfl)) (fun _ _ _ h => h) (Or.inl ⟨by rfl,?_⟩) hHeld ?_ ?_
               rotate_left
               ·rintro w' ⟨s0,s1,s2,s3,s4,s5,s6,s7,s8⟩
                go_simp
                with_reducible rfl
               rotate_left
               ·simp only [Act.put,List.setIfInBounds_toArray,List.set_cons_zero,List.set_cons_succ,i64_w,i32_w]
                rfl
               refine done_ (done_of HT_.out (by kernel_rfl)) ?_
               try go_wp2
               go_roundg k2
               case measure => have:=HJ2.out;have:=HK2.out;omega
               case rel => exact ⟨(x5_2),(wrap64 (x8_2 + 1)),(by first|rfl|(simp;done)|(simp [*];done)),H',⟨by have:=HJ2.out;have:=HK2.out;omega⟩,⟨by (with_reducible repeat (first|apply ra_|apply rn_|apply rd_));exact HO_5.out⟩,⟨by (with_reducible repeat (first|apply ra_|apply rn_|apply rd_));exact HO_6.out⟩,⟨by (with_reducible repeat (first|apply ra_|apply rn_|apply rd_));exact HO_7.out⟩,⟨by (with_reducible repeat (first|refine kn_ ?_ _|refine kd_ ?_|refine ka_ ?_ _));exact BK468.out⟩,⟨by repeat (first|(with_reducible first|exact HB.out|apply ba_|apply bn_|apply bd_|refine bs_ ?_ GE468.out)|exact HB.out)⟩⟩
             ·rw [if_neg c30] at H
              exact absurd H (by simp)
            ·rw [if_neg c29] at H
             exact absurd H (by simp)
           ·rw [if_neg c28] at H
            exact absurd H (by simp)
          ·rw [if_neg c27] at H
           exact absurd H (by simp)
         ·rw [if_neg c26] at H
          exact absurd H (by simp)
        ·rw [if_neg c25] at H
         have c25b0 : decide (x8_2 < (t478.length : Int)) = false:=decide_eq_false c25
         clear c25
         obtain rfl:=Option.some.inj H
         obtain ⟨Ao41,co41,eo41⟩:=Kd.R_slice HO_7.out
         subst eo41
         go_wp2
         go_ret
         exact ⟨_,by first|rfl|(simp [errW_none,errW_some] <;> rfl)|(simp [*,errW_none,errW_some] <;> rfl),by (with_reducible repeat (first|apply ra_|apply rn_|apply rd_));exact rm_ HO_5.out (fun _ hk => trivial),by repeat (first|(with_reducible first|exact HB.out|apply ba_|apply bn_|apply bd_|refine bs_ ?_ GE468.out)|exact HB.out)⟩
     ·rw [if_neg c18] at H
      exact absurd H (by simp)
    ·rw [if_neg c17] at H
     exact absurd H (by simp)

/-! ### laws_FnFloodOver: function 8 -/
mutual
def laws_FnFloodOver.l0 : Nat → List Int → List Int → Int → Int → Int → List (S51) → List Int → List Int → Option (Bool)
 | 0,_,_,_,_,_,_,_,_ => none
 | k + 1,x5,x30,x31,x32,x500000,x500001,x500002,x500003 => if x32 < x31 then (if 0 ≤ x32 then (if x32 < (x30.length : Int) then ((impl_FloodOver.f k x500000 x500001 x500002 x500003 (rd x30 x32)).bind fun t511 => ((laws_wnInts.f k t511 x5).bind fun t514 => (if t514 = true then (laws_FnFloodOver.l0 k x5 x30 x31 (wrap64 (x32 + 1)) x500000 x500001 x500002 x500003) else (some false)))) else (none)) else (none)) else ((impl_TreeOf.f k x500000 x500001).bind fun t515 => (laws_FnFloodOver.l1 k x5 t515 x5 (x5.length : Int) 0))
def laws_FnFloodOver.l1 : Nat → List Int → List Int → List Int → Int → Int → Option (Bool)
 | 0,_,_,_,_,_ => none
 | k + 1,x5,x8,x48,x49,x50 => if x50 < x49 then (if 0 ≤ x50 then (if x50 < (x48.length : Int) then (if x50 > 0 then (if 0 ≤ (wrap64 (x50 - 1)) then (if (wrap64 (x50 - 1)) < (x5.length : Int) then (if (rd x5 (wrap64 (x50 - 1))) ≥ (rd x48 x50) then (some false) else ((laws_wnHas.f k x8 (rd x48 x50)).bind fun t520 => (if t520 = true then (laws_FnFloodOver.l1 k x5 x8 x48 x49 (wrap64 (x50 + 1))) else (some false)))) else (none)) else (none)) else ((laws_wnHas.f k x8 (rd x48 x50)).bind fun t521 => (if t521 = true then (laws_FnFloodOver.l1 k x5 x8 x48 x49 (wrap64 (x50 + 1))) else (some false)))) else (none)) else (none)) else (some true)
end
def laws_FnFloodOver.f (k : Nat) (l0 : List Int) : Option (Bool):=if (l0.length : Int) > 1048576 then (some true) else ((spec_DrawFloodOver.f k l0).bind fun bt488 => ((impl_FloodOver.f k bt488.1 bt488.2.1 bt488.2.2.1 bt488.2.2.2.1 bt488.2.2.2.2).bind fun t500 => ((spec_FloodOver.f k bt488.1 bt488.2.1 bt488.2.2.1 bt488.2.2.2.1 bt488.2.2.2.2).bind fun t503 => ((laws_wnInts.f k t500 t503).bind fun t506 => (if t506 = true then ((impl_MatesOf.f k bt488.1 bt488.2.1 bt488.2.2.1 bt488.2.2.2.1 bt488.2.2.2.2).bind fun t507 => (laws_FnFloodOver.l0 k t500 t507 (t507.length : Int) 0 bt488.1 bt488.2.1 bt488.2.2.1 bt488.2.2.2.1)) else (some false))))))
theorem laws_FnFloodOver.mono_l : ∀ k,(∀ y0 y1 y2 y3 y4 y5 y6 y7,LeO (laws_FnFloodOver.l0 k y0 y1 y2 y3 y4 y5 y6 y7) (laws_FnFloodOver.l0 (k + 1) y0 y1 y2 y3 y4 y5 y6 y7)) ∧ (∀ y0 y1 y2 y3 y4,LeO (laws_FnFloodOver.l1 k y0 y1 y2 y3 y4) (laws_FnFloodOver.l1 (k + 1) y0 y1 y2 y3 y4))
 | 0 => ⟨fun _ _ _ _ _ _ _ _ r h => by simp [laws_FnFloodOver.l0] at h,fun _ _ _ _ _ r h => by simp [laws_FnFloodOver.l1] at h⟩
 | k + 1 => by
  obtain ⟨ih0,ih1⟩:=laws_FnFloodOver.mono_l k
  refine ⟨?_,?_⟩
  ·intro y0 y1 y2 y3 y4 y5 y6 y7
   unfold laws_FnFloodOver.l0
   repeat' first
   | (with_reducible exact ih0 _ _ _ _ _ _ _ _)
   | (with_reducible exact ih1 _ _ _ _ _)
   | (with_reducible exact impl_FloodOver.mono _ _ _ _ _ _)
   | (with_reducible exact impl_MatesOf.mono _ _ _ _ _ _)
   | (with_reducible exact impl_TreeOf.mono _ _ _)
   | (with_reducible exact laws_wnHas.mono _ _ _)
   | (with_reducible exact laws_wnInts.mono _ _ _)
   | (with_reducible exact spec_DrawFloodOver.mono _ _)
   | (with_reducible exact spec_FloodOver.mono _ _ _ _ _ _)
   | (with_reducible exact LeO.refl _)
   | (with_reducible exact LeO.none _)
   | (with_reducible refine LeO.ite ?_ ?_)
   | (with_reducible refine LeO.bind ?_ (fun _ => ?_))
   | exact ih0 _ _ _ _ _ _ _ _
   | exact ih1 _ _ _ _ _
   | exact impl_FloodOver.mono _ _ _ _ _ _
   | exact impl_MatesOf.mono _ _ _ _ _ _
   | exact impl_TreeOf.mono _ _ _
   | exact laws_wnHas.mono _ _ _
   | exact laws_wnInts.mono _ _ _
   | exact spec_DrawFloodOver.mono _ _
   | exact spec_FloodOver.mono _ _ _ _ _ _
   | exact LeO.none _
   | refine LeO.ite ?_ ?_
   | refine LeO.bind ?_ (fun _ => ?_)
  ·intro y0 y1 y2 y3 y4
   unfold laws_FnFloodOver.l1
   repeat' first
   | (with_reducible exact ih0 _ _ _ _ _ _ _ _)
   | (with_reducible exact ih1 _ _ _ _ _)
   | (with_reducible exact impl_FloodOver.mono _ _ _ _ _ _)
   | (with_reducible exact impl_MatesOf.mono _ _ _ _ _ _)
   | (with_reducible exact impl_TreeOf.mono _ _ _)
   | (with_reducible exact laws_wnHas.mono _ _ _)
   | (with_reducible exact laws_wnInts.mono _ _ _)
   | (with_reducible exact spec_DrawFloodOver.mono _ _)
   | (with_reducible exact spec_FloodOver.mono _ _ _ _ _ _)
   | (with_reducible exact LeO.refl _)
   | (with_reducible exact LeO.none _)
   | (with_reducible refine LeO.ite ?_ ?_)
   | (with_reducible refine LeO.bind ?_ (fun _ => ?_))
   | exact ih0 _ _ _ _ _ _ _ _
   | exact ih1 _ _ _ _ _
   | exact impl_FloodOver.mono _ _ _ _ _ _
   | exact impl_MatesOf.mono _ _ _ _ _ _
   | exact impl_TreeOf.mono _ _ _
   | exact laws_wnHas.mono _ _ _
   | exact laws_wnInts.mono _ _ _
   | exact spec_DrawFloodOver.mono _ _
   | exact spec_FloodOver.mono _ _ _ _ _ _
   | exact LeO.none _
   | refine LeO.ite ?_ ?_
   | refine LeO.bind ?_ (fun _ => ?_)
theorem laws_FnFloodOver.mono : ∀ a0 k,LeO (laws_FnFloodOver.f k a0) (laws_FnFloodOver.f (k + 1) a0):=by
 intro a0 k
 obtain ⟨ih0,ih1⟩:=laws_FnFloodOver.mono_l k
 unfold laws_FnFloodOver.f
 repeat' first
   | (with_reducible exact ih0 _ _ _ _ _ _ _ _)
   | (with_reducible exact ih1 _ _ _ _ _)
   | (with_reducible exact impl_FloodOver.mono _ _ _ _ _ _)
   | (with_reducible exact impl_MatesOf.mono _ _ _ _ _ _)
   | (with_reducible exact impl_TreeOf.mono _ _ _)
   | (with_reducible exact laws_wnHas.mono _ _ _)
   | (with_reducible exact laws_wnInts.mono _ _ _)
   | (with_reducible exact spec_DrawFloodOver.mono _ _)
   | (with_reducible exact spec_FloodOver.mono _ _ _ _ _ _)
   | (with_reducible exact LeO.refl _)
   | (with_reducible exact LeO.none _)
   | (with_reducible refine LeO.ite ?_ ?_)
   | (with_reducible refine LeO.bind ?_ (fun _ => ?_))
   | exact ih0 _ _ _ _ _ _ _ _
   | exact ih1 _ _ _ _ _
   | exact impl_FloodOver.mono _ _ _ _ _ _
   | exact impl_MatesOf.mono _ _ _ _ _ _
   | exact impl_TreeOf.mono _ _ _
   | exact laws_wnHas.mono _ _ _
   | exact laws_wnInts.mono _ _ _
   | exact spec_DrawFloodOver.mono _ _
   | exact spec_FloodOver.mono _ _ _ _ _ _
   | exact LeO.none _
   | refine LeO.ite ?_ ?_
   | refine LeO.bind ?_ (fun _ => ?_)
set_option maxHeartbeats 8000000 in
set_option maxRecDepth 100000 in
theorem laws_FnFloodOver.calls (k : Nat) (A0 : Option Addr) (c0 : Nat) (l0 : List Int) (r : Bool) (w : World) (hr0 : Kd.C (Kd.int .u8) w A0 l0.length l0) (hc0 : l0.length ≤ c0) (h : laws_FnFloodOver.f k l0 = some r) :
  Calls Try.prog 8 #[.slice A0 l0.length c0] w fun e w' => e = .returned (.bool r) ∧ Below w.heap.size w w':=by
 have hu30:=Try.underlying30
 have HR0:=mk_ hr0
 have HC0:=mk_ hc0
 clear hr0 hc0
 have HB:=mk_ (Below.refl w.heap.size w)
 have H : (if (l0.length : Int) > 1048576 then (some true) else ((spec_DrawFloodOver.f k l0).bind fun bt488 => ((impl_FloodOver.f k bt488.1 bt488.2.1 bt488.2.2.1 bt488.2.2.2.1 bt488.2.2.2.2).bind fun t500 => ((spec_FloodOver.f k bt488.1 bt488.2.1 bt488.2.2.1 bt488.2.2.2.1 bt488.2.2.2.2).bind fun t503 => ((laws_wnInts.f k t500 t503).bind fun t506 => (if t506 = true then ((impl_MatesOf.f k bt488.1 bt488.2.1 bt488.2.2.1 bt488.2.2.2.1 bt488.2.2.2.2).bind fun t507 => (laws_FnFloodOver.l0 k t500 t507 (t507.length : Int) 0 bt488.1 bt488.2.1 bt488.2.2.1 bt488.2.2.2.1)) else (some false))))))) = some r:=h
 clear h
 by_cases c2 : (l0.length : Int) > 1048576
 ·rw [if_pos c2] at H
  have c2b0 : decide (1048576 < (l0.length : Int)) = true:=decide_eq_true c2
  have c2b1 : decide (1048576 < l0.length) = true:=decide_eq_true (by omega)
  clear c2
  obtain rfl:=Option.some.inj H
  go_enter Try.func8,Try.ntmps8
  go_wp2
  go_ret
  exact ⟨by first|rfl|(simp [errW_none,errW_some] <;> rfl)|(simp [*,errW_none,errW_some] <;> rfl),by repeat (first|(with_reducible first|exact HB.out|apply ba_|apply bn_|apply bd_)|exact HB.out)⟩
 ·rw [if_neg c2] at H
  have c2b0 : decide (1048576 < (l0.length : Int)) = false:=decide_eq_false c2
  have c2b1 : decide (1048576 < l0.length) = false:=decide_eq_false (by omega)
  clear c2
  replace H:=Option.bind_eq_some_iff.mp H
  obtain ⟨⟨t488,t489,t492,t495,t498⟩,A30,H⟩:=H
  replace H : ((impl_FloodOver.f k t488 t489 t492 t495 t498).bind fun t500 => ((spec_FloodOver.f k t488 t489 t492 t495 t498).bind fun t503 => ((laws_wnInts.f k t500 t503).bind fun t506 => (if t506 = true then ((impl_MatesOf.f k t488 t489 t492 t495 t498).bind fun t507 => (laws_FnFloodOver.l0 k t500 t507 (t507.length : Int) 0 t488 t489 t492 t495)) else (some false))))) = some r:=H
  have A3:=mk_ A30
  clear A30
  replace H:=Option.bind_eq_some_iff.mp H
  obtain ⟨t500,A40,H⟩:=H
  replace H : ((spec_FloodOver.f k t488 t489 t492 t495 t498).bind fun t503 => ((laws_wnInts.f k t500 t503).bind fun t506 => (if t506 = true then ((impl_MatesOf.f k t488 t489 t492 t495 t498).bind fun t507 => (laws_FnFloodOver.l0 k t500 t507 (t507.length : Int) 0 t488 t489 t492 t495)) else (some false)))) = some r:=H
  have A4:=mk_ A40
  clear A40
  replace H:=Option.bind_eq_some_iff.mp H
  obtain ⟨t503,A50,H⟩:=H
  replace H : ((laws_wnInts.f k t500 t503).bind fun t506 => (if t506 = true then ((impl_MatesOf.f k t488 t489 t492 t495 t498).bind fun t507 => (laws_FnFloodOver.l0 k t500 t507 (t507.length : Int) 0 t488 t489 t492 t495)) else (some false))) = some r:=H
  have A5:=mk_ A50
  clear A50
  replace H:=Option.bind_eq_some_iff.mp H
  obtain ⟨t506,A60,H⟩:=H
  replace H : (if t506 = true then ((impl_MatesOf.f k t488 t489 t492 t495 t498).bind fun t507 => (laws_FnFloodOver.l0 k t500 t507 (t507.length : Int) 0 t488 t489 t492 t495)) else (some false)) = some r:=H
  have A6:=mk_ A60
  clear A60
  by_cases c7 : t506 = true
  ·subst c7
   have H1 : ((impl_MatesOf.f k t488 t489 t492 t495 t498).bind fun t507 => (laws_FnFloodOver.l0 k t500 t507 (t507.length : Int) 0 t488 t489 t492 t495)) = some r:=by rw [if_pos rfl] at H;exact H
   clear H
   have H:=H1
   clear H1
   replace H:=Option.bind_eq_some_iff.mp H
   obtain ⟨t507,A80,H⟩:=H
   replace H : (laws_FnFloodOver.l0 k t500 t507 (t507.length : Int) 0 t488 t489 t492 t495) = some r:=H
   have A8:=mk_ A80
   clear A80
   have H':=mk_ H
   clear H
   go_enter Try.func8,Try.ntmps8
   go_wp2_with (first|((with_reducible refine gate_callee (f:=31) rfl ?_);refine goesL_ (some 16) rfl rfl Try.func31 (by kernel_rfl) rfl #[.slice A0 l0.length c0] rfl (by (try simp only [List.map_toArray,List.map_cons,List.map_nil]);first|done|rfl|(simp only [List.length_drop,List.length_take];rfl)) ?_;(with_reducible refine (spec_DrawFloodOver.calls k _ _ l0 t488 t489 t492 t495 t498 _ ?side1 ?side2 A3.out).mono ?_);(case side1 => repeat (first|exact HR0.out|(with_reducible refine ca_ ?_ _)|(with_reducible refine cn_ ?_ _)|(with_reducible refine cd_ ?_)));(case side2 => exact HC0.out);rintro e w9 ⟨v490,v493,v496,rfl,ho0,ho1,ho2,hb⟩;refine ⟨_,rfl,?_⟩;have n0_:=mk_ (Kd.R_lower ho0 (bz_ (by repeat (first|(with_reducible first|exact HB.out|apply ba_|apply bn_|apply bd_)|exact HB.out))));have n1_:=mk_ (Kd.R_lower ho1 (bz_ (by repeat (first|(with_reducible first|exact HB.out|apply ba_|apply bn_|apply bd_)|exact HB.out))));have n2_:=mk_ (Kd.Q_lower ho2 (bz_ (by repeat (first|(with_reducible first|exact HB.out|apply ba_|apply bn_|apply bd_)|exact HB.out))));have n3_:=mk_ (st_ (by repeat (first|(with_reducible first|exact HB.out|apply ba_|apply bn_|apply bd_)|exact HB.out)) hb);clear HB;have HO491:=n0_;have HO494:=n1_;have HO497:=n2_;have HB:=n3_;clear n0_ n1_ n2_ n3_;(try clear hb);(try clear hb2);(try clear hk);(try clear hi);(try clear ho0);(try clear ho1);(try clear ho2))|((with_reducible refine gate_dst (N:=3) rfl ?_);refine box_event ?hg (N:=3) ?hd (cs:=#[.int .i64 0,.slice none 0 0,.slice none 0 0,.slice none 0 0]) (t:=30) ?hr ?_;(case hd => rfl);(case hg => rfl);(case hr => first|(go_simp;done)|(go_simp;rfl));intro gb499 hg w10 hbox hb;have n0_:=mk_ (rb_ (by (with_reducible repeat (first|apply ra_|apply rn_|apply rd_));exact HO491.out) hb);have n1_:=mk_ (rb_ (by (with_reducible repeat (first|apply ra_|apply rn_|apply rd_));exact HO494.out) hb);have n2_:=mk_ (Kd.Q_below (by (with_reducible repeat (first|apply Kd.Q_alloc|apply Kd.Q_drewN|apply Kd.Q_drew));exact HO497.out) hb);have n3_:=mk_ (st_ (by repeat (first|(with_reducible first|exact HB.out|apply ba_|apply bn_|apply bd_)|exact HB.out)) hb);have n4_:=mk_ (hbox);have n5_:=mk_ ((by rw [hg];exact (bz_ (by repeat (first|(with_reducible first|exact HB.out|apply ba_|apply bn_|apply bd_)|exact HB.out))) : w.heap.size ≤ gb499));have n6_:=mk_ ((by rw [hg];exact (bz_ (by repeat (first|(with_reducible first|exact HB.out|apply ba_|apply bn_|apply bd_)|exact HB.out))) : w.heap.size ≤ gb499));clear HO491;clear HO494;clear HO497;clear HB;have HO491:=n0_;have HO494:=n1_;have HO497:=n2_;have HB:=n3_;have BK499:=n4_;have GW499:=n5_;have GE499:=n6_;clear n0_ n1_ n2_ n3_ n4_ n5_ n6_;clear hb hbox hg;have hcz11_0 : w10.cell? ⟨gb499,0,none⟩ = some (.int .i64 0):=(bc_ BK499.out 0).trans rfl;have hcz11_1 : w10.cell? ⟨gb499,1,none⟩ = some (.slice none 0 0):=(bc_ BK499.out 1).trans rfl;have hcz11_2 : w10.cell? ⟨gb499,2,none⟩ = some (.slice none 0 0):=(bc_ BK499.out 2).trans rfl;have hcz11_3 : w10.cell? ⟨gb499,3,none⟩ = some (.slice none 0 0):=(bc_ BK499.out 3).trans rfl;have hfz11_0:=bf_ BK499.out 0;have hfz11_1:=bf_ BK499.out 1;have hfz11_2:=bf_ BK499.out 2;have hfz11_3:=bf_ BK499.out 3;obtain ⟨Ao12,co12,eo12⟩:=Kd.R_slice HO491.out;subst eo12;obtain ⟨Ao13,co13,eo13⟩:=Kd.R_slice HO494.out;subst eo13;obtain ⟨Ao14,co14,eo14,_⟩:=Kd.Q_slice HO497.out;subst eo14)|((with_reducible refine gate_callee (f:=32) rfl ?_);refine goesL_ (some 21) rfl rfl Try.func32 (by kernel_rfl) rfl #[.agg #[.int .i64 t488,.slice Ao12 t489.length co12,.slice Ao13 t492.length co13,.slice Ao14 t495.length co14],.int .i64 t498] rfl (by (try simp only [List.map_toArray,List.map_cons,List.map_nil]);first|done|rfl|(simp only [List.length_drop,List.length_take];rfl)) ?_;(with_reducible refine (impl_FloodOver.calls k t488 _ _ t489 _ _ t492 _ _ t495 t498 t500 _ ?side1 ?side2 ?side3 ?side4 ?side5 ?side6 A4.out).mono ?_);(case side1 => refine (rr_ (e:=51) (base:=w.heap.size) (ok:=fun k_ => True) (n:=t489.length) (c:=co12) ?_).2.2;exact (by (with_reducible repeat (first|apply ra_|apply rn_|apply rd_));exact (rm_ (rf_ (p:=⟨gb499,3,none⟩) (rf_ (p:=⟨gb499,2,none⟩) (rf_ (p:=⟨gb499,1,none⟩) (rf_ (p:=⟨gb499,0,none⟩) (rt_ HO491.out BK499.out (by decide)) (fun _ hk => hk.2) (.int .i64 t488)) (fun _ hk => hk.2) (.slice Ao12 t489.length co12)) (fun _ hk => hk.2) (.slice Ao13 t492.length co13)) (fun _ hk => hk.2) (.slice Ao14 t495.length co14)) (fun _ h_ => h_.1))));(case side2 => exact (rr_ HO491.out).2.1);(case side3 => refine (rr_ (e:=3) (base:=w.heap.size) (ok:=fun k_ => some k_ ≠ (.slice Ao14 t495.length co14 : Value).ownBlock) (n:=t492.length) (c:=co13) ?_).2.2;exact (by (with_reducible repeat (first|apply ra_|apply rn_|apply rd_));exact (rm_ (rf_ (p:=⟨gb499,3,none⟩) (rf_ (p:=⟨gb499,2,none⟩) (rf_ (p:=⟨gb499,1,none⟩) (rf_ (p:=⟨gb499,0,none⟩) (rt_ HO494.out BK499.out (by decide)) (fun _ hk => hk.2) (.int .i64 t488)) (fun _ hk => hk.2) (.slice Ao12 t489.length co12)) (fun _ hk => hk.2) (.slice Ao13 t492.length co13)) (fun _ hk => hk.2) (.slice Ao14 t495.length co14)) (fun _ h_ => h_.1))));(case side4 => exact (rr_ HO494.out).2.1);(case side5 => refine (Kd.Q_reads' (e:=3) (base:=w.heap.size) (ok:=fun k_ => some k_ ≠ (.slice Ao13 t492.length co13 : Value).ownBlock) (n:=t495.length) (c:=co14) ?_).2.2;exact (by (with_reducible repeat (first|apply Kd.Q_alloc|apply Kd.Q_drewN|apply Kd.Q_drew));exact (Kd.Q_mono (Kd.Q_far (p:=⟨gb499,3,none⟩) (Kd.Q_far (p:=⟨gb499,2,none⟩) (Kd.Q_far (p:=⟨gb499,1,none⟩) (Kd.Q_far (p:=⟨gb499,0,none⟩) (Kd.Q_types HO497.out BK499.out (by decide)) (fun _ hk => hk.2) (.int .i64 t488)) (fun _ hk => hk.2) (.slice Ao12 t489.length co12)) (fun _ hk => hk.2) (.slice Ao13 t492.length co13)) (fun _ hk => hk.2) (.slice Ao14 t495.length co14)) (fun _ h_ => h_.1))));(case side6 => exact (Kd.Q_reads' HO497.out).2.1);rintro e w15 ⟨v501,rfl,ho0,hb⟩;refine ⟨_,rfl,?_⟩;have n0_:=mk_ (rb_ (by (with_reducible repeat (first|apply ra_|apply rn_|apply rd_));exact (rm_ (rf_ (p:=⟨gb499,3,none⟩) (rf_ (p:=⟨gb499,2,none⟩) (rf_ (p:=⟨gb499,1,none⟩) (rf_ (p:=⟨gb499,0,none⟩) (rt_ HO491.out BK499.out (by decide)) (fun _ hk => hk.2) (.int .i64 t488)) (fun _ hk => hk.2) (.slice Ao12 t489.length co12)) (fun _ hk => hk.2) (.slice Ao13 t492.length co13)) (fun _ hk => hk.2) (.slice Ao14 t495.length co14)) (fun _ h_ => h_.1))) hb);have n1_:=mk_ (re_ (by (with_reducible repeat (first|apply ra_|apply rn_|apply rd_));exact (rm_ (rf_ (p:=⟨gb499,3,none⟩) (rf_ (p:=⟨gb499,2,none⟩) (rf_ (p:=⟨gb499,1,none⟩) (rf_ (p:=⟨gb499,0,none⟩) (rt_ HO494.out BK499.out (by decide)) (fun _ hk => hk.2) (.int .i64 t488)) (fun _ hk => hk.2) (.slice Ao12 t489.length co12)) (fun _ hk => hk.2) (.slice Ao13 t492.length co13)) (fun _ hk => hk.2) (.slice Ao14 t495.length co14)) (fun _ h_ => h_.1))) (Kd.R_base ho0) hb);have n2_:=mk_ (Kd.Q_elder' (by (with_reducible repeat (first|apply Kd.Q_alloc|apply Kd.Q_drewN|apply Kd.Q_drew));exact (Kd.Q_mono (Kd.Q_far (p:=⟨gb499,3,none⟩) (Kd.Q_far (p:=⟨gb499,2,none⟩) (Kd.Q_far (p:=⟨gb499,1,none⟩) (Kd.Q_far (p:=⟨gb499,0,none⟩) (Kd.Q_types HO497.out BK499.out (by decide)) (fun _ hk => hk.2) (.int .i64 t488)) (fun _ hk => hk.2) (.slice Ao12 t489.length co12)) (fun _ hk => hk.2) (.slice Ao13 t492.length co13)) (fun _ hk => hk.2) (.slice Ao14 t495.length co14)) (fun _ h_ => h_.1))) (Kd.R_base ho0) hb);have n3_:=mk_ (Kd.R_lower (Kd.R_new' (Kd.R_new' ho0 (Kd.R_lt (by (with_reducible repeat (first|apply ra_|apply rn_|apply rd_));exact (rm_ (rf_ (p:=⟨gb499,3,none⟩) (rf_ (p:=⟨gb499,2,none⟩) (rf_ (p:=⟨gb499,1,none⟩) (rf_ (p:=⟨gb499,0,none⟩) (rt_ HO494.out BK499.out (by decide)) (fun _ hk => hk.2) (.int .i64 t488)) (fun _ hk => hk.2) (.slice Ao12 t489.length co12)) (fun _ hk => hk.2) (.slice Ao13 t492.length co13)) (fun _ hk => hk.2) (.slice Ao14 t495.length co14)) (fun _ h_ => h_.1))))) (Kd.Q_lt (by (with_reducible repeat (first|apply Kd.Q_alloc|apply Kd.Q_drewN|apply Kd.Q_drew));exact (Kd.Q_mono (Kd.Q_far (p:=⟨gb499,3,none⟩) (Kd.Q_far (p:=⟨gb499,2,none⟩) (Kd.Q_far (p:=⟨gb499,1,none⟩) (Kd.Q_far (p:=⟨gb499,0,none⟩) (Kd.Q_types HO497.out BK499.out (by decide)) (fun _ hk => hk.2) (.int .i64 t488)) (fun _ hk => hk.2) (.slice Ao12 t489.length co12)) (fun _ hk => hk.2) (.slice Ao13 t492.length co13)) (fun _ hk => hk.2) (.slice Ao14 t495.length co14)) (fun _ h_ => h_.1))))) (bz_ (by repeat (first|(with_reducible first|exact HB.out|apply ba_|apply bn_|apply bd_|refine bs_ ?_ GE499.out)|exact HB.out))));have n4_:=mk_ (blk_below (g:=gb499) (o:=.cells #[.int .i64 t488,.slice Ao12 t489.length co12,.slice Ao13 t492.length co13,.slice Ao14 t495.length co14] 30 (0,0)) (by (with_reducible repeat (first|refine kn_ ?_ _|refine kd_ ?_|refine ka_ ?_ _));refine blk_put (cs:=#[.int .i64 t488,.slice Ao12 t489.length co12,.slice Ao13 t492.length co13,.slice none 0 0]) ?_ 3 _ rfl;(with_reducible repeat (first|refine kn_ ?_ _|refine kd_ ?_|refine ka_ ?_ _));refine blk_put (cs:=#[.int .i64 t488,.slice Ao12 t489.length co12,.slice none 0 0,.slice none 0 0]) ?_ 2 _ rfl;(with_reducible repeat (first|refine kn_ ?_ _|refine kd_ ?_|refine ka_ ?_ _));refine blk_put (cs:=#[.int .i64 t488,.slice none 0 0,.slice none 0 0,.slice none 0 0]) ?_ 1 _ rfl;(with_reducible repeat (first|refine kn_ ?_ _|refine kd_ ?_|refine ka_ ?_ _));refine blk_put (cs:=#[.int .i64 0,.slice none 0 0,.slice none 0 0,.slice none 0 0]) ?_ 0 _ rfl;(with_reducible repeat (first|refine kn_ ?_ _|refine kd_ ?_|refine ka_ ?_ _));exact BK499.out) hb);have n5_:=mk_ (st_ (by repeat (first|(with_reducible first|exact HB.out|apply ba_|apply bn_|apply bd_|refine bs_ ?_ GE499.out)|exact HB.out)) hb);clear HO491;clear HO494;clear HO497;clear BK499;clear HB;have HO491:=n0_;have HO494:=n1_;have HO497:=n2_;have HO502:=n3_;have BK499:=n4_;have HB:=n5_;clear n0_ n1_ n2_ n3_ n4_ n5_;(try clear hb);(try clear hb2);(try clear hk);(try clear hi);(try clear ho0);have hcz16_0 : w15.cell? ⟨gb499,0,none⟩ = some (.int .i64 t488):=(bc_ BK499.out 0).trans rfl;have hcz16_1 : w15.cell? ⟨gb499,1,none⟩ = some (.slice Ao12 t489.length co12):=(bc_ BK499.out 1).trans rfl;have hcz16_2 : w15.cell? ⟨gb499,2,none⟩ = some (.slice Ao13 t492.length co13):=(bc_ BK499.out 2).trans rfl;have hcz16_3 : w15.cell? ⟨gb499,3,none⟩ = some (.slice Ao14 t495.length co14):=(bc_ BK499.out 3).trans rfl;have hfz16_0:=bf_ BK499.out 0;have hfz16_1:=bf_ BK499.out 1;have hfz16_2:=bf_ BK499.out 2;have hfz16_3:=bf_ BK499.out 3)|((with_reducible refine gate_callee (f:=33) rfl ?_);refine goesL_ (some 25) rfl rfl Try.func33 (by kernel_rfl) rfl #[.agg #[.int .i64 t488,.slice Ao12 t489.length co12,.slice Ao13 t492.length co13,.slice Ao14 t495.length co14],.int .i64 t498] rfl (by (try simp only [List.map_toArray,List.map_cons,List.map_nil]);first|done|rfl|(simp only [List.length_drop,List.length_take];rfl)) ?_;(with_reducible refine (spec_FloodOver.calls k t488 _ _ t489 _ _ t492 _ _ t495 t498 t503 _ ?side1 ?side2 ?side3 ?side4 ?side5 ?side6 A5.out).mono ?_);(case side1 => repeat (first|exact (rr_ HO491.out).2.2|(with_reducible refine ca_ ?_ _)|(with_reducible refine cn_ ?_ _)|(with_reducible refine cd_ ?_)));(case side2 => exact (rr_ HO491.out).2.1);(case side3 => repeat (first|exact (rr_ HO494.out).2.2|(with_reducible refine ca_ ?_ _)|(with_reducible refine cn_ ?_ _)|(with_reducible refine cd_ ?_)));(case side4 => exact (rr_ HO494.out).2.1);(case side5 => repeat (first|exact (Kd.Q_reads' HO497.out).2.2|(with_reducible refine ca_ ?_ _)|(with_reducible refine cn_ ?_ _)|(with_reducible refine cd_ ?_)));(case side6 => exact (Kd.Q_reads' HO497.out).2.1);rintro e w17 ⟨v504,rfl,ho0,hb⟩;refine ⟨_,rfl,?_⟩;have n0_:=mk_ (rb_ (by (with_reducible repeat (first|apply ra_|apply rn_|apply rd_));exact HO491.out) hb);have n1_:=mk_ (re_ (by (with_reducible repeat (first|apply ra_|apply rn_|apply rd_));exact HO494.out) (Kd.R_base ho0) hb);have n2_:=mk_ (Kd.Q_elder' (by (with_reducible repeat (first|apply Kd.Q_alloc|apply Kd.Q_drewN|apply Kd.Q_drew));exact HO497.out) (Kd.R_base ho0) hb);have n3_:=mk_ (re_ (by (with_reducible repeat (first|apply ra_|apply rn_|apply rd_));exact HO502.out) (Kd.R_base ho0) hb);have n4_:=mk_ (Kd.R_lower (Kd.R_new' (Kd.R_new' (Kd.R_new' ho0 (Kd.R_lt (by (with_reducible repeat (first|apply ra_|apply rn_|apply rd_));exact HO494.out))) (Kd.Q_lt (by (with_reducible repeat (first|apply Kd.Q_alloc|apply Kd.Q_drewN|apply Kd.Q_drew));exact HO497.out))) (Kd.R_lt (by (with_reducible repeat (first|apply ra_|apply rn_|apply rd_));exact HO502.out))) (bz_ (by repeat (first|(with_reducible first|exact HB.out|apply ba_|apply bn_|apply bd_|refine bs_ ?_ GE499.out)|exact HB.out))));have n5_:=mk_ (blk_below (g:=gb499) (o:=.cells #[.int .i64 t488,.slice Ao12 t489.length co12,.slice Ao13 t492.length co13,.slice Ao14 t495.length co14] 30 (0,0)) (by (with_reducible repeat (first|refine kn_ ?_ _|refine kd_ ?_|refine ka_ ?_ _));exact BK499.out) hb);have n6_:=mk_ (st_ (by repeat (first|(with_reducible first|exact HB.out|apply ba_|apply bn_|apply bd_|refine bs_ ?_ GE499.out)|exact HB.out)) hb);clear HO491;clear HO494;clear HO497;clear HO502;clear BK499;clear HB;have HO491:=n0_;have HO494:=n1_;have HO497:=n2_;have HO502:=n3_;have HO505:=n4_;have BK499:=n5_;have HB:=n6_;clear n0_ n1_ n2_ n3_ n4_ n5_ n6_;(try clear hb);(try clear hb2);(try clear hk);(try clear hi);(try clear ho0);obtain ⟨Ao18,co18,eo18⟩:=Kd.R_slice HO502.out;subst eo18;obtain ⟨Ao19,co19,eo19⟩:=Kd.R_slice HO505.out;subst eo19)|((with_reducible refine gate_callee (f:=19) rfl ?_);refine goesL_ (some 26) rfl rfl Try.func19 (by kernel_rfl) rfl #[.slice Ao18 t500.length co18,.slice Ao19 t503.length co19] rfl (by (try simp only [List.map_toArray,List.map_cons,List.map_nil]);first|done|rfl|(simp only [List.length_drop,List.length_take];rfl)) ?_;(with_reducible refine (laws_wnInts.calls k _ _ t500 _ _ t503 true _ ?side1 ?side2 ?side3 ?side4 A6.out).mono ?_);(case side1 => repeat (first|exact (rr_ HO502.out).2.2|(with_reducible refine ca_ ?_ _)|(with_reducible refine cn_ ?_ _)|(with_reducible refine cd_ ?_)));(case side2 => exact (rr_ HO502.out).2.1);(case side3 => repeat (first|exact (rr_ HO505.out).2.2|(with_reducible refine ca_ ?_ _)|(with_reducible refine cn_ ?_ _)|(with_reducible refine cd_ ?_)));(case side4 => exact (rr_ HO505.out).2.1);rintro e w' ⟨rfl,⟨nd,rfl⟩⟩;refine ⟨_,rfl,?_⟩;have hcz20_0 : w17.cell? ⟨gb499,0,none⟩ = some (.int .i64 t488):=(bc_ BK499.out 0).trans rfl;have hcz20_1 : w17.cell? ⟨gb499,1,none⟩ = some (.slice Ao12 t489.length co12):=(bc_ BK499.out 1).trans rfl;have hcz20_2 : w17.cell? ⟨gb499,2,none⟩ = some (.slice Ao13 t492.length co13):=(bc_ BK499.out 2).trans rfl;have hcz20_3 : w17.cell? ⟨gb499,3,none⟩ = some (.slice Ao14 t495.length co14):=(bc_ BK499.out 3).trans rfl;have hfz20_0:=bf_ BK499.out 0;have hfz20_1:=bf_ BK499.out 1;have hfz20_2:=bf_ BK499.out 2;have hfz20_3:=bf_ BK499.out 3)|((with_reducible refine gate_callee (f:=18) rfl ?_);refine goesL_ (some 30) rfl rfl Try.func18 (by kernel_rfl) rfl #[.agg #[.int .i64 t488,.slice Ao12 t489.length co12,.slice Ao13 t492.length co13,.slice Ao14 t495.length co14],.int .i64 t498] rfl (by (try simp only [List.map_toArray,List.map_cons,List.map_nil]);first|done|rfl|(simp only [List.length_drop,List.length_take];rfl)) ?_;(with_reducible refine (impl_MatesOf.calls k t488 _ _ t489 _ _ t492 _ _ t495 t498 t507 _ ?side1 ?side2 ?side3 ?side4 ?side5 ?side6 A8.out).mono ?_);(case side1 => repeat (first|exact (rr_ HO491.out).2.2|(with_reducible refine ca_ ?_ _)|(with_reducible refine cn_ ?_ _)|(with_reducible refine cd_ ?_)));(case side2 => exact (rr_ HO491.out).2.1);(case side3 => repeat (first|exact (rr_ HO494.out).2.2|(with_reducible refine ca_ ?_ _)|(with_reducible refine cn_ ?_ _)|(with_reducible refine cd_ ?_)));(case side4 => exact (rr_ HO494.out).2.1);(case side5 => repeat (first|exact (Kd.Q_reads' HO497.out).2.2|(with_reducible refine ca_ ?_ _)|(with_reducible refine cn_ ?_ _)|(with_reducible refine cd_ ?_)));(case side6 => exact (Kd.Q_reads' HO497.out).2.1);rintro e w21 ⟨v508,rfl,ho0,hb⟩;refine ⟨_,rfl,?_⟩;have n0_:=mk_ (rb_ (by (with_reducible repeat (first|apply ra_|apply rn_|apply rd_));exact HO491.out) hb);have n1_:=mk_ (re_ (by (with_reducible repeat (first|apply ra_|apply rn_|apply rd_));exact HO494.out) (Kd.R_base ho0) hb);have n2_:=mk_ (Kd.Q_elder' (by (with_reducible repeat (first|apply Kd.Q_alloc|apply Kd.Q_drewN|apply Kd.Q_drew));exact HO497.out) (Kd.R_base ho0) hb);have n3_:=mk_ (re_ (by (with_reducible repeat (first|apply ra_|apply rn_|apply rd_));exact HO502.out) (Kd.R_base ho0) hb);have n4_:=mk_ (re_ (by (with_reducible repeat (first|apply ra_|apply rn_|apply rd_));exact HO505.out) (Kd.R_base ho0) hb);have n5_:=mk_ (Kd.R_lower (Kd.R_new' (Kd.R_new' (Kd.R_new' (Kd.R_new' ho0 (Kd.R_lt (by (with_reducible repeat (first|apply ra_|apply rn_|apply rd_));exact HO494.out))) (Kd.Q_lt (by (with_reducible repeat (first|apply Kd.Q_alloc|apply Kd.Q_drewN|apply Kd.Q_drew));exact HO497.out))) (Kd.R_lt (by (with_reducible repeat (first|apply ra_|apply rn_|apply rd_));exact HO502.out))) (Kd.R_lt (by (with_reducible repeat (first|apply ra_|apply rn_|apply rd_));exact HO505.out))) (bz_ (by repeat (first|(with_reducible first|exact HB.out|apply ba_|apply bn_|apply bd_|refine bs_ ?_ GE499.out)|exact HB.out))));have n6_:=mk_ (blk_below (g:=gb499) (o:=.cells #[.int .i64 t488,.slice Ao12 t489.length co12,.slice Ao13 t492.length co13,.slice Ao14 t495.length co14] 30 (0,0)) (by (with_reducible repeat (first|refine kn_ ?_ _|refine kd_ ?_|refine ka_ ?_ _));exact BK499.out) hb);have n7_:=mk_ (st_ (by repeat (first|(with_reducible first|exact HB.out|apply ba_|apply bn_|apply bd_|refine bs_ ?_ GE499.out)|exact HB.out)) hb);clear HO491;clear HO494;clear HO497;clear HO502;clear HO505;clear BK499;clear HB;have HO491:=n0_;have HO494:=n1_;have HO497:=n2_;have HO502:=n3_;have HO505:=n4_;have HO509:=n5_;have BK499:=n6_;have HB:=n7_;clear n0_ n1_ n2_ n3_ n4_ n5_ n6_ n7_;(try clear hb);(try clear hb2);(try clear hk);(try clear hi);(try clear ho0);obtain ⟨Ao22,co22,eo22⟩:=Kd.R_slice HO509.out;subst eo22))
   go_loopg [32] k (fun kq v32 w' => ∃ (x32_1 : Int),v32 = .int .i64 x32_1 ∧ Aside0 (laws_FnFloodOver.l0 kq t500 t507 (t507.length : Int) x32_1 t488 t489 t492 t495 = some r) ∧ Aside0 (kq ≤ k) ∧ Aside0 (Kd.R (Kd.int .i64) 3 w' w.heap.size (fun k_ => some k_ ≠ ((.slice Ao22 t507.length co22) : Value).ownBlock ∧ some k_ ≠ ((.slice Ao13 t492.length co13) : Value).ownBlock ∧ some k_ ≠ ((.slice Ao14 t495.length co14) : Value).ownBlock) (.slice Ao18 t500.length co18) t500) ∧ Aside0 (Kd.R (Kd.int .i64) 3 w' w.heap.size (fun k_ => some k_ ≠ ((.slice Ao18 t500.length co18) : Value).ownBlock ∧ some k_ ≠ ((.slice Ao13 t492.length co13) : Value).ownBlock ∧ some k_ ≠ ((.slice Ao14 t495.length co14) : Value).ownBlock) (.slice Ao22 t507.length co22) t507) ∧ Aside0 (Kd.R k51 51 w' w.heap.size (fun _ => True) (.slice Ao12 t489.length co12) t489) ∧ Aside0 (Kd.R (Kd.int .i64) 3 w' w.heap.size (fun k_ => some k_ ≠ ((.slice Ao18 t500.length co18) : Value).ownBlock ∧ some k_ ≠ ((.slice Ao22 t507.length co22) : Value).ownBlock ∧ some k_ ≠ ((.slice Ao14 t495.length co14) : Value).ownBlock) (.slice Ao13 t492.length co13) t492) ∧ Aside0 (Kd.Q (Kd.int .i64) 3 w' w.heap.size (fun k_ => some k_ ≠ ((.slice Ao18 t500.length co18) : Value).ownBlock ∧ some k_ ≠ ((.slice Ao22 t507.length co22) : Value).ownBlock ∧ some k_ ≠ ((.slice Ao13 t492.length co13) : Value).ownBlock) (.slice Ao14 t495.length co14) t495) ∧ Aside0 (w'.heap[gb499]? = some (.cells #[.int .i64 t488,(.slice Ao12 t489.length co12),(.slice Ao13 t492.length co13),(.slice Ao14 t495.length co14)] 30 (0,0))) ∧ Aside0 (Below w.heap.size w w'))
   case atStart => exact ⟨(0),(by first|rfl|(simp;done)|(simp [*];done)),H',⟨Nat.le_refl _⟩,⟨by (with_reducible repeat (first|apply ra_|apply rn_|apply rd_));exact rm_ HO502.out (fun _ hk => ⟨hk.2,⟨hk.1.1.1.2,hk.1.1.2⟩⟩)⟩,⟨by (with_reducible repeat (first|apply ra_|apply rn_|apply rd_));exact rm_ HO509.out (fun _ hk => ⟨hk.1.2,⟨hk.1.1.1.2,hk.1.1.2⟩⟩)⟩,⟨by (with_reducible repeat (first|apply ra_|apply rn_|apply rd_));exact HO491.out⟩,⟨by (with_reducible repeat (first|apply ra_|apply rn_|apply rd_));exact rm_ HO494.out (fun _ hk => ⟨hk.1.1.2,⟨hk.2,hk.1.1.1⟩⟩)⟩,⟨by (with_reducible repeat (first|apply Kd.Q_alloc|apply Kd.Q_drewN|apply Kd.Q_drew));exact Kd.Q_mono HO497.out (fun _ hk => ⟨hk.1.1.2,⟨hk.2,hk.1.1.1⟩⟩)⟩,⟨by (with_reducible repeat (first|refine kn_ ?_ _|refine kd_ ?_|refine ka_ ?_ _));exact BK499.out⟩,⟨by repeat (first|(with_reducible first|exact HB.out|apply ba_|apply bn_|apply bd_|refine bs_ ?_ GE499.out)|exact HB.out)⟩⟩
   case round =>
    clear H'
    try clear c1
    try clear c2
    try clear c2b0
    try clear c2b1
    try clear p2
    try clear c3
    try clear c7
    try clear c8
    try clear c18
    try clear c19
    try clear hcz11_0
    try clear hcz11_1
    try clear hcz11_2
    try clear hcz11_3
    try clear hcz16_0
    try clear hcz16_1
    try clear hcz16_2
    try clear hcz16_3
    try clear hcz20_0
    try clear hcz20_1
    try clear hcz20_2
    try clear hcz20_3
    try clear hfz11_0
    try clear hfz11_1
    try clear hfz11_2
    try clear hfz11_3
    try clear hfz16_0
    try clear hfz16_1
    try clear hfz16_2
    try clear hfz16_3
    try clear hfz20_0
    try clear hfz20_1
    try clear hfz20_2
    try clear hfz20_3
    obtain ⟨x32_1,rfl,HA,HK1,HO_5,HO_30,HO_500001,HO_500002,HO_500003,BK499,HB⟩:=hrel
    cases gk with
    | zero => exact absurd HA.out (by simp [laws_FnFloodOver.l0])
    | succ k1 =>
     have H:=HA.out
     clear HA
     simp only [laws_FnFloodOver.l0] at H
     by_cases c23 : x32_1 < (t507.length : Int)
     ·rw [if_pos c23] at H
      have c23b0 : decide (x32_1 < (t507.length : Int)) = true:=decide_eq_true c23
      clear c23
      by_cases c24 : 0 ≤ x32_1
      ·rw [if_pos c24] at H
       have c24b0 : decide (0 ≤ x32_1) = true:=decide_eq_true c24
       clear c24
       by_cases c25 : x32_1 < (t507.length : Int)
       ·rw [if_pos c25] at H
        have c25b0 : decide (x32_1 < (t507.length : Int)) = true:=decide_eq_true c25
        clear c25
        replace H:=Option.bind_eq_some_iff.mp H
        obtain ⟨t511,A260,H⟩:=H
        replace H : ((laws_wnInts.f k1 t511 t500).bind fun t514 => (if t514 = true then (laws_FnFloodOver.l0 k1 t500 t507 (t507.length : Int) (wrap64 (x32_1 + 1)) t488 t489 t492 t495) else (some false))) = some r:=H
        have A26:=mk_ A260
        clear A260
        replace H:=Option.bind_eq_some_iff.mp H
        obtain ⟨t514,A270,H⟩:=H
        replace H : (if t514 = true then (laws_FnFloodOver.l0 k1 t500 t507 (t507.length : Int) (wrap64 (x32_1 + 1)) t488 t489 t492 t495) else (some false)) = some r:=H
        have A27:=mk_ A270
        clear A270
        by_cases c28 : t514 = true
        ·subst c28
         have H1 : (laws_FnFloodOver.l0 k1 t500 t507 (t507.length : Int) (wrap64 (x32_1 + 1)) t488 t489 t492 t495) = some r:=by rw [if_pos rfl] at H;exact H
         clear H
         have H:=H1
         clear H1
         have H':=mk_ H
         clear H
         have p510 : 0 ≤ (x32_1 : Int):=od_ (by first|(with_reducible assumption)|assumption)
         have q510 : x32_1 < (t507.length : Int):=od_ (by first|(with_reducible assumption)|assumption)
         obtain ⟨ad510,e510,hx510_0⟩:=Kd.at_int (rr_ HO_30.out).2.2 x32_1 p510 q510
         cases e510
         replace p510:=eq_true p510
         replace q510:=eq_true q510
         have hcz29_0 : wr.cell? ⟨gb499,0,none⟩ = some (.int .i64 t488):=(bc_ BK499.out 0).trans rfl
         have hcz29_1 : wr.cell? ⟨gb499,1,none⟩ = some (.slice Ao12 t489.length co12):=(bc_ BK499.out 1).trans rfl
         have hcz29_2 : wr.cell? ⟨gb499,2,none⟩ = some (.slice Ao13 t492.length co13):=(bc_ BK499.out 2).trans rfl
         have hcz29_3 : wr.cell? ⟨gb499,3,none⟩ = some (.slice Ao14 t495.length co14):=(bc_ BK499.out 3).trans rfl
         have hfz29_0:=bf_ BK499.out 0
         have hfz29_1:=bf_ BK499.out 1
         have hfz29_2:=bf_ BK499.out 2
         have hfz29_3:=bf_ BK499.out 3
         go_wp2_with (first|((with_reducible refine gate_callee (f:=32) rfl ?_);refine goesL_ (some 38) rfl rfl Try.func32 (by kernel_rfl) rfl #[.agg #[.int .i64 t488,.slice Ao12 t489.length co12,.slice Ao13 t492.length co13,.slice Ao14 t495.length co14],.int .i64 (rd t507 x32_1)] rfl (by (try simp only [List.map_toArray,List.map_cons,List.map_nil]);first|done|rfl|(simp only [List.length_drop,List.length_take];rfl)) ?_;(with_reducible refine (impl_FloodOver.calls k1 t488 _ _ t489 _ _ t492 _ _ t495 (rd t507 x32_1) t511 _ ?side1 ?side2 ?side3 ?side4 ?side5 ?side6 A26.out).mono ?_);(case side1 => repeat (first|exact (rr_ HO_500001.out).2.2|(with_reducible refine ca_ ?_ _)|(with_reducible refine cn_ ?_ _)|(with_reducible refine cd_ ?_)));(case side2 => exact (rr_ HO_500001.out).2.1);(case side3 => repeat (first|exact (rr_ HO_500002.out).2.2|(with_reducible refine ca_ ?_ _)|(with_reducible refine cn_ ?_ _)|(with_reducible refine cd_ ?_)));(case side4 => exact (rr_ HO_500002.out).2.1);(case side5 => repeat (first|exact (Kd.Q_reads' HO_500003.out).2.2|(with_reducible refine ca_ ?_ _)|(with_reducible refine cn_ ?_ _)|(with_reducible refine cd_ ?_)));(case side6 => exact (Kd.Q_reads' HO_500003.out).2.1);rintro e w30 ⟨v512,rfl,ho0,hb⟩;refine ⟨_,rfl,?_⟩;have n0_:=mk_ (re_ (by (with_reducible repeat (first|apply ra_|apply rn_|apply rd_));exact HO_5.out) (Kd.R_base ho0) hb);have n1_:=mk_ (re_ (by (with_reducible repeat (first|apply ra_|apply rn_|apply rd_));exact HO_30.out) (Kd.R_base ho0) hb);have n2_:=mk_ (rb_ (by (with_reducible repeat (first|apply ra_|apply rn_|apply rd_));exact HO_500001.out) hb);have n3_:=mk_ (re_ (by (with_reducible repeat (first|apply ra_|apply rn_|apply rd_));exact HO_500002.out) (Kd.R_base ho0) hb);have n4_:=mk_ (Kd.Q_elder' (by (with_reducible repeat (first|apply Kd.Q_alloc|apply Kd.Q_drewN|apply Kd.Q_drew));exact HO_500003.out) (Kd.R_base ho0) hb);have n5_:=mk_ (Kd.R_lower (Kd.R_new' (Kd.R_new' (Kd.R_new' (Kd.R_new' ho0 (Kd.R_lt (by (with_reducible repeat (first|apply ra_|apply rn_|apply rd_));exact HO_5.out))) (Kd.R_lt (by (with_reducible repeat (first|apply ra_|apply rn_|apply rd_));exact HO_30.out))) (Kd.R_lt (by (with_reducible repeat (first|apply ra_|apply rn_|apply rd_));exact HO_500002.out))) (Kd.Q_lt (by (with_reducible repeat (first|apply Kd.Q_alloc|apply Kd.Q_drewN|apply Kd.Q_drew));exact HO_500003.out))) (bz_ (by repeat (first|(with_reducible first|exact HB.out|apply ba_|apply bn_|apply bd_|refine bs_ ?_ GE499.out)|exact HB.out))));have n6_:=mk_ (blk_below (g:=gb499) (o:=.cells #[.int .i64 t488,.slice Ao12 t489.length co12,.slice Ao13 t492.length co13,.slice Ao14 t495.length co14] 30 (0,0)) (by (with_reducible repeat (first|refine kn_ ?_ _|refine kd_ ?_|refine ka_ ?_ _));exact BK499.out) hb);have n7_:=mk_ (st_ (by repeat (first|(with_reducible first|exact HB.out|apply ba_|apply bn_|apply bd_|refine bs_ ?_ GE499.out)|exact HB.out)) hb);clear HO_5;clear HO_30;clear HO_500001;clear HO_500002;clear HO_500003;clear BK499;clear HB;have HO_5:=n0_;have HO_30:=n1_;have HO_500001:=n2_;have HO_500002:=n3_;have HO_500003:=n4_;have HO513:=n5_;have BK499:=n6_;have HB:=n7_;clear n0_ n1_ n2_ n3_ n4_ n5_ n6_ n7_;(try clear hb);(try clear hb2);(try clear hk);(try clear hi);(try clear ho0);obtain ⟨Ao31,co31,eo31⟩:=Kd.R_slice HO513.out;subst eo31)|((with_reducible refine gate_callee (f:=19) rfl ?_);refine goesL_ (some 40) rfl rfl Try.func19 (by kernel_rfl) rfl #[.slice Ao31 t511.length co31,.slice Ao18 t500.length co18] rfl (by (try simp only [List.map_toArray,List.map_cons,List.map_nil]);first|done|rfl|(simp only [List.length_drop,List.length_take];rfl)) ?_;(with_reducible refine (laws_wnInts.calls k1 _ _ t511 _ _ t500 true _ ?side1 ?side2 ?side3 ?side4 A27.out).mono ?_);(case side1 => repeat (first|exact (rr_ HO513.out).2.2|(with_reducible refine ca_ ?_ _)|(with_reducible refine cn_ ?_ _)|(with_reducible refine cd_ ?_)));(case side2 => exact (rr_ HO513.out).2.1);(case side3 => repeat (first|exact (rr_ HO_5.out).2.2|(with_reducible refine ca_ ?_ _)|(with_reducible refine cn_ ?_ _)|(with_reducible refine cd_ ?_)));(case side4 => exact (rr_ HO_5.out).2.1);rintro e w' ⟨rfl,⟨nd,rfl⟩⟩;refine ⟨_,rfl,?_⟩))
         go_roundg k1
         case measure => have:=HK1.out;omega
         case rel => exact ⟨(wrap64 (x32_1 + 1)),(by first|rfl|(simp;done)|(simp [*];done)),H',⟨by have:=HK1.out;omega⟩,⟨by (with_reducible repeat (first|apply ra_|apply rn_|apply rd_));exact rm_ HO_5.out (fun _ hk => ⟨hk.1.1,⟨hk.1.2.1,hk.1.2.2⟩⟩)⟩,⟨by (with_reducible repeat (first|apply ra_|apply rn_|apply rd_));exact rm_ HO_30.out (fun _ hk => ⟨hk.1.1,⟨hk.1.2.1,hk.1.2.2⟩⟩)⟩,⟨by (with_reducible repeat (first|apply ra_|apply rn_|apply rd_));exact HO_500001.out⟩,⟨by (with_reducible repeat (first|apply ra_|apply rn_|apply rd_));exact rm_ HO_500002.out (fun _ hk => ⟨hk.1.1,⟨hk.1.2.1,hk.1.2.2⟩⟩)⟩,⟨by (with_reducible repeat (first|apply Kd.Q_alloc|apply Kd.Q_drewN|apply Kd.Q_drew));exact Kd.Q_mono HO_500003.out (fun _ hk => ⟨hk.1.1,⟨hk.1.2.1,hk.1.2.2⟩⟩)⟩,⟨by (with_reducible repeat (first|refine kn_ ?_ _|refine kd_ ?_|refine ka_ ?_ _));exact BK499.out⟩,⟨by repeat (first|(with_reducible first|exact HB.out|apply ba_|apply bn_|apply bd_|refine bs_ ?_ GE499.out)|exact HB.out)⟩⟩
        ·replace c28:=Bool.eq_false_iff.mpr c28
         subst c28
         have H1 : (some false) = some r:=by rw [if_neg (show ¬ (false = true) by decide)] at H;exact H
         clear H
         have H:=H1
         clear H1
         obtain rfl:=Option.some.inj H
         have p510 : 0 ≤ (x32_1 : Int):=od_ (by first|(with_reducible assumption)|assumption)
         have q510 : x32_1 < (t507.length : Int):=od_ (by first|(with_reducible assumption)|assumption)
         obtain ⟨ad510,e510,hx510_0⟩:=Kd.at_int (rr_ HO_30.out).2.2 x32_1 p510 q510
         cases e510
         replace p510:=eq_true p510
         replace q510:=eq_true q510
         have hcz32_0 : wr.cell? ⟨gb499,0,none⟩ = some (.int .i64 t488):=(bc_ BK499.out 0).trans rfl
         have hcz32_1 : wr.cell? ⟨gb499,1,none⟩ = some (.slice Ao12 t489.length co12):=(bc_ BK499.out 1).trans rfl
         have hcz32_2 : wr.cell? ⟨gb499,2,none⟩ = some (.slice Ao13 t492.length co13):=(bc_ BK499.out 2).trans rfl
         have hcz32_3 : wr.cell? ⟨gb499,3,none⟩ = some (.slice Ao14 t495.length co14):=(bc_ BK499.out 3).trans rfl
         have hfz32_0:=bf_ BK499.out 0
         have hfz32_1:=bf_ BK499.out 1
         have hfz32_2:=bf_ BK499.out 2
         have hfz32_3:=bf_ BK499.out 3
         go_wp2_with (first|((with_reducible refine gate_callee (f:=32) rfl ?_);refine goesL_ (some 38) rfl rfl Try.func32 (by kernel_rfl) rfl #[.agg #[.int .i64 t488,.slice Ao12 t489.length co12,.slice Ao13 t492.length co13,.slice Ao14 t495.length co14],.int .i64 (rd t507 x32_1)] rfl (by (try simp only [List.map_toArray,List.map_cons,List.map_nil]);first|done|rfl|(simp only [List.length_drop,List.length_take];rfl)) ?_;(with_reducible refine (impl_FloodOver.calls k1 t488 _ _ t489 _ _ t492 _ _ t495 (rd t507 x32_1) t511 _ ?side1 ?side2 ?side3 ?side4 ?side5 ?side6 A26.out).mono ?_);(case side1 => repeat (first|exact (rr_ HO_500001.out).2.2|(with_reducible refine ca_ ?_ _)|(with_reducible refine cn_ ?_ _)|(with_reducible refine cd_ ?_)));(case side2 => exact (rr_ HO_500001.out).2.1);(case side3 => repeat (first|exact (rr_ HO_500002.out).2.2|(with_reducible refine ca_ ?_ _)|(with_reducible refine cn_ ?_ _)|(with_reducible refine cd_ ?_)));(case side4 => exact (rr_ HO_500002.out).2.1);(case side5 => repeat (first|exact (Kd.Q_reads' HO_500003.out).2.2|(with_reducible refine ca_ ?_ _)|(with_reducible refine cn_ ?_ _)|(with_reducible refine cd_ ?_)));(case side6 => exact (Kd.Q_reads' HO_500003.out).2.1);rintro e w33 ⟨v512,rfl,ho0,hb⟩;refine ⟨_,rfl,?_⟩;have n0_:=mk_ (re_ (by (with_reducible repeat (first|apply ra_|apply rn_|apply rd_));exact HO_5.out) (Kd.R_base ho0) hb);have n1_:=mk_ (re_ (by (with_reducible repeat (first|apply ra_|apply rn_|apply rd_));exact HO_30.out) (Kd.R_base ho0) hb);have n2_:=mk_ (rb_ (by (with_reducible repeat (first|apply ra_|apply rn_|apply rd_));exact HO_500001.out) hb);have n3_:=mk_ (re_ (by (with_reducible repeat (first|apply ra_|apply rn_|apply rd_));exact HO_500002.out) (Kd.R_base ho0) hb);have n4_:=mk_ (Kd.Q_elder' (by (with_reducible repeat (first|apply Kd.Q_alloc|apply Kd.Q_drewN|apply Kd.Q_drew));exact HO_500003.out) (Kd.R_base ho0) hb);have n5_:=mk_ (Kd.R_lower (Kd.R_new' (Kd.R_new' (Kd.R_new' (Kd.R_new' ho0 (Kd.R_lt (by (with_reducible repeat (first|apply ra_|apply rn_|apply rd_));exact HO_5.out))) (Kd.R_lt (by (with_reducible repeat (first|apply ra_|apply rn_|apply rd_));exact HO_30.out))) (Kd.R_lt (by (with_reducible repeat (first|apply ra_|apply rn_|apply rd_));exact HO_500002.out))) (Kd.Q_lt (by (with_reducible repeat (first|apply Kd.Q_alloc|apply Kd.Q_drewN|apply Kd.Q_drew));exact HO_500003.out))) (bz_ (by repeat (first|(with_reducible first|exact HB.out|apply ba_|apply bn_|apply bd_|refine bs_ ?_ GE499.out)|exact HB.out))));have n6_:=mk_ (blk_below (g:=gb499) (o:=.cells #[.int .i64 t488,.slice Ao12 t489.length co12,.slice Ao13 t492.length co13,.slice Ao14 t495.length co14] 30 (0,0)) (by (with_reducible repeat (first|refine kn_ ?_ _|refine kd_ ?_|refine ka_ ?_ _));exact BK499.out) hb);have n7_:=mk_ (st_ (by repeat (first|(with_reducible first|exact HB.out|apply ba_|apply bn_|apply bd_|refine bs_ ?_ GE499.out)|exact HB.out)) hb);clear HO_5;clear HO_30;clear HO_500001;clear HO_500002;clear HO_500003;clear BK499;clear HB;have HO_5:=n0_;have HO_30:=n1_;have HO_500001:=n2_;have HO_500002:=n3_;have HO_500003:=n4_;have HO513:=n5_;have BK499:=n6_;have HB:=n7_;clear n0_ n1_ n2_ n3_ n4_ n5_ n6_ n7_;(try clear hb);(try clear hb2);(try clear hk);(try clear hi);(try clear ho0);obtain ⟨Ao34,co34,eo34⟩:=Kd.R_slice HO513.out;subst eo34)|((with_reducible refine gate_callee (f:=19) rfl ?_);refine goesL_ (some 40) rfl rfl Try.func19 (by kernel_rfl) rfl #[.slice Ao34 t511.length co34,.slice Ao18 t500.length co18] rfl (by (try simp only [List.map_toArray,List.map_cons,List.map_nil]);first|done|rfl|(simp only [List.length_drop,List.length_take];rfl)) ?_;(with_reducible refine (laws_wnInts.calls k1 _ _ t511 _ _ t500 false _ ?side1 ?side2 ?side3 ?side4 A27.out).mono ?_);(case side1 => repeat (first|exact (rr_ HO513.out).2.2|(with_reducible refine ca_ ?_ _)|(with_reducible refine cn_ ?_ _)|(with_reducible refine cd_ ?_)));(case side2 => exact (rr_ HO513.out).2.1);(case side3 => repeat (first|exact (rr_ HO_5.out).2.2|(with_reducible refine ca_ ?_ _)|(with_reducible refine cn_ ?_ _)|(with_reducible refine cd_ ?_)));(case side4 => exact (rr_ HO_5.out).2.1);rintro e w' ⟨rfl,⟨nd,rfl⟩⟩;refine ⟨_,rfl,?_⟩))
         go_ret
         exact ⟨by first|rfl|(simp [errW_none,errW_some] <;> rfl)|(simp [*,errW_none,errW_some] <;> rfl),by repeat (first|(with_reducible first|exact HB.out|apply ba_|apply bn_|apply bd_|refine bs_ ?_ GE499.out)|exact HB.out)⟩
       ·rw [if_neg c25] at H
        exact absurd H (by simp)
      ·rw [if_neg c24] at H
       exact absurd H (by simp)
     ·rw [if_neg c23] at H
      have c23b0 : decide (x32_1 < (t507.length : Int)) = false:=decide_eq_false c23
      clear c23
      replace H:=Option.bind_eq_some_iff.mp H
      obtain ⟨t515,A350,H⟩:=H
      replace H : (laws_FnFloodOver.l1 k1 t500 t515 t500 (t500.length : Int) 0) = some r:=H
      have A35:=mk_ A350
      clear A350
      have H':=mk_ H
      clear H
      have hcz36_0 : wr.cell? ⟨gb499,0,none⟩ = some (.int .i64 t488):=(bc_ BK499.out 0).trans rfl
      have hcz36_1 : wr.cell? ⟨gb499,1,none⟩ = some (.slice Ao12 t489.length co12):=(bc_ BK499.out 1).trans rfl
      have hcz36_2 : wr.cell? ⟨gb499,2,none⟩ = some (.slice Ao13 t492.length co13):=(bc_ BK499.out 2).trans rfl
      have hcz36_3 : wr.cell? ⟨gb499,3,none⟩ = some (.slice Ao14 t495.length co14):=(bc_ BK499.out 3).trans rfl
      have hfz36_0:=bf_ BK499.out 0
      have hfz36_1:=bf_ BK499.out 1
      have hfz36_2:=bf_ BK499.out 2
      have hfz36_3:=bf_ BK499.out 3
      go_wp2_with (first|((with_reducible refine gate_callee (f:=30) rfl ?_);refine goesL_ (some 47) rfl rfl Try.func30 (by kernel_rfl) rfl #[.int .i64 t488,.slice Ao12 t489.length co12] rfl (by (try simp only [List.map_toArray,List.map_cons,List.map_nil]);first|done|rfl|(simp only [List.length_drop,List.length_take];rfl)) ?_;(with_reducible refine (impl_TreeOf.calls k1 t488 _ _ t489 t515 _ ?side1 ?side2 A35.out).mono ?_);(case side1 => repeat (first|exact (rr_ HO_500001.out).2.2|(with_reducible refine ca_ ?_ _)|(with_reducible refine cn_ ?_ _)|(with_reducible refine cd_ ?_)));(case side2 => exact (rr_ HO_500001.out).2.1);rintro e w37 ⟨v516,rfl,ho0,hb⟩;refine ⟨_,rfl,?_⟩;have n0_:=mk_ (re_ (by (with_reducible repeat (first|apply ra_|apply rn_|apply rd_));exact HO_5.out) (Kd.R_base ho0) hb);have n1_:=mk_ (re_ (by (with_reducible repeat (first|apply ra_|apply rn_|apply rd_));exact HO_30.out) (Kd.R_base ho0) hb);have n2_:=mk_ (rb_ (by (with_reducible repeat (first|apply ra_|apply rn_|apply rd_));exact HO_500001.out) hb);have n3_:=mk_ (re_ (by (with_reducible repeat (first|apply ra_|apply rn_|apply rd_));exact HO_500002.out) (Kd.R_base ho0) hb);have n4_:=mk_ (Kd.Q_elder' (by (with_reducible repeat (first|apply Kd.Q_alloc|apply Kd.Q_drewN|apply Kd.Q_drew));exact HO_500003.out) (Kd.R_base ho0) hb);have n5_:=mk_ (Kd.R_lower (Kd.R_new' (Kd.R_new' (Kd.R_new' (Kd.R_new' ho0 (Kd.R_lt (by (with_reducible repeat (first|apply ra_|apply rn_|apply rd_));exact HO_5.out))) (Kd.R_lt (by (with_reducible repeat (first|apply ra_|apply rn_|apply rd_));exact HO_30.out))) (Kd.R_lt (by (with_reducible repeat (first|apply ra_|apply rn_|apply rd_));exact HO_500002.out))) (Kd.Q_lt (by (with_reducible repeat (first|apply Kd.Q_alloc|apply Kd.Q_drewN|apply Kd.Q_drew));exact HO_500003.out))) (bz_ (by repeat (first|(with_reducible first|exact HB.out|apply ba_|apply bn_|apply bd_|refine bs_ ?_ GE499.out)|exact HB.out))));have n6_:=mk_ (blk_below (g:=gb499) (o:=.cells #[.int .i64 t488,.slice Ao12 t489.length co12,.slice Ao13 t492.length co13,.slice Ao14 t495.length co14] 30 (0,0)) (by (with_reducible repeat (first|refine kn_ ?_ _|refine kd_ ?_|refine ka_ ?_ _));exact BK499.out) hb);have n7_:=mk_ (st_ (by repeat (first|(with_reducible first|exact HB.out|apply ba_|apply bn_|apply bd_|refine bs_ ?_ GE499.out)|exact HB.out)) hb);clear HO_5;clear HO_30;clear HO_500001;clear HO_500002;clear HO_500003;clear BK499;clear HB;have HO_5:=n0_;have HO_30:=n1_;have HO_500001:=n2_;have HO_500002:=n3_;have HO_500003:=n4_;have HO517:=n5_;have BK499:=n6_;have HB:=n7_;clear n0_ n1_ n2_ n3_ n4_ n5_ n6_ n7_;(try clear hb);(try clear hb2);(try clear hk);(try clear hi);(try clear ho0)))
      go_loopg [50] k1 (fun kq v50 w' => ∃ (x50_2 : Int),v50 = .int .i64 x50_2 ∧ Aside0 (laws_FnFloodOver.l1 kq t500 t515 t500 (t500.length : Int) x50_2 = some r) ∧ Aside0 (kq ≤ k1) ∧ Aside0 (Kd.R (Kd.int .i64) 3 w' w.heap.size (fun k_ => some k_ ≠ (v516 : Value).ownBlock ∧ some k_ ≠ ((.slice Ao13 t492.length co13) : Value).ownBlock ∧ some k_ ≠ ((.slice Ao14 t495.length co14) : Value).ownBlock) (.slice Ao18 t500.length co18) t500) ∧ Aside0 (Kd.R (Kd.int .i64) 3 w' w.heap.size (fun k_ => some k_ ≠ ((.slice Ao18 t500.length co18) : Value).ownBlock ∧ some k_ ≠ ((.slice Ao18 t500.length co18) : Value).ownBlock ∧ some k_ ≠ ((.slice Ao13 t492.length co13) : Value).ownBlock ∧ some k_ ≠ ((.slice Ao14 t495.length co14) : Value).ownBlock) v516 t515) ∧ Aside0 (Kd.R (Kd.int .i64) 3 w' w.heap.size (fun k_ => some k_ ≠ (v516 : Value).ownBlock ∧ some k_ ≠ ((.slice Ao13 t492.length co13) : Value).ownBlock ∧ some k_ ≠ ((.slice Ao14 t495.length co14) : Value).ownBlock) (.slice Ao18 t500.length co18) t500) ∧ Aside0 (Kd.R k51 51 w' w.heap.size (fun _ => True) (.slice Ao12 t489.length co12) t489) ∧ Aside0 (Kd.R (Kd.int .i64) 3 w' w.heap.size (fun k_ => some k_ ≠ ((.slice Ao18 t500.length co18) : Value).ownBlock ∧ some k_ ≠ (v516 : Value).ownBlock ∧ some k_ ≠ ((.slice Ao18 t500.length co18) : Value).ownBlock ∧ some k_ ≠ ((.slice Ao14 t495.length co14) : Value).ownBlock) (.slice Ao13 t492.length co13) t492) ∧ Aside0 (Kd.Q (Kd.int .i64) 3 w' w.heap.size (fun k_ => some k_ ≠ ((.slice Ao18 t500.length co18) : Value).ownBlock ∧ some k_ ≠ (v516 : Value).ownBlock ∧ some k_ ≠ ((.slice Ao18 t500.length co18) : Value).ownBlock ∧ some k_ ≠ ((.slice Ao13 t492.length co13) : Value).ownBlock) (.slice Ao14 t495.length co14) t495) ∧ Aside0 (w'.heap[gb499]? = some (.cells #[.int .i64 t488,(.slice Ao12 t489.length co12),(.slice Ao13 t492.length co13),(.slice Ao14 t495.length co14)] 30 (0,0))) ∧ Aside0 (Below w.heap.size w w'))
      case atStart => exact ⟨(0),(by first|rfl|(simp;done)|(simp [*];done)),H',⟨Nat.le_refl _⟩,⟨by (with_reducible repeat (first|apply ra_|apply rn_|apply rd_));exact rm_ HO_5.out (fun _ hk => ⟨hk.2,⟨hk.1.2.1,hk.1.2.2⟩⟩)⟩,⟨by (with_reducible repeat (first|apply ra_|apply rn_|apply rd_));exact rm_ HO517.out (fun _ hk => ⟨hk.1.1.1.2,⟨hk.1.1.1.2,⟨hk.1.2,hk.2⟩⟩⟩)⟩,⟨by (with_reducible repeat (first|apply ra_|apply rn_|apply rd_));exact rm_ HO_5.out (fun _ hk => ⟨hk.2,⟨hk.1.2.1,hk.1.2.2⟩⟩)⟩,⟨by (with_reducible repeat (first|apply ra_|apply rn_|apply rd_));exact HO_500001.out⟩,⟨by (with_reducible repeat (first|apply ra_|apply rn_|apply rd_));exact rm_ HO_500002.out (fun _ hk => ⟨hk.1.1,⟨hk.2,⟨hk.1.1,hk.1.2.2⟩⟩⟩)⟩,⟨by (with_reducible repeat (first|apply Kd.Q_alloc|apply Kd.Q_drewN|apply Kd.Q_drew));exact Kd.Q_mono HO_500003.out (fun _ hk => ⟨hk.1.1,⟨hk.2,⟨hk.1.1,hk.1.2.2⟩⟩⟩)⟩,⟨by (with_reducible repeat (first|refine kn_ ?_ _|refine kd_ ?_|refine ka_ ?_ _));exact BK499.out⟩,⟨by repeat (first|(with_reducible first|exact HB.out|apply ba_|apply bn_|apply bd_|refine bs_ ?_ GE499.out)|exact HB.out)⟩⟩
      case round =>
       clear H'
       try clear c1
       try clear c2
       try clear c2b0
       try clear c2b1
       try clear p2
       try clear c3
       try clear p5
       try clear q5
       try clear hx5
       try clear p6
       try clear c7
       try clear c8
       try clear c18
       try clear c19
       try clear c23
       try clear c23b0
       try clear c24
       try clear c24b0
       try clear c25
       try clear c25b0
       try clear c28
       try clear c30
       try clear c31
       try clear c32
       try clear c33
       try clear hcz11_0
       try clear hcz11_1
       try clear hcz11_2
       try clear hcz11_3
       try clear hcz16_0
       try clear hcz16_1
       try clear hcz16_2
       try clear hcz16_3
       try clear hcz20_0
       try clear hcz20_1
       try clear hcz20_2
       try clear hcz20_3
       try clear hcz29_0
       try clear hcz29_1
       try clear hcz29_2
       try clear hcz29_3
       try clear hcz32_0
       try clear hcz32_1
       try clear hcz32_2
       try clear hcz32_3
       try clear hcz36_0
       try clear hcz36_1
       try clear hcz36_2
       try clear hcz36_3
       try clear hfz11_0
       try clear hfz11_1
       try clear hfz11_2
       try clear hfz11_3
       try clear hfz16_0
       try clear hfz16_1
       try clear hfz16_2
       try clear hfz16_3
       try clear hfz20_0
       try clear hfz20_1
       try clear hfz20_2
       try clear hfz20_3
       try clear hfz29_0
       try clear hfz29_1
       try clear hfz29_2
       try clear hfz29_3
       try clear hfz32_0
       try clear hfz32_1
       try clear hfz32_2
       try clear hfz32_3
       try clear hfz36_0
       try clear hfz36_1
       try clear hfz36_2
       try clear hfz36_3
       try clear hx510_0
       try clear p2
       try clear p510
       try clear q510
       obtain ⟨x50_2,rfl,HA,HK2,HO_5,HO_8,HO_48,HO_500001,HO_500002,HO_500003,BK499,HB⟩:=hrel
       cases gk with
       | zero => exact absurd HA.out (by simp [laws_FnFloodOver.l1])
       | succ k2 =>
        have H:=HA.out
        clear HA
        simp only [laws_FnFloodOver.l1] at H
        by_cases c38 : x50_2 < (t500.length : Int)
        ·rw [if_pos c38] at H
         have c38b0 : decide (x50_2 < (t500.length : Int)) = true:=decide_eq_true c38
         clear c38
         by_cases c39 : 0 ≤ x50_2
         ·rw [if_pos c39] at H
          have c39b0 : decide (0 ≤ x50_2) = true:=decide_eq_true c39
          clear c39
          by_cases c40 : x50_2 < (t500.length : Int)
          ·rw [if_pos c40] at H
           have c40b0 : decide (x50_2 < (t500.length : Int)) = true:=decide_eq_true c40
           clear c40
           by_cases c41 : x50_2 > 0
           ·rw [if_pos c41] at H
            have c41b0 : decide (0 < x50_2) = true:=decide_eq_true c41
            clear c41
            obtain ⟨ji42,hji42⟩ : ∃ j_ : Int,(wrap64 (x50_2 - 1)) = j_:=⟨_,rfl⟩
            replace H : (if 0 ≤ (ji42) then (if (ji42) < (t500.length : Int) then (if (rd t500 (ji42)) ≥ (rd t500 x50_2) then (some false) else ((laws_wnHas.f k2 t515 (rd t500 x50_2)).bind fun t520 => (if t520 = true then (laws_FnFloodOver.l1 k2 t500 t515 t500 (t500.length : Int) (wrap64 (x50_2 + 1))) else (some false)))) else (none)) else (none)) = some r:=by first|(rw [hji42] at H;exact H)|(simp only [hji42] at H ⊢;exact H)
            have hji42w : (IntKind.i64.wrap (x50_2 - 1)) = ji42:=(i64_w _).trans hji42
            by_cases c43 : 0 ≤ (ji42)
            ·rw [if_pos c43] at H
             have c43b0 : decide (0 ≤ (ji42)) = true:=decide_eq_true c43
             clear c43
             by_cases c44 : (ji42) < (t500.length : Int)
             ·rw [if_pos c44] at H
              have c44b0 : decide ((ji42) < (t500.length : Int)) = true:=decide_eq_true c44
              clear c44
              by_cases c45 : (rd t500 (ji42)) ≥ (rd t500 x50_2)
              ·rw [if_pos c45] at H
               have c45b0 : decide ((rd t500 x50_2) ≤ (rd t500 (ji42))) = true:=decide_eq_true c45
               clear c45
               obtain rfl:=Option.some.inj H
               have p518 : 0 ≤ (x50_2 : Int):=od_ (by first|(with_reducible assumption)|assumption)
               have q518 : x50_2 < (t500.length : Int):=od_ (by first|(with_reducible assumption)|assumption)
               obtain ⟨ad518,e518,hx518_0⟩:=Kd.at_int (rr_ HO_48.out).2.2 x50_2 p518 q518
               cases e518
               replace p518:=eq_true p518
               replace q518:=eq_true q518
               have p519 : 0 ≤ ((ji42) : Int):=od_ (by first|(with_reducible assumption)|assumption)
               have q519 : (ji42) < (t500.length : Int):=od_ (by first|(with_reducible assumption)|assumption)
               obtain ⟨ad519,e519,hx519_0⟩:=Kd.at_int (rr_ HO_5.out).2.2 (ji42) p519 q519
               obtain rfl : ad518 = ad519:=(by injection e519)
               replace p519:=eq_true p519
               replace q519:=eq_true q519
               go_wp2
               go_ret
               exact ⟨by first|rfl|(simp [errW_none,errW_some] <;> rfl)|(simp only [← hji42];first|rfl|(simp [errW_none,errW_some] <;> rfl))|(simp [*,errW_none,errW_some] <;> rfl),by repeat (first|(with_reducible first|exact HB.out|apply ba_|apply bn_|apply bd_|refine bs_ ?_ GE499.out)|exact HB.out)⟩
              ·rw [if_neg c45] at H
               have c45b0 : decide ((rd t500 x50_2) ≤ (rd t500 (ji42))) = false:=decide_eq_false c45
               clear c45
               replace H:=Option.bind_eq_some_iff.mp H
               obtain ⟨t520,A460,H⟩:=H
               replace H : (if t520 = true then (laws_FnFloodOver.l1 k2 t500 t515 t500 (t500.length : Int) (wrap64 (x50_2 + 1))) else (some false)) = some r:=H
               have A46:=mk_ A460
               clear A460
               by_cases c47 : t520 = true
               ·subst c47
                have H1 : (laws_FnFloodOver.l1 k2 t500 t515 t500 (t500.length : Int) (wrap64 (x50_2 + 1))) = some r:=by rw [if_pos rfl] at H;exact H
                clear H
                have H:=H1
                clear H1
                have H':=mk_ H
                clear H
                have p518 : 0 ≤ (x50_2 : Int):=od_ (by first|(with_reducible assumption)|assumption)
                have q518 : x50_2 < (t500.length : Int):=od_ (by first|(with_reducible assumption)|assumption)
                obtain ⟨ad518,e518,hx518_0⟩:=Kd.at_int (rr_ HO_48.out).2.2 x50_2 p518 q518
                cases e518
                replace p518:=eq_true p518
                replace q518:=eq_true q518
                have p519 : 0 ≤ ((ji42) : Int):=od_ (by first|(with_reducible assumption)|assumption)
                have q519 : (ji42) < (t500.length : Int):=od_ (by first|(with_reducible assumption)|assumption)
                obtain ⟨ad519,e519,hx519_0⟩:=Kd.at_int (rr_ HO_5.out).2.2 (ji42) p519 q519
                obtain rfl : ad518 = ad519:=(by injection e519)
                replace p519:=eq_true p519
                replace q519:=eq_true q519
                obtain ⟨Ao48,co48,eo48⟩:=Kd.R_slice HO_8.out
                subst eo48
                go_wp2_with (first|(go_at_call 21;(with_reducible refine (laws_wnHas.calls k2 _ _ t515 (rd t500 x50_2) true _ ?side1 ?side2 A46.out).mono ?_);(case side1 => repeat (first|exact (rr_ HO_8.out).2.2|(with_reducible refine ca_ ?_ _)|(with_reducible refine cn_ ?_ _)|(with_reducible refine cd_ ?_)));(case side2 => exact (rr_ HO_8.out).2.1);rintro e w' ⟨rfl,⟨nd,rfl⟩⟩))
                go_roundg k2
                case measure => have:=HK1.out;have:=HK2.out;omega
                case rel => exact ⟨(wrap64 (x50_2 + 1)),(by first|rfl|(simp;done)|(simp [*];done)),H',⟨by have:=HK1.out;have:=HK2.out;omega⟩,⟨by (with_reducible repeat (first|apply ra_|apply rn_|apply rd_));exact HO_5.out⟩,⟨by (with_reducible repeat (first|apply ra_|apply rn_|apply rd_));exact HO_8.out⟩,⟨by (with_reducible repeat (first|apply ra_|apply rn_|apply rd_));exact HO_48.out⟩,⟨by (with_reducible repeat (first|apply ra_|apply rn_|apply rd_));exact HO_500001.out⟩,⟨by (with_reducible repeat (first|apply ra_|apply rn_|apply rd_));exact HO_500002.out⟩,⟨by (with_reducible repeat (first|apply Kd.Q_alloc|apply Kd.Q_drewN|apply Kd.Q_drew));exact HO_500003.out⟩,⟨by (with_reducible repeat (first|refine kn_ ?_ _|refine kd_ ?_|refine ka_ ?_ _));exact BK499.out⟩,⟨by repeat (first|(with_reducible first|exact HB.out|apply ba_|apply bn_|apply bd_|refine bs_ ?_ GE499.out)|exact HB.out)⟩⟩
               ·replace c47:=Bool.eq_false_iff.mpr c47
                subst c47
                have H1 : (some false) = some r:=by rw [if_neg (show ¬ (false = true) by decide)] at H;exact H
                clear H
                have H:=H1
                clear H1
                obtain rfl:=Option.some.inj H
                have p518 : 0 ≤ (x50_2 : Int):=od_ (by first|(with_reducible assumption)|assumption)
                have q518 : x50_2 < (t500.length : Int):=od_ (by first|(with_reducible assumption)|assumption)
                obtain ⟨ad518,e518,hx518_0⟩:=Kd.at_int (rr_ HO_48.out).2.2 x50_2 p518 q518
                cases e518
                replace p518:=eq_true p518
                replace q518:=eq_true q518
                have p519 : 0 ≤ ((ji42) : Int):=od_ (by first|(with_reducible assumption)|assumption)
                have q519 : (ji42) < (t500.length : Int):=od_ (by first|(with_reducible assumption)|assumption)
                obtain ⟨ad519,e519,hx519_0⟩:=Kd.at_int (rr_ HO_5.out).2.2 (ji42) p519 q519
                obtain rfl : ad518 = ad519:=(by injection e519)
                replace p519:=eq_true p519
                replace q519:=eq_true q519
                obtain ⟨Ao49,co49,eo49⟩:=Kd.R_slice HO_8.out
                subst eo49
                go_wp2_with (first|(go_at_call 21;(with_reducible refine (laws_wnHas.calls k2 _ _ t515 (rd t500 x50_2) false _ ?side1 ?side2 A46.out).mono ?_);(case side1 => repeat (first|exact (rr_ HO_8.out).2.2|(with_reducible refine ca_ ?_ _)|(with_reducible refine cn_ ?_ _)|(with_reducible refine cd_ ?_)));(case side2 => exact (rr_ HO_8.out).2.1);rintro e w' ⟨rfl,⟨nd,rfl⟩⟩))
                go_ret
                exact ⟨by first|rfl|(simp [errW_none,errW_some] <;> rfl)|(simp only [← hji42];first|rfl|(simp [errW_none,errW_some] <;> rfl))|(simp [*,errW_none,errW_some] <;> rfl),by repeat (first|(with_reducible first|exact HB.out|apply ba_|apply bn_|apply bd_|refine bs_ ?_ GE499.out)|exact HB.out)⟩
             ·rw [if_neg c44] at H
              exact absurd H (by simp)
            ·rw [if_neg c43] at H
             exact absurd H (by simp)
           ·rw [if_neg c41] at H
            have c41b0 : decide (0 < x50_2) = false:=decide_eq_false c41
            clear c41
            replace H:=Option.bind_eq_some_iff.mp H
            obtain ⟨t521,A500,H⟩:=H
            replace H : (if t521 = true then (laws_FnFloodOver.l1 k2 t500 t515 t500 (t500.length : Int) (wrap64 (x50_2 + 1))) else (some false)) = some r:=H
            have A50:=mk_ A500
            clear A500
            by_cases c51 : t521 = true
            ·subst c51
             have H1 : (laws_FnFloodOver.l1 k2 t500 t515 t500 (t500.length : Int) (wrap64 (x50_2 + 1))) = some r:=by rw [if_pos rfl] at H;exact H
             clear H
             have H:=H1
             clear H1
             have H':=mk_ H
             clear H
             have p518 : 0 ≤ (x50_2 : Int):=od_ (by first|(with_reducible assumption)|assumption)
             have q518 : x50_2 < (t500.length : Int):=od_ (by first|(with_reducible assumption)|assumption)
             obtain ⟨ad518,e518,hx518_0⟩:=Kd.at_int (rr_ HO_48.out).2.2 x50_2 p518 q518
             cases e518
             replace p518:=eq_true p518
             replace q518:=eq_true q518
             obtain ⟨Ao52,co52,eo52⟩:=Kd.R_slice HO_8.out
             subst eo52
             go_wp2_with (first|(go_at_call 21;(with_reducible refine (laws_wnHas.calls k2 _ _ t515 (rd t500 x50_2) true _ ?side1 ?side2 A50.out).mono ?_);(case side1 => repeat (first|exact (rr_ HO_8.out).2.2|(with_reducible refine ca_ ?_ _)|(with_reducible refine cn_ ?_ _)|(with_reducible refine cd_ ?_)));(case side2 => exact (rr_ HO_8.out).2.1);rintro e w' ⟨rfl,⟨nd,rfl⟩⟩))
             go_roundg k2
             case measure => have:=HK1.out;have:=HK2.out;omega
             case rel => exact ⟨(wrap64 (x50_2 + 1)),(by first|rfl|(simp;done)|(simp [*];done)),H',⟨by have:=HK1.out;have:=HK2.out;omega⟩,⟨by (with_reducible repeat (first|apply ra_|apply rn_|apply rd_));exact HO_5.out⟩,⟨by (with_reducible repeat (first|apply ra_|apply rn_|apply rd_));exact HO_8.out⟩,⟨by (with_reducible repeat (first|apply ra_|apply rn_|apply rd_));exact HO_48.out⟩,⟨by (with_reducible repeat (first|apply ra_|apply rn_|apply rd_));exact HO_500001.out⟩,⟨by (with_reducible repeat (first|apply ra_|apply rn_|apply rd_));exact HO_500002.out⟩,⟨by (with_reducible repeat (first|apply Kd.Q_alloc|apply Kd.Q_drewN|apply Kd.Q_drew));exact HO_500003.out⟩,⟨by (with_reducible repeat (first|refine kn_ ?_ _|refine kd_ ?_|refine ka_ ?_ _));exact BK499.out⟩,⟨by repeat (first|(with_reducible first|exact HB.out|apply ba_|apply bn_|apply bd_|refine bs_ ?_ GE499.out)|exact HB.out)⟩⟩
            ·replace c51:=Bool.eq_false_iff.mpr c51
             subst c51
             have H1 : (some false) = some r:=by rw [if_neg (show ¬ (false = true) by decide)] at H;exact H
             clear H
             have H:=H1
             clear H1
             obtain rfl:=Option.some.inj H
             have p518 : 0 ≤ (x50_2 : Int):=od_ (by first|(with_reducible assumption)|assumption)
             have q518 : x50_2 < (t500.length : Int):=od_ (by first|(with_reducible assumption)|assumption)
             obtain ⟨ad518,e518,hx518_0⟩:=Kd.at_int (rr_ HO_48.out).2.2 x50_2 p518 q518
             cases e518
             replace p518:=eq_true p518
             replace q518:=eq_true q518
             obtain ⟨Ao53,co53,eo53⟩:=Kd.R_slice HO_8.out
             subst eo53
             go_wp2_with (first|(go_at_call 21;(with_reducible refine (laws_wnHas.calls k2 _ _ t515 (rd t500 x50_2) false _ ?side1 ?side2 A50.out).mono ?_);(case side1 => repeat (first|exact (rr_ HO_8.out).2.2|(with_reducible refine ca_ ?_ _)|(with_reducible refine cn_ ?_ _)|(with_reducible refine cd_ ?_)));(case side2 => exact (rr_ HO_8.out).2.1);rintro e w' ⟨rfl,⟨nd,rfl⟩⟩))
             go_ret
             exact ⟨by first|rfl|(simp [errW_none,errW_some] <;> rfl)|(simp [*,errW_none,errW_some] <;> rfl),by repeat (first|(with_reducible first|exact HB.out|apply ba_|apply bn_|apply bd_|refine bs_ ?_ GE499.out)|exact HB.out)⟩
          ·rw [if_neg c40] at H
           exact absurd H (by simp)
         ·rw [if_neg c39] at H
          exact absurd H (by simp)
        ·rw [if_neg c38] at H
         have c38b0 : decide (x50_2 < (t500.length : Int)) = false:=decide_eq_false c38
         clear c38
         obtain rfl:=Option.some.inj H
         go_wp2
         go_ret
         exact ⟨by first|rfl|(simp [errW_none,errW_some] <;> rfl)|(simp [*,errW_none,errW_some] <;> rfl),by repeat (first|(with_reducible first|exact HB.out|apply ba_|apply bn_|apply bd_|refine bs_ ?_ GE499.out)|exact HB.out)⟩
  ·replace c7:=Bool.eq_false_iff.mpr c7
   subst c7
   have H1 : (some false) = some r:=by rw [if_neg (show ¬ (false = true) by decide)] at H;exact H
   clear H
   have H:=H1
   clear H1
   obtain rfl:=Option.some.inj H
   go_enter Try.func8,Try.ntmps8
   go_wp2_with (first|((with_reducible refine gate_callee (f:=31) rfl ?_);refine goesL_ (some 16) rfl rfl Try.func31 (by kernel_rfl) rfl #[.slice A0 l0.length c0] rfl (by (try simp only [List.map_toArray,List.map_cons,List.map_nil]);first|done|rfl|(simp only [List.length_drop,List.length_take];rfl)) ?_;(with_reducible refine (spec_DrawFloodOver.calls k _ _ l0 t488 t489 t492 t495 t498 _ ?side1 ?side2 A3.out).mono ?_);(case side1 => repeat (first|exact HR0.out|(with_reducible refine ca_ ?_ _)|(with_reducible refine cn_ ?_ _)|(with_reducible refine cd_ ?_)));(case side2 => exact HC0.out);rintro e w54 ⟨v490,v493,v496,rfl,ho0,ho1,ho2,hb⟩;refine ⟨_,rfl,?_⟩;have n0_:=mk_ (Kd.R_lower ho0 (bz_ (by repeat (first|(with_reducible first|exact HB.out|apply ba_|apply bn_|apply bd_)|exact HB.out))));have n1_:=mk_ (Kd.R_lower ho1 (bz_ (by repeat (first|(with_reducible first|exact HB.out|apply ba_|apply bn_|apply bd_)|exact HB.out))));have n2_:=mk_ (Kd.Q_lower ho2 (bz_ (by repeat (first|(with_reducible first|exact HB.out|apply ba_|apply bn_|apply bd_)|exact HB.out))));have n3_:=mk_ (st_ (by repeat (first|(with_reducible first|exact HB.out|apply ba_|apply bn_|apply bd_)|exact HB.out)) hb);clear HB;have HO491:=n0_;have HO494:=n1_;have HO497:=n2_;have HB:=n3_;clear n0_ n1_ n2_ n3_;(try clear hb);(try clear hb2);(try clear hk);(try clear hi);(try clear ho0);(try clear ho1);(try clear ho2))|((with_reducible refine gate_dst (N:=3) rfl ?_);refine box_event ?hg (N:=3) ?hd (cs:=#[.int .i64 0,.slice none 0 0,.slice none 0 0,.slice none 0 0]) (t:=30) ?hr ?_;(case hd => rfl);(case hg => rfl);(case hr => first|(go_simp;done)|(go_simp;rfl));intro gb499 hg w55 hbox hb;have n0_:=mk_ (rb_ (by (with_reducible repeat (first|apply ra_|apply rn_|apply rd_));exact HO491.out) hb);have n1_:=mk_ (rb_ (by (with_reducible repeat (first|apply ra_|apply rn_|apply rd_));exact HO494.out) hb);have n2_:=mk_ (Kd.Q_below (by (with_reducible repeat (first|apply Kd.Q_alloc|apply Kd.Q_drewN|apply Kd.Q_drew));exact HO497.out) hb);have n3_:=mk_ (st_ (by repeat (first|(with_reducible first|exact HB.out|apply ba_|apply bn_|apply bd_)|exact HB.out)) hb);have n4_:=mk_ (hbox);have n5_:=mk_ ((by rw [hg];exact (bz_ (by repeat (first|(with_reducible first|exact HB.out|apply ba_|apply bn_|apply bd_)|exact HB.out))) : w.heap.size ≤ gb499));have n6_:=mk_ ((by rw [hg];exact (bz_ (by repeat (first|(with_reducible first|exact HB.out|apply ba_|apply bn_|apply bd_)|exact HB.out))) : w.heap.size ≤ gb499));clear HO491;clear HO494;clear HO497;clear HB;have HO491:=n0_;have HO494:=n1_;have HO497:=n2_;have HB:=n3_;have BK499:=n4_;have GW499:=n5_;have GE499:=n6_;clear n0_ n1_ n2_ n3_ n4_ n5_ n6_;clear hb hbox hg;have hcz56_0 : w55.cell? ⟨gb499,0,none⟩ = some (.int .i64 0):=(bc_ BK499.out 0).trans rfl;have hcz56_1 : w55.cell? ⟨gb499,1,none⟩ = some (.slice none 0 0):=(bc_ BK499.out 1).trans rfl;have hcz56_2 : w55.cell? ⟨gb499,2,none⟩ = some (.slice none 0 0):=(bc_ BK499.out 2).trans rfl;have hcz56_3 : w55.cell? ⟨gb499,3,none⟩ = some (.slice none 0 0):=(bc_ BK499.out 3).trans rfl;have hfz56_0:=bf_ BK499.out 0;have hfz56_1:=bf_ BK499.out 1;have hfz56_2:=bf_ BK499.out 2;have hfz56_3:=bf_ BK499.out 3;obtain ⟨Ao57,co57,eo57⟩:=Kd.R_slice HO491.out;subst eo57;obtain ⟨Ao58,co58,eo58⟩:=Kd.R_slice HO494.out;subst eo58;obtain ⟨Ao59,co59,eo59,_⟩:=Kd.Q_slice HO497.out;subst eo59)|((with_reducible refine gate_callee (f:=32) rfl ?_);refine goesL_ (some 21) rfl rfl Try.func32 (by kernel_rfl) rfl #[.agg #[.int .i64 t488,.slice Ao57 t489.length co57,.slice Ao58 t492.length co58,.slice Ao59 t495.length co59],.int .i64 t498] rfl (by (try simp only [List.map_toArray,List.map_cons,List.map_nil]);first|done|rfl|(simp only [List.length_drop,List.length_take];rfl)) ?_;(with_reducible refine (impl_FloodOver.calls k t488 _ _ t489 _ _ t492 _ _ t495 t498 t500 _ ?side1 ?side2 ?side3 ?side4 ?side5 ?side6 A4.out).mono ?_);(case side1 => refine (rr_ (e:=51) (base:=w.heap.size) (ok:=fun k_ => True) (n:=t489.length) (c:=co57) ?_).2.2;exact (by (with_reducible repeat (first|apply ra_|apply rn_|apply rd_));exact (rm_ (rf_ (p:=⟨gb499,3,none⟩) (rf_ (p:=⟨gb499,2,none⟩) (rf_ (p:=⟨gb499,1,none⟩) (rf_ (p:=⟨gb499,0,none⟩) (rt_ HO491.out BK499.out (by decide)) (fun _ hk => hk.2) (.int .i64 t488)) (fun _ hk => hk.2) (.slice Ao57 t489.length co57)) (fun _ hk => hk.2) (.slice Ao58 t492.length co58)) (fun _ hk => hk.2) (.slice Ao59 t495.length co59)) (fun _ h_ => h_.1))));(case side2 => exact (rr_ HO491.out).2.1);(case side3 => refine (rr_ (e:=3) (base:=w.heap.size) (ok:=fun k_ => some k_ ≠ (.slice Ao59 t495.length co59 : Value).ownBlock) (n:=t492.length) (c:=co58) ?_).2.2;exact (by (with_reducible repeat (first|apply ra_|apply rn_|apply rd_));exact (rm_ (rf_ (p:=⟨gb499,3,none⟩) (rf_ (p:=⟨gb499,2,none⟩) (rf_ (p:=⟨gb499,1,none⟩) (rf_ (p:=⟨gb499,0,none⟩) (rt_ HO494.out BK499.out (by decide)) (fun _ hk => hk.2) (.int .i64 t488)) (fun _ hk => hk.2) (.slice Ao57 t489.length co57)) (fun _ hk => hk.2) (.slice Ao58 t492.length co58)) (fun _ hk => hk.2) (.slice Ao59 t495.length co59)) (fun _ h_ => h_.1))));(case side4 => exact (rr_ HO494.out).2.1);(case side5 => refine (Kd.Q_reads' (e:=3) (base:=w.heap.size) (ok:=fun k_ => some k_ ≠ (.slice Ao58 t492.length co58 : Value).ownBlock) (n:=t495.length) (c:=co59) ?_).2.2;exact (by (with_reducible repeat (first|apply Kd.Q_alloc|apply Kd.Q_drewN|apply Kd.Q_drew));exact (Kd.Q_mono (Kd.Q_far (p:=⟨gb499,3,none⟩) (Kd.Q_far (p:=⟨gb499,2,none⟩) (Kd.Q_far (p:=⟨gb499,1,none⟩) (Kd.Q_far (p:=⟨gb499,0,none⟩) (Kd.Q_types HO497.out BK499.out (by decide)) (fun _ hk => hk.2) (.int .i64 t488)) (fun _ hk => hk.2) (.slice Ao57 t489.length co57)) (fun _ hk => hk.2) (.slice Ao58 t492.length co58)) (fun _ hk => hk.2) (.slice Ao59 t495.length co59)) (fun _ h_ => h_.1))));(case side6 => exact (Kd.Q_reads' HO497.out).2.1);rintro e w60 ⟨v501,rfl,ho0,hb⟩;refine ⟨_,rfl,?_⟩;have n0_:=mk_ (rb_ (by (with_reducible repeat (first|apply ra_|apply rn_|apply rd_));exact (rm_ (rf_ (p:=⟨gb499,3,none⟩) (rf_ (p:=⟨gb499,2,none⟩) (rf_ (p:=⟨gb499,1,none⟩) (rf_ (p:=⟨gb499,0,none⟩) (rt_ HO491.out BK499.out (by decide)) (fun _ hk => hk.2) (.int .i64 t488)) (fun _ hk => hk.2) (.slice Ao57 t489.length co57)) (fun _ hk => hk.2) (.slice Ao58 t492.length co58)) (fun _ hk => hk.2) (.slice Ao59 t495.length co59)) (fun _ h_ => h_.1))) hb);have n1_:=mk_ (re_ (by (with_reducible repeat (first|apply ra_|apply rn_|apply rd_));exact (rm_ (rf_ (p:=⟨gb499,3,none⟩) (rf_ (p:=⟨gb499,2,none⟩) (rf_ (p:=⟨gb499,1,none⟩) (rf_ (p:=⟨gb499,0,none⟩) (rt_ HO494.out BK499.out (by decide)) (fun _ hk => hk.2) (.int .i64 t488)) (fun _ hk => hk.2) (.slice Ao57 t489.length co57)) (fun _ hk => hk.2) (.slice Ao58 t492.length co58)) (fun _ hk => hk.2) (.slice Ao59 t495.length co59)) (fun _ h_ => h_.1))) (Kd.R_base ho0) hb);have n2_:=mk_ (Kd.Q_elder' (by (with_reducible repeat (first|apply Kd.Q_alloc|apply Kd.Q_drewN|apply Kd.Q_drew));exact (Kd.Q_mono (Kd.Q_far (p:=⟨gb499,3,none⟩) (Kd.Q_far (p:=⟨gb499,2,none⟩) (Kd.Q_far (p:=⟨gb499,1,none⟩) (Kd.Q_far (p:=⟨gb499,0,none⟩) (Kd.Q_types HO497.out BK499.out (by decide)) (fun _ hk => hk.2) (.int .i64 t488)) (fun _ hk => hk.2) (.slice Ao57 t489.length co57)) (fun _ hk => hk.2) (.slice Ao58 t492.length co58)) (fun _ hk => hk.2) (.slice Ao59 t495.length co59)) (fun _ h_ => h_.1))) (Kd.R_base ho0) hb);have n3_:=mk_ (Kd.R_lower (Kd.R_new' (Kd.R_new' ho0 (Kd.R_lt (by (with_reducible repeat (first|apply ra_|apply rn_|apply rd_));exact (rm_ (rf_ (p:=⟨gb499,3,none⟩) (rf_ (p:=⟨gb499,2,none⟩) (rf_ (p:=⟨gb499,1,none⟩) (rf_ (p:=⟨gb499,0,none⟩) (rt_ HO494.out BK499.out (by decide)) (fun _ hk => hk.2) (.int .i64 t488)) (fun _ hk => hk.2) (.slice Ao57 t489.length co57)) (fun _ hk => hk.2) (.slice Ao58 t492.length co58)) (fun _ hk => hk.2) (.slice Ao59 t495.length co59)) (fun _ h_ => h_.1))))) (Kd.Q_lt (by (with_reducible repeat (first|apply Kd.Q_alloc|apply Kd.Q_drewN|apply Kd.Q_drew));exact (Kd.Q_mono (Kd.Q_far (p:=⟨gb499,3,none⟩) (Kd.Q_far (p:=⟨gb499,2,none⟩) (Kd.Q_far (p:=⟨gb499,1,none⟩) (Kd.Q_far (p:=⟨gb499,0,none⟩) (Kd.Q_types HO497.out BK499.out (by decide)) (fun _ hk => hk.2) (.int .i64 t488)) (fun _ hk => hk.2) (.slice Ao57 t489.length co57)) (fun _ hk => hk.2) (.slice Ao58 t492.length co58)) (fun _ hk => hk.2) (.slice Ao59 t495.length co59)) (fun _ h_ => h_.1))))) (bz_ (by repeat (first|(with_reducible first|exact HB.out|apply ba_|apply bn_|apply bd_|refine bs_ ?_ GE499.out)|exact HB.out))));have n4_:=mk_ (blk_below (g:=gb499) (o:=.cells #[.int .i64 t488,.slice Ao57 t489.length co57,.slice Ao58 t492.length co58,.slice Ao59 t495.length co59] 30 (0,0)) (by (with_reducible repeat (first|refine kn_ ?_ _|refine kd_ ?_|refine ka_ ?_ _));refine blk_put (cs:=#[.int .i64 t488,.slice Ao57 t489.length co57,.slice Ao58 t492.length co58,.slice none 0 0]) ?_ 3 _ rfl;(with_reducible repeat (first|refine kn_ ?_ _|refine kd_ ?_|refine ka_ ?_ _));refine blk_put (cs:=#[.int .i64 t488,.slice Ao57 t489.length co57,.slice none 0 0,.slice none 0 0]) ?_ 2 _ rfl;(with_reducible repeat (first|refine kn_ ?_ _|refine kd_ ?_|refine ka_ ?_ _));refine blk_put (cs:=#[.int .i64 t488,.slice none 0 0,.slice none 0 0,.slice none 0 0]) ?_ 1 _ rfl;(with_reducible repeat (first|refine kn_ ?_ _|refine kd_ ?_|refine ka_ ?_ _));refine blk_put (cs:=#[.int .i64 0,.slice none 0 0,.slice none 0 0,.slice none 0 0]) ?_ 0 _ rfl;(with_reducible repeat (first|refine kn_ ?_ _|refine kd_ ?_|refine ka_ ?_ _));exact BK499.out) hb);have n5_:=mk_ (st_ (by repeat (first|(with_reducible first|exact HB.out|apply ba_|apply bn_|apply bd_|refine bs_ ?_ GE499.out)|exact HB.out)) hb);clear HO491;clear HO494;clear HO497;clear BK499;clear HB;have HO491:=n0_;have HO494:=n1_;have HO497:=n2_;have HO502:=n3_;have BK499:=n4_;have HB:=n5_;clear n0_ n1_ n2_ n3_ n4_ n5_;(try clear hb);(try clear hb2);(try clear hk);(try clear hi);(try clear ho0);have hcz61_0 : w60.cell? ⟨gb499,0,none⟩ = some (.int .i64 t488):=(bc_ BK499.out 0).trans rfl;have hcz61_1 : w60.cell? ⟨gb499,1,none⟩ = some (.slice Ao57 t489.length co57):=(bc_ BK499.out 1).trans rfl;have hcz61_2 : w60.cell? ⟨gb499,2,none⟩ = some (.slice Ao58 t492.length co58):=(bc_ BK499.out 2).trans rfl;have hcz61_3 : w60.cell? ⟨gb499,3,none⟩ = some (.slice Ao59 t495.length co59):=(bc_ BK499.out 3).trans rfl;have hfz61_0:=bf_ BK499.out 0;have hfz61_1:=bf_ BK499.out 1;have hfz61_2:=bf_ BK499.out 2;have hfz61_3:=bf_ BK499.out 3)|((with_reducible refine gate_callee (f:=33) rfl ?_);refine goesL_ (some 25) rfl rfl Try.func33 (by kernel_rfl) rfl #[.agg #[.int .i64 t488,.slice Ao57 t489.length co57,.slice Ao58 t492.length co58,.slice Ao59 t495.length co59],.int .i64 t498] rfl (by (try simp only [List.map_toArray,List.map_cons,List.map_nil]);first|done|rfl|(simp only [List.length_drop,List.length_take];rfl)) ?_;(with_reducible refine (spec_FloodOver.calls k t488 _ _ t489 _ _ t492 _ _ t495 t498 t503 _ ?side1 ?side2 ?side3 ?side4 ?side5 ?side6 A5.out).mono ?_);(case side1 => repeat (first|exact (rr_ HO491.out).2.2|(with_reducible refine ca_ ?_ _)|(with_reducible refine cn_ ?_ _)|(with_reducible refine cd_ ?_)));(case side2 => exact (rr_ HO491.out).2.1);(case side3 => repeat (first|exact (rr_ HO494.out).2.2|(with_reducible refine ca_ ?_ _)|(with_reducible refine cn_ ?_ _)|(with_reducible refine cd_ ?_)));(case side4 => exact (rr_ HO494.out).2.1);(case side5 => repeat (first|exact (Kd.Q_reads' HO497.out).2.2|(with_reducible refine ca_ ?_ _)|(with_reducible refine cn_ ?_ _)|(with_reducible refine cd_ ?_)));(case side6 => exact (Kd.Q_reads' HO497.out).2.1);rintro e w62 ⟨v504,rfl,ho0,hb⟩;refine ⟨_,rfl,?_⟩;have n0_:=mk_ (rb_ (by (with_reducible repeat (first|apply ra_|apply rn_|apply rd_));exact HO491.out) hb);have n1_:=mk_ (re_ (by (with_reducible repeat (first|apply ra_|apply rn_|apply rd_));exact HO494.out) (Kd.R_base ho0) hb);have n2_:=mk_ (Kd.Q_elder' (by (with_reducible repeat (first|apply Kd.Q_alloc|apply Kd.Q_drewN|apply Kd.Q_drew));exact HO497.out) (Kd.R_base ho0) hb);have n3_:=mk_ (re_ (by (with_reducible repeat (first|apply ra_|apply rn_|apply rd_));exact HO502.out) (Kd.R_base ho0) hb);have n4_:=mk_ (Kd.R_lower (Kd.R_new' (Kd.R_new' (Kd.R_new' ho0 (Kd.R_lt (by (with_reducible repeat (first|apply ra_|apply rn_|apply rd_));exact HO494.out))) (Kd.Q_lt (by (with_reducible repeat (first|apply Kd.Q_alloc|apply Kd.Q_drewN|apply Kd.Q_drew));exact HO497.out))) (Kd.R_lt (by (with_reducible repeat (first|apply ra_|apply rn_|apply rd_));exact HO502.out))) (bz_ (by repeat (first|(with_reducible first|exact HB.out|apply ba_|apply bn_|apply bd_|refine bs_ ?_ GE499.out)|exact HB.out))));have n5_:=mk_ (blk_below (g:=gb499) (o:=.cells #[.int .i64 t488,.slice Ao57 t489.length co57,.slice Ao58 t492.length co58,.slice Ao59 t495.length co59] 30 (0,0)) (by (with_reducible repeat (first|refine kn_ ?_ _|refine kd_ ?_|refine ka_ ?_ _));exact BK499.out) hb);have n6_:=mk_ (st_ (by repeat (first|(with_reducible first|exact HB.out|apply ba_|apply bn_|apply bd_|refine bs_ ?_ GE499.out)|exact HB.out)) hb);clear HO491;clear HO494;clear HO497;clear HO502;clear BK499;clear HB;have HO491:=n0_;have HO494:=n1_;have HO497:=n2_;have HO502:=n3_;have HO505:=n4_;have BK499:=n5_;have HB:=n6_;clear n0_ n1_ n2_ n3_ n4_ n5_ n6_;(try clear hb);(try clear hb2);(try clear hk);(try clear hi);(try clear ho0);obtain ⟨Ao63,co63,eo63⟩:=Kd.R_slice HO502.out;subst eo63;obtain ⟨Ao64,co64,eo64⟩:=Kd.R_slice HO505.out;subst eo64)|((with_reducible refine gate_callee (f:=19) rfl ?_);refine goesL_ (some 26) rfl rfl Try.func19 (by kernel_rfl) rfl #[.slice Ao63 t500.length co63,.slice Ao64 t503.length co64] rfl (by (try simp only [List.map_toArray,List.map_cons,List.map_nil]);first|done|rfl|(simp only [List.length_drop,List.length_take];rfl)) ?_;(with_reducible refine (laws_wnInts.calls k _ _ t500 _ _ t503 false _ ?side1 ?side2 ?side3 ?side4 A6.out).mono ?_);(case side1 => repeat (first|exact (rr_ HO502.out).2.2|(with_reducible refine ca_ ?_ _)|(with_reducible refine cn_ ?_ _)|(with_reducible refine cd_ ?_)));(case side2 => exact (rr_ HO502.out).2.1);(case side3 => repeat (first|exact (rr_ HO505.out).2.2|(with_reducible refine ca_ ?_ _)|(with_reducible refine cn_ ?_ _)|(with_reducible refine cd_ ?_)));(case side4 => exact (rr_ HO505.out).2.1);rintro e w' ⟨rfl,⟨nd,rfl⟩⟩;refine ⟨_,rfl,?_⟩))
   go_ret
   exact ⟨by first|rfl|(simp [errW_none,errW_some] <;> rfl)|(simp [*,errW_none,errW_some] <;> rfl),by repeat (first|(with_reducible first|exact HB.out|apply ba_|apply bn_|apply bd_|refine bs_ ?_ GE499.out)|exact HB.out)⟩

/-- THE ONE PURE STATEMENT of laws_FnFloodOver: yours. -/
def laws_FnFloodOver.Pure : Prop:=∀ (l0 : List Int),l0.length ≤ maxLen → l0.length * 1 ≤ 140737488351232 → (∀ x ∈ l0,(Lit.int .u8 x).wf = true) → ∃ k,laws_FnFloodOver.f k l0 = some true
theorem laws_FnFloodOver.walk (P : laws_FnFloodOver.Pure) (a0 : Option Addr) (len0 cap0 : Nat) (z0 : List Int) (w : World) (w0 : (a0 = none ∧ len0 = 0 ∧ cap0 = 0 ∧ z0 = []) ∨ ∃ x,a0 = some x ∧ len0 ≤ cap0 ∧ cap0 ≤ maxLen ∧ z0.length = cap0 ∧ (∀ i,i < z0.length → w.cell? (x.add i) = some (.int .u8 (z0.getD i 0))) ∧ ∀ n ∈ z0,(Lit.int .u8 n).wf = true) (y0 : len0 * 1 ≤ 140737488351232) :
  Calls Try.prog 8 #[.slice a0 len0 cap0] w fun e w' => e = .returned (.bool true) ∧ Below w.heap.size w w':=by
 obtain ⟨l0,rfl,hr0,hm0,hw0,hc0⟩:=ReadsInt.ofRowC w0
 obtain ⟨k,h⟩:=P l0 hm0 y0 hw0
 refine (laws_FnFloodOver.calls k _ _ l0 true w (Kd.C_of_reads (d:=(0 : Int)) (h1:=fun _ => rfl) hr0) hc0 h).mono ?_
 rintro e w' ⟨rfl,hd⟩
 exact ⟨rfl,hd⟩

-- LIB joined
/-- A place is in a set of places. -/
def memB (s : List Bool) (i : Nat) : Prop := s[i]? = some true
/-- A cable brings the other end into a set that has one. -/
def relB (s : List Bool) (c : S51) : List Bool := if rdOf false s c.f0 = true ∨ rdOf false s c.f1 = true then (s.set c.f0.toNat true).set c.f1.toNat true else s
def passB (cs : List S51) : Nat → List Bool → List Bool
  | 0, s => s
  | k + 1, s => cs.foldl relB (passB cs k s)
/-- The bridges to which a bridge is joined. -/
def jnB (cs : List S51) (N x : Nat) : List Bool := passB cs N ((List.replicate N false).set x true)
def CabOk (cs : List S51) (N : Nat) : Prop := ∀ c ∈ cs, 0 ≤ c.f0 ∧ c.f0 < N ∧ 0 ≤ c.f1 ∧ c.f1 < N
/-- No cable leads out of it. -/
def ClosedP (cs : List S51) (P : Nat → Prop) : Prop := ∀ c ∈ cs, P c.f0.toNat ↔ P c.f1.toNat
theorem rdB_mem (s : List Bool) (x : Int) : rdOf false s x = true ↔ memB s x.toNat := by
  unfold rdOf memB
  rw [List.getD_eq_getElem?_getD]
  cases s[x.toNat]? with
  | none => simp
  | some b => simp
theorem relB_len (s : List Bool) (c : S51) : (relB s c).length = s.length := by unfold relB; split <;> simp
theorem foldB_len (cs : List S51) : ∀ s, (cs.foldl relB s).length = s.length := by
  induction cs with
  | nil => exact fun _ => rfl
  | cons c cs ih => intro s; rw [List.foldl_cons, ih, relB_len]
theorem passB_len (cs : List S51) (k : Nat) (s : List Bool) : (passB cs k s).length = s.length := by
  induction k with
  | zero => rfl
  | succ k ih => rw [passB, foldB_len, ih]
theorem memB_set (s : List Bool) (j i : Nat) (hj : j < s.length) : memB (s.set j true) i ↔ memB s i ∨ i = j := by
  unfold memB
  rw [List.getElem?_set]
  by_cases e : j = i
  · subst e
    rw [if_pos rfl, if_pos hj]; simp
  · rw [if_neg e]
    exact ⟨Or.inl, fun h => h.resolve_right (fun x => e x.symm)⟩
theorem relB_mem (s : List Bool) (c : S51) (h0 : c.f0.toNat < s.length) (h1 : c.f1.toNat < s.length) (i : Nat) : memB (relB s c) i ↔ memB s i ∨ ((i = c.f0.toNat ∨ i = c.f1.toNat) ∧ (memB s c.f0.toNat ∨ memB s c.f1.toNat)) := by
  unfold relB
  split
  · rename_i h
    rw [rdB_mem, rdB_mem] at h
    rw [memB_set _ _ _ (by rw [List.length_set]; exact h1), memB_set _ _ _ h0]
    simp only [h, and_true]
    exact or_assoc
  · rename_i h
    rw [rdB_mem, rdB_mem] at h
    simp only [h, and_false, or_false]
theorem setB_count (s : List Bool) (j : Nat) (hj : j < s.length) : s.count true ≤ (s.set j true).count true ∧ ((s.set j true).count true = s.count true → s.set j true = s) := by
  have e := List.count_set (a := true) (b := true) hj
  by_cases h : s[j] = true
  · have e2 : s.set j true = s := by
      apply List.ext_getElem (by simp)
      intro n _ h2
      rw [List.getElem_set]
      split
      · rename_i q; subst q; exact h.symm
      · rfl
    rw [e2]; exact ⟨Nat.le_refl _, fun _ => rfl⟩
  · have h' : (s[j] == true) = false := by simpa using h
    rw [h'] at e
    simp at e
    rw [e]
    exact ⟨by omega, fun x => by omega⟩
theorem relB_count (s : List Bool) (c : S51) (h0 : c.f0.toNat < s.length) (h1 : c.f1.toNat < s.length) : s.count true ≤ (relB s c).count true ∧ ((relB s c).count true = s.count true → relB s c = s) := by
  unfold relB
  split
  · obtain ⟨a1, a2⟩ := setB_count s _ h0
    obtain ⟨b1, b2⟩ := setB_count (s.set c.f0.toNat true) c.f1.toNat (by rw [List.length_set]; exact h1)
    refine ⟨by omega, fun e => ?_⟩
    rw [b2 (by omega), a2 (by omega)]
  · exact ⟨Nat.le_refl _, fun _ => rfl⟩
theorem foldB_count {N : Nat} (cs : List S51) (hc : CabOk cs N) : ∀ s : List Bool, s.length = N → s.count true ≤ (cs.foldl relB s).count true ∧ ((cs.foldl relB s).count true = s.count true → ∀ c ∈ cs, relB s c = s) := by
  induction cs with
  | nil => exact fun s _ => ⟨Nat.le_refl _, fun _ c hc => by cases hc⟩
  | cons c cs ih =>
    intro s hs
    obtain ⟨g1, g2, g3, g4⟩ := hc c (List.mem_cons_self)
    obtain ⟨r1, r2⟩ := relB_count s c (by omega) (by omega)
    obtain ⟨i1, i2⟩ := ih (fun x hx => hc x (List.mem_cons_of_mem _ hx)) (relB s c) (by rw [relB_len]; exact hs)
    rw [List.foldl_cons]
    refine ⟨by omega, fun e x hx => ?_⟩
    have e1 := r2 (by omega)
    rw [e1] at i2
    rcases List.mem_cons.1 hx with rfl | hx
    · exact e1
    · exact i2 (by rw [e1] at e; exact e) x hx
theorem foldB_fix (cs : List S51) (s : List Bool) (h : ∀ c ∈ cs, relB s c = s) : cs.foldl relB s = s := by
  induction cs with
  | nil => rfl
  | cons c cs ih => rw [List.foldl_cons, h c List.mem_cons_self]; exact ih (fun x hx => h x (List.mem_cons_of_mem _ hx))
theorem passB_grow {N : Nat} (cs : List S51) (hc : CabOk cs N) (s : List Bool) (hs : s.length = N) (k : Nat) : (∀ c ∈ cs, relB (passB cs k s) c = passB cs k s) ∨ s.count true + k ≤ (passB cs k s).count true := by
  induction k with
  | zero => right; exact Nat.le_refl _
  | succ k ih =>
    rcases ih with h | h
    · left
      have e : passB cs (k + 1) s = passB cs k s := foldB_fix cs _ h
      rw [e]; exact h
    · obtain ⟨i1, i2⟩ := foldB_count cs hc (passB cs k s) (by rw [passB_len]; exact hs)
      by_cases e : (cs.foldl relB (passB cs k s)).count true = (passB cs k s).count true
      · left
        have e' : passB cs (k + 1) s = passB cs k s := foldB_fix cs _ (i2 e)
        rw [e']; exact i2 e
      · right
        show _ ≤ (cs.foldl relB (passB cs k s)).count true
        omega
theorem memB_lt {s : List Bool} {i : Nat} (h : memB s i) : i < s.length := (List.getElem?_eq_some_iff.1 h).1
/-- After as many rounds as there are bridges nothing more comes. -/
theorem passB_closed {N : Nat} (cs : List S51) (hc : CabOk cs N) (s : List Bool) (hs : s.length = N) (x : Nat) (hx : memB s x) : ClosedP cs (memB (passB cs N s)) := by
  have hl := passB_len cs N s
  have h1 : 1 ≤ s.count true := List.count_pos_iff.2 (List.mem_of_getElem? hx)
  have hfix : ∀ c ∈ cs, relB (passB cs N s) c = passB cs N s := by
    rcases passB_grow cs hc s hs N with h | h
    · exact h
    · have := List.count_le_length (a := true) (l := passB cs N s)
      omega
  intro c hm
  obtain ⟨g1, g2, g3, g4⟩ := hc c hm
  have e := fun i => relB_mem (passB cs N s) c (by omega) (by omega) i
  rw [hfix c hm] at e
  constructor
  · intro h; exact (e _).2 (Or.inr ⟨Or.inr rfl, Or.inl h⟩)
  · intro h; exact (e _).2 (Or.inr ⟨Or.inl rfl, Or.inr h⟩)
theorem foldB_mem {N : Nat} (cs : List S51) (hc : CabOk cs N) : ∀ s : List Bool, s.length = N → (∀ i, memB s i → memB (cs.foldl relB s) i) ∧ ∀ P : Nat → Prop, ClosedP cs P → (∀ i, memB s i → P i) → ∀ i, memB (cs.foldl relB s) i → P i := by
  induction cs with
  | nil => exact fun s _ => ⟨fun _ h => h, fun P _ h => h⟩
  | cons c cs ih =>
    intro s hs
    obtain ⟨g1, g2, g3, g4⟩ := hc c (List.mem_cons_self)
    obtain ⟨i1, i2⟩ := ih (fun x hx => hc x (List.mem_cons_of_mem _ hx)) (relB s c) (by rw [relB_len]; exact hs)
    have e := fun i => relB_mem s c (by omega) (by omega) i
    rw [List.foldl_cons]
    refine ⟨fun i h => i1 i ((e i).2 (Or.inl h)), fun P hP h => i2 P (fun x hx => hP x (List.mem_cons_of_mem _ hx)) (fun i hi => ?_)⟩
    have hc' := hP c List.mem_cons_self
    rcases (e i).1 hi with q | ⟨q, w⟩
    · exact h i q
    · have hb : P c.f0.toNat := by
        rcases w with w | w
        · exact h _ w
        · exact hc'.2 (h _ w)
      rcases q with rfl | rfl
      · exact hb
      · exact hc'.1 hb
theorem passB_mem {N : Nat} (cs : List S51) (hc : CabOk cs N) (s : List Bool) (hs : s.length = N) (k : Nat) : (∀ i, memB s i → memB (passB cs k s) i) ∧ ∀ P : Nat → Prop, ClosedP cs P → (∀ i, memB s i → P i) → ∀ i, memB (passB cs k s) i → P i := by
  induction k with
  | zero => exact ⟨fun _ h => h, fun P _ h => h⟩
  | succ k ih =>
    obtain ⟨i1, i2⟩ := ih
    obtain ⟨j1, j2⟩ := foldB_mem cs hc (passB cs k s) (by rw [passB_len]; exact hs)
    exact ⟨fun i h => j1 i (i1 i h), fun P hP h => j2 P hP (i2 P hP h)⟩
theorem oneB_mem {N x : Nat} (hx : x < N) (i : Nat) : memB ((List.replicate N false).set x true) i ↔ i = x := by
  rw [memB_set _ _ _ (by simp; exact hx)]
  constructor
  · rintro (h | h)
    · unfold memB at h
      rw [List.getElem?_replicate] at h
      split at h <;> simp at h
    · exact h
  · exact Or.inr
theorem jnB_len (cs : List S51) (N x : Nat) : (jnB cs N x).length = N := by unfold jnB; rw [passB_len]; simp
theorem jnB_self {N x : Nat} {cs : List S51} (hc : CabOk cs N) (hx : x < N) : memB (jnB cs N x) x := (passB_mem cs hc _ (by simp) N).1 x ((oneB_mem hx x).2 rfl)
theorem jnB_closed {N x : Nat} {cs : List S51} (hc : CabOk cs N) (hx : x < N) : ClosedP cs (memB (jnB cs N x)) := passB_closed cs hc _ (by simp) x ((oneB_mem hx x).2 rfl)
theorem jnB_least {N x : Nat} {cs : List S51} (hc : CabOk cs N) (hx : x < N) {P : Nat → Prop} (hP : ClosedP cs P) (h : P x) {i : Nat} (hi : memB (jnB cs N x) i) : P i :=
  (passB_mem cs hc _ (by simp) N).2 P hP (fun j hj => by rw [(oneB_mem hx j).1 hj]; exact h) i hi
theorem jnB_symm {N x y : Nat} {cs : List S51} (hc : CabOk cs N) (hx : x < N) (hy : y < N) (h : memB (jnB cs N x) y) : memB (jnB cs N y) x := by
  by_cases c : memB (jnB cs N y) x
  · exact c
  · have hP : ClosedP cs (fun i => ¬ memB (jnB cs N y) i) := fun k hk => not_congr (jnB_closed hc hy k hk)
    exact absurd (jnB_self hc hy) (jnB_least hc hx hP c h)
theorem jnB_trans {N x y z : Nat} {cs : List S51} (hc : CabOk cs N) (hx : x < N) (hy : y < N) (h : memB (jnB cs N x) y) (h2 : memB (jnB cs N y) z) : memB (jnB cs N x) z :=
  jnB_least hc hy (jnB_closed hc hx) h h2
-- the roots
def thrB (m : Int) (o : List Int) : List Bool := o.map fun v => decide (v ≤ m)
theorem thrB_mem (m : Int) (o : List Int) (i : Nat) (hi : i < o.length) : memB (thrB m o) i ↔ o[i] ≤ m := by
  unfold memB thrB
  rw [List.getElem?_map, List.getElem?_eq_getElem hi]
  simp
theorem thrB_rel (m : Int) (o : List Int) (c : S51) (g1 : 0 ≤ c.f0) (g2 : c.f0 < o.length) (g3 : 0 ≤ c.f1) (g4 : c.f1 < o.length) : thrB m (relaxR o c) = relB (thrB m o) c := by
  obtain ⟨a, ha⟩ := Int.eq_ofNat_of_zero_le g1
  obtain ⟨b, hb⟩ := Int.eq_ofNat_of_zero_le g3
  have la : a < o.length := by omega
  have lb : b < o.length := by omega
  have e1 : rdOf false (thrB m o) c.f0 = decide (o[a] ≤ m) := by rw [ha]; simp [rdOf, thrB, List.getD_eq_getElem?_getD, la]
  have e2 : rdOf false (thrB m o) c.f1 = decide (o[b] ≤ m) := by rw [hb]; simp [rdOf, thrB, List.getD_eq_getElem?_getD, lb]
  have d1 : rd o c.f0 = o[a] := by rw [ha]; exact rd_get o a la
  have d2 : rd o c.f1 = o[b] := by rw [hb]; exact rd_get o b lb
  have hmin : decide (mn (o[a]) (o[b]) ≤ m) = (decide (o[a] ≤ m) || decide (o[b] ≤ m)) := by
    rw [← Bool.decide_or, decide_eq_decide]
    show (if o[b] < o[a] then o[b] else o[a]) ≤ m ↔ _
    split <;> omega
  unfold relaxR relB
  rw [e1, e2, d1, d2]
  unfold thrB
  rw [List.map_set, List.map_set, hmin]
  by_cases h : decide (o[a] ≤ m) = true ∨ decide (o[b] ≤ m) = true
  · rw [if_pos h, show (decide (o[a] ≤ m) || decide (o[b] ≤ m)) = true by simpa using h]
  · rw [if_neg h]
    have h1 : decide (o[a] ≤ m) = false := by cases q : decide (o[a] ≤ m) <;> simp_all
    have h2 : decide (o[b] ≤ m) = false := by cases q : decide (o[b] ≤ m) <;> simp_all
    rw [h1, h2, Bool.or_self]
    apply List.ext_getElem (by simp)
    intro n _ h2'
    rw [List.getElem_set, List.getElem_set]
    simp only [hb, ha, Int.toNat_natCast]
    have hn : n < o.length := by simpa using h2'
    split
    · rename_i q; subst q; simp [h2]
    · split
      · rename_i q; subst q; simp [h1]
      · rfl
theorem thrB_fold (m : Int) {N : Nat} (cs : List S51) (hc : CabOk cs N) : ∀ o : List Int, o.length = N → thrB m (cs.foldl relaxR o) = cs.foldl relB (thrB m o) := by
  induction cs with
  | nil => exact fun _ _ => rfl
  | cons c cs ih =>
    intro o ho
    obtain ⟨g1, g2, g3, g4⟩ := hc c (List.mem_cons_self)
    rw [List.foldl_cons, List.foldl_cons, ih (fun x hx => hc x (List.mem_cons_of_mem _ hx)) _ (by unfold relaxR; simp; exact ho), thrB_rel m o c g1 (by omega) g3 (by omega)]
theorem thrB_pass (m : Int) {N : Nat} (cs : List S51) (hc : CabOk cs N) (o : List Int) (ho : o.length = N) (k : Nat) : thrB m (passR cs k o) = passB cs k (thrB m o) := by
  induction k with
  | zero => rfl
  | succ k ih => rw [passR, passB, thrB_fold m cs hc _ (by rw [passR_len]; exact ho), ih]
theorem fillL_get (k : Nat) (l : List Int) (i : Nat) (hi : i < (fillL k l).length) (hk : i < k) : (fillL k l)[i] = (i : Int) := by
  induction k with
  | zero => omega
  | succ k ih =>
    simp only [fillL] at hi ⊢
    rw [List.getElem_set]
    split
    · rename_i q; subst q; rfl
    · exact ih (by rw [List.length_set] at hi; exact hi) (by omega)
theorem rootsL_len (N : Nat) (cs : List S51) : (rootsL N cs).length = N := by unfold rootsL; rw [passR_len, fillL_len]; simp
/-- A bridge's root is the least of those to which it is joined. -/
theorem roots_le {N i : Nat} {cs : List S51} (hc : CabOk cs N) (hi : i < N) (m : Int) : (rootsL N cs)[i]'(by rw [rootsL_len]; exact hi) ≤ m ↔ ∃ b : Nat, b < N ∧ (b : Int) ≤ m ∧ memB (jnB cs N b) i := by
  have hfl : (fillL N (List.replicate N 0)).length = N := by rw [fillL_len]; simp
  rw [← thrB_mem m (rootsL N cs) i (by rw [rootsL_len]; exact hi)]
  unfold rootsL
  rw [thrB_pass m cs hc _ hfl]
  have hst : ∀ j, memB (thrB m (fillL N (List.replicate N 0))) j ↔ j < N ∧ (j : Int) ≤ m := by
    intro j
    constructor
    · intro h
      have hj : j < N := by have := memB_lt h; unfold thrB at this; rw [List.length_map, hfl] at this; exact this
      rw [thrB_mem _ _ _ (by omega), fillL_get _ _ _ (by omega) hj] at h
      exact ⟨hj, h⟩
    · rintro ⟨h1, h2⟩
      rw [thrB_mem _ _ _ (by omega), fillL_get _ _ _ (by omega) h1]
      exact h2
  have hlen : (thrB m (fillL N (List.replicate N 0))).length = N := by unfold thrB; rw [List.length_map, hfl]
  obtain ⟨p1, p2⟩ := passB_mem cs hc (thrB m (fillL N (List.replicate N 0))) hlen N
  constructor
  · intro h
    refine p2 (fun i => ∃ b : Nat, b < N ∧ (b : Int) ≤ m ∧ memB (jnB cs N b) i) ?_ ?_ i h
    · intro c hcm
      exact ⟨fun ⟨b, h1, h2, h3⟩ => ⟨b, h1, h2, (jnB_closed hc h1 c hcm).1 h3⟩, fun ⟨b, h1, h2, h3⟩ => ⟨b, h1, h2, (jnB_closed hc h1 c hcm).2 h3⟩⟩
    · intro j hj
      obtain ⟨h1, h2⟩ := (hst j).1 hj
      exact ⟨j, h1, h2, jnB_self hc h1⟩
  · rintro ⟨b, h1, h2, h3⟩
    have hb := (hst b).2 ⟨h1, h2⟩
    exact jnB_least hc h1 (passB_closed cs hc _ hlen b hb) (p1 b hb) h3
theorem roots_join {N i j : Nat} {cs : List S51} (hc : CabOk cs N) (hi : i < N) (hj : j < N) : (rootsL N cs)[i]'(by rw [rootsL_len]; exact hi) = (rootsL N cs)[j]'(by rw [rootsL_len]; exact hj) ↔ memB (jnB cs N i) j := by
  constructor
  · intro e
    obtain ⟨b, b1, b2, b3⟩ := (roots_le hc hi _).1 (Int.le_refl _)
    obtain ⟨d, d1, d2, d3⟩ := (roots_le hc hj _).1 (Int.le_refl _)
    have q1 := (roots_le hc hi (d : Int))
    have x1 := jnB_symm hc b1 hi b3
    have x2 := jnB_symm hc d1 hj d3
    have y1 : (rootsL N cs)[i]'(by rw [rootsL_len]; exact hi) ≤ b := (roots_le hc hi _).2 ⟨b, b1, Int.le_refl _, b3⟩
    have y2 : (rootsL N cs)[j]'(by rw [rootsL_len]; exact hj) ≤ d := (roots_le hc hj _).2 ⟨d, d1, Int.le_refl _, d3⟩
    have : b = d := by omega
    subst this
    exact jnB_trans hc hi b1 x1 d3
  · intro h
    have h' := jnB_symm hc hi hj h
    apply Int.le_antisymm
    · obtain ⟨d, d1, d2, d3⟩ := (roots_le hc hj _).1 (Int.le_refl _)
      exact (roots_le hc hi _).2 ⟨d, d1, d2, jnB_trans hc d1 hj d3 h'⟩
    · obtain ⟨d, d1, d2, d3⟩ := (roots_le hc hi _).1 (Int.le_refl _)
      exact (roots_le hc hj _).2 ⟨d, d1, d2, jnB_trans hc d1 hi d3 h⟩

end Go.Proofs.Ytdamdcdjodmemaa.PAll
