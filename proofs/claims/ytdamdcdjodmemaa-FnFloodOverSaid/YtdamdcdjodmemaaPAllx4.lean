/- Proved here: contracts of functions of the given program, or lemmas on them, for the laws of this seat. Written by xprint.py, a program of this session, on the ground of the kit's print; parts by hand: wip/x/ext. -/
import Derived.Test.YtdamdcdjodmemaaPAllx0
import Derived.Test.YtdamdcdjodmemaaPAllx1
import Derived.Test.YtdamdcdjodmemaaPAllx3
namespace Go.Proofs.Ytdamdcdjodmemaa.PAll
open Go.RowKit Go.Proofs.YtdamdcdjodmemaaW.PrintWords Go.Proofs.YtdamdcdjodmemaaW.PrintLast Go.Proofs.YtdamdcdjodmemaaW.PrintMore
attribute [local go_sem] max2_int min2_int max_two min_two max_three min_three max_four min_four   -- for this text's walks alone
set_option linter.unusedVariables false
set_option linter.unusedSimpArgs false

/-! ### spec_DrawMatesOf: function 17 -/
def spec_DrawMatesOf.f (k : Nat) (l0 : List Int) : Option (Int × (List (S51)) × List Int × List Int × Int):=(spec_l21Open.f l0).bind fun bt348 => ((spec_l19Net.f k bt348.1 bt348.2).bind fun bt351 => ((spec_l21Rd_pick.f k bt348.1 bt351.2.2.2.2 (wrap64 ((bt351.2.2.1.length : Int) + 2))).bind fun bt363 => ((spec_l21Rd_pick.f k bt348.1 bt363.2 9).bind fun bt365 => (some (bt351.1,bt351.2.1,bt351.2.2.1,bt351.2.2.2.1,wrap64 (bt363.1 - (wrap64 (Int.tdiv bt365.1 8))))))))
theorem spec_DrawMatesOf.mono : ∀ a0 k,LeO (spec_DrawMatesOf.f k a0) (spec_DrawMatesOf.f (k + 1) a0):=by
 intro a0 k
 unfold spec_DrawMatesOf.f
 repeat' first
   | (with_reducible exact spec_l19Net.mono _ _ _)
   | (with_reducible exact spec_l21Rd_pick.mono _ _ _ _)
   | (with_reducible exact LeO.refl _)
   | (with_reducible exact LeO.none _)
   | (with_reducible refine LeO.ite ?_ ?_)
   | (with_reducible refine LeO.bind ?_ (fun _ => ?_))
   | exact spec_l19Net.mono _ _ _
   | exact spec_l21Rd_pick.mono _ _ _ _
   | exact LeO.none _
   | refine LeO.ite ?_ ?_
   | refine LeO.bind ?_ (fun _ => ?_)
def spec_DrawMatesOf.T3 : Bool × List (List Nat × List Nat):=(true,[([],[]),([],[]),([],[]),([2],[2]),([3],[3]),([4],[4]),([1,5],[1,5]),([],[]),([7,6],[7]),([8],[8]),([6,9],[6,9]),([0,8,0],[0]),([10,11,0,1,2,3,4,5,6,7,8,9,10,11],[10])])
def spec_DrawMatesOf.B3 : List Nat:=[0,0,0,4,12,28,62,0,254,510,1022,511,4095]
theorem spec_DrawMatesOf.tab3 : rtab .any (opsOf Try.f17 3) = spec_DrawMatesOf.T3:=by kernel_rfl
theorem spec_DrawMatesOf.bits3 : waitsOk spec_DrawMatesOf.T3.2 spec_DrawMatesOf.B3 = true:=by kernel_rfl
set_option maxHeartbeats 8000000 in
set_option maxRecDepth 100000 in
theorem spec_DrawMatesOf.calls (k : Nat) (A0 : Option Addr) (c0 : Nat) (l0 : List Int) (r1 : Int) (r2 : List (S51)) (r3 : List Int) (r4 : List Int) (r5 : Int) (w : World) (hr0 : Kd.C (Kd.int .u8) w A0 l0.length l0) (hc0 : l0.length ≤ c0) (h : spec_DrawMatesOf.f k l0 = some (r1,r2,r3,r4,r5)) :
  Calls Try.prog 17 #[.slice A0 l0.length c0] w fun e w' => ∃ v1_ v2_ v3_ : Value,e = .returned (.tuple #[.agg #[.int .i64 r1,v1_,v2_,v3_],.int .i64 r5]) ∧ Kd.R k51 51 w' w.heap.size (fun _ => True) v1_ r2 ∧ Kd.R (Kd.int .i64) 3 w' w.heap.size (fun k_ => some k_ ≠ (v3_ : Value).ownBlock) v2_ r3 ∧ Kd.Q (Kd.int .i64) 3 w' w.heap.size (fun k_ => some k_ ≠ (v2_ : Value).ownBlock) v3_ r4 ∧ Below w.heap.size w w':=by
 have hu30:=Try.underlying30
 have HR0:=mk_ hr0
 have HC0:=mk_ hc0
 clear hr0 hc0
 have HB:=mk_ (Below.refl w.heap.size w)
 have H : ((spec_l21Open.f l0).bind fun bt348 => ((spec_l19Net.f k bt348.1 bt348.2).bind fun bt351 => ((spec_l21Rd_pick.f k bt348.1 bt351.2.2.2.2 (wrap64 ((bt351.2.2.1.length : Int) + 2))).bind fun bt363 => ((spec_l21Rd_pick.f k bt348.1 bt363.2 9).bind fun bt365 => (some (bt351.1,bt351.2.1,bt351.2.2.1,bt351.2.2.2.1,wrap64 (bt363.1 - (wrap64 (Int.tdiv bt365.1 8))))))))) = some (r1,r2,r3,r4,r5):=h
 clear h
 replace H:=Option.bind_eq_some_iff.mp H
 obtain ⟨⟨t348,t349⟩,A20,H⟩:=H
 replace H : ((spec_l19Net.f k t348 t349).bind fun bt351 => ((spec_l21Rd_pick.f k t348 bt351.2.2.2.2 (wrap64 ((bt351.2.2.1.length : Int) + 2))).bind fun bt363 => ((spec_l21Rd_pick.f k t348 bt363.2 9).bind fun bt365 => (some (bt351.1,bt351.2.1,bt351.2.2.1,bt351.2.2.2.1,wrap64 (bt363.1 - (wrap64 (Int.tdiv bt365.1 8)))))))) = some (r1,r2,r3,r4,r5):=H
 have A2:=mk_ A20
 clear A20
 replace H:=Option.bind_eq_some_iff.mp H
 obtain ⟨⟨t351,t352,t355,t358,t361⟩,A30,H⟩:=H
 replace H : ((spec_l21Rd_pick.f k t348 t361 (wrap64 ((t355.length : Int) + 2))).bind fun bt363 => ((spec_l21Rd_pick.f k t348 bt363.2 9).bind fun bt365 => (some (t351,t352,t355,t358,wrap64 (bt363.1 - (wrap64 (Int.tdiv bt365.1 8))))))) = some (r1,r2,r3,r4,r5):=H
 have A3:=mk_ A30
 clear A30
 replace H:=Option.bind_eq_some_iff.mp H
 obtain ⟨⟨t363,t364⟩,A40,H⟩:=H
 replace H : ((spec_l21Rd_pick.f k t348 t364 9).bind fun bt365 => (some (t351,t352,t355,t358,wrap64 (t363 - (wrap64 (Int.tdiv bt365.1 8)))))) = some (r1,r2,r3,r4,r5):=H
 have A4:=mk_ A40
 clear A40
 replace H:=Option.bind_eq_some_iff.mp H
 obtain ⟨⟨t365,t366⟩,A50,H⟩:=H
 replace H : (some (t351,t352,t355,t358,wrap64 (t363 - (wrap64 (Int.tdiv t365 8))))) = some (r1,r2,r3,r4,r5):=H
 have A5:=mk_ A50
 clear A50
 simp only [Option.some.injEq,Prod.mk.injEq] at H
 obtain ⟨rfl,rfl,rfl,rfl,rfl⟩:=H
 go_enter Try.func17,Try.ntmps17
 try go_wp2_with (first|((with_reducible refine gate_dst (N:=2) rfl ?_);refine box_event ?hg (N:=2) ?hd (cs:=#[.int .i64 0,.slice none 0 0,.slice none 0 0,.slice none 0 0]) (t:=30) ?hr ?_;(case hd => rfl);(case hg => rfl);(case hr => first|(go_simp;done)|(go_simp;rfl));intro gb347 hg w6 hbox hb;have n0_:=mk_ (st_ (by repeat (first|(with_reducible first|exact HB.out|apply ba_|apply bn_|apply bd_)|exact HB.out)) hb);have n1_:=mk_ (hbox);have n2_:=mk_ ((by rw [hg];exact (bz_ (by repeat (first|(with_reducible first|exact HB.out|apply ba_|apply bn_|apply bd_)|exact HB.out))) : w.heap.size ≤ gb347));have n3_:=mk_ ((by rw [hg];exact (bz_ (by repeat (first|(with_reducible first|exact HB.out|apply ba_|apply bn_|apply bd_)|exact HB.out))) : w.heap.size ≤ gb347));clear HB;have HB:=n0_;have BK347:=n1_;have GW347:=n2_;have GE347:=n3_;clear n0_ n1_ n2_ n3_;clear hb hbox hg)|((with_reducible refine gate_callee (f:=51) rfl ?_);refine goesL_ (some 7) rfl rfl Try.func51 (by kernel_rfl) rfl #[.slice A0 l0.length c0] rfl (by (try simp only [List.map_toArray,List.map_cons,List.map_nil]);first|done|rfl|(simp only [List.length_drop,List.length_take];rfl)) ?_;(with_reducible refine (spec_l21Open.calls _ _ l0 t348 t349 w _ ?side1 ?side2 ?side3 A2.out).mono ?_);(case side1 => repeat (first|(with_reducible first|exact HB.out|apply ba_|apply bn_|apply bd_|refine bs_ ?_ GE347.out)|exact HB.out));(case side2 => exact HR0.out);(case side3 => exact HC0.out);rintro e w7 ⟨g350,rfl,hi,hb,hb2⟩;refine ⟨_,rfl,?_⟩;have n0_:=mk_ (blk_below (g:=gb347) (o:=.cells #[.int .i64 0,.slice none 0 0,.slice none 0 0,.slice none 0 0] 30 (0,0)) (by (with_reducible repeat (first|refine kn_ ?_ _|refine kd_ ?_|refine ka_ ?_ _));exact BK347.out) hb2);have n1_:=mk_ (hb);have n2_:=mk_ (hi);have n3_:=mk_ (IsS84.ne_blk hi (blk_below (g:=gb347) (o:=.cells #[.int .i64 0,.slice none 0 0,.slice none 0 0,.slice none 0 0] 30 (0,0)) (by (with_reducible repeat (first|refine kn_ ?_ _|refine kd_ ?_|refine ka_ ?_ _));exact BK347.out) hb2) (by decide));have n4_:=mk_ (Ne.symm (IsS84.ne_blk hi (blk_below (g:=gb347) (o:=.cells #[.int .i64 0,.slice none 0 0,.slice none 0 0,.slice none 0 0] 30 (0,0)) (by (with_reducible repeat (first|refine kn_ ?_ _|refine kd_ ?_|refine ka_ ?_ _));exact BK347.out) hb2) (by decide)));clear BK347;clear HB;have BK347:=n0_;have HB:=n1_;have HI350:=n2_;have NB350_347:=n3_;have NB347_350:=n4_;clear n0_ n1_ n2_ n3_ n4_;(try clear hb);(try clear hb2);(try clear hk);(try clear hi))|((with_reducible refine gate_callee (f:=52) rfl ?_);refine goesL_ (some 9) rfl rfl Try.func52 (by kernel_rfl) rfl #[.pointer (some ⟨g350,0,none⟩)] rfl (by (try simp only [List.map_toArray,List.map_cons,List.map_nil]);first|done|rfl|(simp only [List.length_drop,List.length_take];rfl)) ?_;(with_reducible refine (spec_l19Net.calls k g350 t348 t349 t351 t352 t355 t358 t361 w _ ?side1 ?side2 A3.out).mono ?_);(case side1 => repeat (first|(with_reducible first|exact HI350.out|apply IsS84.alloc|apply IsS84.drewN|apply IsS84.drew|apply IsS84.set_1|refine IsS84.far ?_ NB350_347.out _)|exact HI350.out));(case side2 => repeat (first|(with_reducible first|exact HB.out|apply ba_|apply bn_|apply bd_|refine bs_ ?_ (IsS84.ge HI350.out)|refine bs_ ?_ GE347.out)|exact HB.out));rintro e w8 ⟨v353,v356,v359,rfl,ho0,ho1,ho2,hi,hb,hk⟩;refine ⟨_,rfl,?_⟩;have n0_:=mk_ (KeepBut.blk hk (g':=gb347) (o:=.cells #[.int .i64 0,.slice none 0 0,.slice none 0 0,.slice none 0 0] 30 (0,0)) (by (with_reducible repeat (first|refine kn_ ?_ _|refine kd_ ?_|refine ka_ ?_ _));exact BK347.out) NB347_350.out (by simp));have n1_:=mk_ (Kd.R_lower ho0 (bz_ (by repeat (first|(with_reducible first|exact HB.out|apply ba_|apply bn_|apply bd_|refine bs_ ?_ (IsS84.ge HI350.out)|refine bs_ ?_ GE347.out)|exact HB.out))));have n2_:=mk_ (Kd.R_lower ho1 (bz_ (by repeat (first|(with_reducible first|exact HB.out|apply ba_|apply bn_|apply bd_|refine bs_ ?_ (IsS84.ge HI350.out)|refine bs_ ?_ GE347.out)|exact HB.out))));have n3_:=mk_ (Kd.Q_lower ho2 (bz_ (by repeat (first|(with_reducible first|exact HB.out|apply ba_|apply bn_|apply bd_|refine bs_ ?_ (IsS84.ge HI350.out)|refine bs_ ?_ GE347.out)|exact HB.out))));have n4_:=mk_ (hb);have n5_:=mk_ (hi);clear BK347;clear HB;clear HI350;have BK347:=n0_;have HO354:=n1_;have HO357:=n2_;have HO360:=n3_;have HB:=n4_;have HI350:=n5_;clear n0_ n1_ n2_ n3_ n4_ n5_;(try clear hb);(try clear hb2);(try clear hk);(try clear hi);(try clear ho0);(try clear ho1);(try clear ho2))|((with_reducible refine gate_dst (N:=5) rfl ?_);refine box_event ?hg (N:=5) ?hd (cs:=#[.int .i64 0,.slice none 0 0,.slice none 0 0,.slice none 0 0]) (t:=30) ?hr ?_;(case hd => rfl);(case hg => rfl);(case hr => first|(go_simp;done)|(go_simp;rfl));intro gb362 hg w9 hbox hb;have n0_:=mk_ (rb_ (by (with_reducible repeat (first|apply ra_|apply rn_|apply rd_));exact HO354.out) hb);have n1_:=mk_ (rb_ (by (with_reducible repeat (first|apply ra_|apply rn_|apply rd_));exact HO357.out) hb);have n2_:=mk_ (Kd.Q_below (by (with_reducible repeat (first|apply Kd.Q_alloc|apply Kd.Q_drewN|apply Kd.Q_drew));exact HO360.out) hb);have n3_:=mk_ (blk_below (g:=gb347) (o:=.cells #[.int .i64 0,.slice none 0 0,.slice none 0 0,.slice none 0 0] 30 (0,0)) (by (with_reducible repeat (first|refine kn_ ?_ _|refine kd_ ?_|refine ka_ ?_ _));exact BK347.out) hb);have n4_:=mk_ (IsS84.below (by repeat (first|(with_reducible first|exact HI350.out|apply IsS84.alloc|apply IsS84.drewN|apply IsS84.drew|apply IsS84.set_1|refine IsS84.far ?_ NB350_347.out _)|exact HI350.out)) hb);have n5_:=mk_ (st_ (by repeat (first|(with_reducible first|exact HB.out|apply ba_|apply bn_|apply bd_|refine bs_ ?_ (IsS84.ge HI350.out)|refine bs_ ?_ GE347.out)|exact HB.out)) hb);have n6_:=mk_ (hbox);have n7_:=mk_ ((by rw [hg];exact (bz_ (by repeat (first|(with_reducible first|exact HB.out|apply ba_|apply bn_|apply bd_|refine bs_ ?_ (IsS84.ge HI350.out)|refine bs_ ?_ GE347.out)|exact HB.out))) : w.heap.size ≤ gb362));have n8_:=mk_ ((by rw [hg];exact (bz_ (by repeat (first|(with_reducible first|exact HB.out|apply ba_|apply bn_|apply bd_|refine bs_ ?_ (IsS84.ge HI350.out)|refine bs_ ?_ GE347.out)|exact HB.out))) : w.heap.size ≤ gb362));have n9_:=mk_ ((by rw [hg];exact Nat.ne_of_lt (blk_lt (g:=gb347) (o:=.cells #[.int .i64 0,.slice none 0 0,.slice none 0 0,.slice none 0 0] 30 (0,0)) (by (with_reducible repeat (first|refine kn_ ?_ _|refine kd_ ?_|refine ka_ ?_ _));exact BK347.out)) : gb347 ≠ gb362));have n10_:=mk_ ((by rw [hg];exact Nat.ne_of_gt (blk_lt (g:=gb347) (o:=.cells #[.int .i64 0,.slice none 0 0,.slice none 0 0,.slice none 0 0] 30 (0,0)) (by (with_reducible repeat (first|refine kn_ ?_ _|refine kd_ ?_|refine ka_ ?_ _));exact BK347.out)) : gb362 ≠ gb347));have n11_:=mk_ ((by rw [hg];exact Nat.ne_of_lt (IsS84.lt (show IsS84 w _ g350 t348 t361 from by repeat (first|(with_reducible first|exact HI350.out|apply IsS84.alloc|apply IsS84.drewN|apply IsS84.drew|apply IsS84.set_1|refine IsS84.far ?_ NB350_347.out _)|exact HI350.out))) : g350 ≠ gb362));have n12_:=mk_ ((by rw [hg];exact Nat.ne_of_gt (IsS84.lt (show IsS84 w _ g350 t348 t361 from by repeat (first|(with_reducible first|exact HI350.out|apply IsS84.alloc|apply IsS84.drewN|apply IsS84.drew|apply IsS84.set_1|refine IsS84.far ?_ NB350_347.out _)|exact HI350.out))) : gb362 ≠ g350));clear HO354;clear HO357;clear HO360;clear BK347;clear HI350;clear HB;have HO354:=n0_;have HO357:=n1_;have HO360:=n2_;have BK347:=n3_;have HI350:=n4_;have HB:=n5_;have BK362:=n6_;have GW362:=n7_;have GE362:=n8_;have NB347_362:=n9_;have NB362_347:=n10_;have NB350_362:=n11_;have NB362_350:=n12_;clear n0_ n1_ n2_ n3_ n4_ n5_ n6_ n7_ n8_ n9_ n10_ n11_ n12_;clear hb hbox hg;have hnb10:=NB362_347.out;have hnc10:=NB347_362.out;have hnb11:=NB362_350.out;have hnc11:=NB350_362.out;have hcz12_0 : w9.cell? ⟨gb362,0,none⟩ = some (.int .i64 0):=(bc_ BK362.out 0).trans rfl;have hcz12_1 : w9.cell? ⟨gb362,1,none⟩ = some (.slice none 0 0):=(bc_ BK362.out 1).trans rfl;have hcz12_2 : w9.cell? ⟨gb362,2,none⟩ = some (.slice none 0 0):=(bc_ BK362.out 2).trans rfl;have hcz12_3 : w9.cell? ⟨gb362,3,none⟩ = some (.slice none 0 0):=(bc_ BK362.out 3).trans rfl;have hfz12_0:=bf_ BK362.out 0;have hfz12_1:=bf_ BK362.out 1;have hfz12_2:=bf_ BK362.out 2;have hfz12_3:=bf_ BK362.out 3;obtain ⟨Ao13,co13,eo13⟩:=Kd.R_slice HO354.out;subst eo13;obtain ⟨Ao14,co14,eo14⟩:=Kd.R_slice HO357.out;subst eo14;obtain ⟨Ao15,co15,eo15,_⟩:=Kd.Q_slice HO360.out;subst eo15))
 have n0_ : Aside0 (Kd.R k51 51 ((((w9.setCell ⟨gb362,0,none⟩ (.int .i64 t351)).setCell ⟨gb362,1,none⟩ (.slice Ao13 t352.length co13)).setCell ⟨gb362,2,none⟩ (.slice Ao14 t355.length co14)).setCell ⟨gb362,3,none⟩ (.slice Ao15 t358.length co15)) w.heap.size (fun _ => True) (.slice Ao13 t352.length co13) t352):=⟨by (with_reducible repeat (first|apply ra_|apply rn_|apply rd_));exact rm_ (rf_ (p:=⟨gb362,3,none⟩) (rf_ (p:=⟨gb362,2,none⟩) (rf_ (p:=⟨gb362,1,none⟩) (rf_ (p:=⟨gb362,0,none⟩) (rt_ HO354.out BK362.out (by decide)) (fun _ hk => hk.2) (.int .i64 t351)) (fun _ hk => hk.2) (.slice Ao13 t352.length co13)) (fun _ hk => hk.2) (.slice Ao14 t355.length co14)) (fun _ hk => hk.2) (.slice Ao15 t358.length co15)) (fun _ hk => trivial)⟩
 have n1_ : Aside0 (Kd.R (Kd.int .i64) 3 ((((w9.setCell ⟨gb362,0,none⟩ (.int .i64 t351)).setCell ⟨gb362,1,none⟩ (.slice Ao13 t352.length co13)).setCell ⟨gb362,2,none⟩ (.slice Ao14 t355.length co14)).setCell ⟨gb362,3,none⟩ (.slice Ao15 t358.length co15)) w.heap.size (fun k_ => some k_ ≠ (.slice Ao15 t358.length co15 : Value).ownBlock) (.slice Ao14 t355.length co14) t355):=⟨by (with_reducible repeat (first|apply ra_|apply rn_|apply rd_));exact rm_ (rf_ (p:=⟨gb362,3,none⟩) (rf_ (p:=⟨gb362,2,none⟩) (rf_ (p:=⟨gb362,1,none⟩) (rf_ (p:=⟨gb362,0,none⟩) (rt_ HO357.out BK362.out (by decide)) (fun _ hk => hk.2) (.int .i64 t351)) (fun _ hk => hk.2) (.slice Ao13 t352.length co13)) (fun _ hk => hk.2) (.slice Ao14 t355.length co14)) (fun _ hk => hk.2) (.slice Ao15 t358.length co15)) (fun _ hk => hk.1)⟩
 have n2_ : Aside0 (Kd.Q (Kd.int .i64) 3 ((((w9.setCell ⟨gb362,0,none⟩ (.int .i64 t351)).setCell ⟨gb362,1,none⟩ (.slice Ao13 t352.length co13)).setCell ⟨gb362,2,none⟩ (.slice Ao14 t355.length co14)).setCell ⟨gb362,3,none⟩ (.slice Ao15 t358.length co15)) w.heap.size (fun k_ => some k_ ≠ (.slice Ao14 t355.length co14 : Value).ownBlock) (.slice Ao15 t358.length co15) t358):=⟨by (with_reducible repeat (first|apply Kd.Q_alloc|apply Kd.Q_drewN|apply Kd.Q_drew));exact Kd.Q_mono (Kd.Q_far (p:=⟨gb362,3,none⟩) (Kd.Q_far (p:=⟨gb362,2,none⟩) (Kd.Q_far (p:=⟨gb362,1,none⟩) (Kd.Q_far (p:=⟨gb362,0,none⟩) (Kd.Q_types HO360.out BK362.out (by decide)) (fun _ hk => hk.2) (.int .i64 t351)) (fun _ hk => hk.2) (.slice Ao13 t352.length co13)) (fun _ hk => hk.2) (.slice Ao14 t355.length co14)) (fun _ hk => hk.2) (.slice Ao15 t358.length co15)) (fun _ hk => hk.1)⟩
 have n3_ : Aside0 (((((w9.setCell ⟨gb362,0,none⟩ (.int .i64 t351)).setCell ⟨gb362,1,none⟩ (.slice Ao13 t352.length co13)).setCell ⟨gb362,2,none⟩ (.slice Ao14 t355.length co14)).setCell ⟨gb362,3,none⟩ (.slice Ao15 t358.length co15)).heap[gb347]? = some (.cells #[.int .i64 0,.slice none 0 0,.slice none 0 0,.slice none 0 0] 30 (0,0))):=⟨by (with_reducible repeat (first|refine kn_ ?_ _|refine kd_ ?_|refine ka_ ?_ _));refine blk_far ?_ NB347_362.out _;(with_reducible repeat (first|refine kn_ ?_ _|refine kd_ ?_|refine ka_ ?_ _));refine blk_far ?_ NB347_362.out _;(with_reducible repeat (first|refine kn_ ?_ _|refine kd_ ?_|refine ka_ ?_ _));refine blk_far ?_ NB347_362.out _;(with_reducible repeat (first|refine kn_ ?_ _|refine kd_ ?_|refine ka_ ?_ _));refine blk_far ?_ NB347_362.out _;(with_reducible repeat (first|refine kn_ ?_ _|refine kd_ ?_|refine ka_ ?_ _));exact BK347.out⟩
 have n4_ : Aside0 (((((w9.setCell ⟨gb362,0,none⟩ (.int .i64 t351)).setCell ⟨gb362,1,none⟩ (.slice Ao13 t352.length co13)).setCell ⟨gb362,2,none⟩ (.slice Ao14 t355.length co14)).setCell ⟨gb362,3,none⟩ (.slice Ao15 t358.length co15)).heap[gb362]? = some (.cells #[.int .i64 t351,.slice Ao13 t352.length co13,.slice Ao14 t355.length co14,.slice Ao15 t358.length co15] 30 (0,0))):=⟨by (with_reducible repeat (first|refine kn_ ?_ _|refine kd_ ?_|refine ka_ ?_ _));refine blk_put (cs:=#[.int .i64 t351,.slice Ao13 t352.length co13,.slice Ao14 t355.length co14,.slice none 0 0]) ?_ 3 _ rfl;(with_reducible repeat (first|refine kn_ ?_ _|refine kd_ ?_|refine ka_ ?_ _));refine blk_put (cs:=#[.int .i64 t351,.slice Ao13 t352.length co13,.slice none 0 0,.slice none 0 0]) ?_ 2 _ rfl;(with_reducible repeat (first|refine kn_ ?_ _|refine kd_ ?_|refine ka_ ?_ _));refine blk_put (cs:=#[.int .i64 t351,.slice none 0 0,.slice none 0 0,.slice none 0 0]) ?_ 1 _ rfl;(with_reducible repeat (first|refine kn_ ?_ _|refine kd_ ?_|refine ka_ ?_ _));refine blk_put (cs:=#[.int .i64 0,.slice none 0 0,.slice none 0 0,.slice none 0 0]) ?_ 0 _ rfl;(with_reducible repeat (first|refine kn_ ?_ _|refine kd_ ?_|refine ka_ ?_ _));exact BK362.out⟩
 have n5_ : Aside0 (IsS84 w ((((w9.setCell ⟨gb362,0,none⟩ (.int .i64 t351)).setCell ⟨gb362,1,none⟩ (.slice Ao13 t352.length co13)).setCell ⟨gb362,2,none⟩ (.slice Ao14 t355.length co14)).setCell ⟨gb362,3,none⟩ (.slice Ao15 t358.length co15)) g350 t348 t361):=⟨by repeat (first|(with_reducible first|exact HI350.out|apply IsS84.alloc|apply IsS84.drewN|apply IsS84.drew|apply IsS84.set_1|refine IsS84.far ?_ NB350_347.out _|refine IsS84.far ?_ NB350_362.out _)|exact HI350.out)⟩
 have n6_ : Aside0 (Below w.heap.size w ((((w9.setCell ⟨gb362,0,none⟩ (.int .i64 t351)).setCell ⟨gb362,1,none⟩ (.slice Ao13 t352.length co13)).setCell ⟨gb362,2,none⟩ (.slice Ao14 t355.length co14)).setCell ⟨gb362,3,none⟩ (.slice Ao15 t358.length co15))):=⟨by repeat (first|(with_reducible first|exact HB.out|apply ba_|apply bn_|apply bd_|refine bs_ ?_ (IsS84.ge HI350.out)|refine bs_ ?_ GE347.out|refine bs_ ?_ GE362.out)|exact HB.out)⟩
 (try clear HO354)
 (try clear HO357)
 (try clear HO360)
 (try clear BK347)
 (try clear BK362)
 (try clear HI350)
 (try clear HB)
 generalize ((((w9.setCell ⟨gb362,0,none⟩ (.int .i64 t351)).setCell ⟨gb362,1,none⟩ (.slice Ao13 t352.length co13)).setCell ⟨gb362,2,none⟩ (.slice Ao14 t355.length co14)).setCell ⟨gb362,3,none⟩ (.slice Ao15 t358.length co15)) = w16 at n0_ n1_ n2_ n3_ n4_ n5_ n6_ ⊢
 have HO354:=n0_
 have HO357:=n1_
 have HO360:=n2_
 have BK347:=n3_
 have BK362:=n4_
 have HI350:=n5_
 have HB:=n6_
 clear n0_ n1_ n2_ n3_ n4_ n5_ n6_
 have n0_:=mk_ (rd_ HO354.out)
 have n1_:=mk_ (rd_ HO357.out)
 have n2_:=mk_ (Kd.Q_drew HO360.out)
 have n3_:=mk_ (kd_ BK347.out)
 have n4_:=mk_ (kd_ BK362.out)
 have n5_:=mk_ (IsS84.drew HI350.out)
 have n6_:=mk_ (bd_ HB.out)
 clear HO354
 clear HO357
 clear HO360
 clear BK347
 clear BK362
 clear HI350
 clear HB
 have HO354:=n0_
 have HO357:=n1_
 have HO360:=n2_
 have BK347:=n3_
 have BK362:=n4_
 have HI350:=n5_
 have HB:=n6_
 clear n0_ n1_ n2_ n3_ n4_ n5_ n6_
 refine start_ (n:=13) (S:=fun w' => w'.cell? ⟨gb362,0,none⟩ = some (.int .i64 t351) ∧ w'.cell? ⟨gb362,1,none⟩ = some (.slice Ao13 t352.length co13) ∧ w'.cell? ⟨gb362,2,none⟩ = some (.slice Ao14 t355.length co14) ∧ w'.cell? ⟨gb362,3,none⟩ = some (.slice Ao15 t358.length co15)) (ds:=[]) #[false,false,false,false,false,false,false,false,false,false,false,false,false] (by kernel_rfl) rfl rfl ⟨(bc_ BK362.out 0).trans rfl,(bc_ BK362.out 1).trans rfl,(bc_ BK362.out 2).trans rfl,(bc_ BK362.out 3).trans rfl⟩ (fun hHeld => ?_);refine with_tabW spec_DrawMatesOf.tab3 spec_DrawMatesOf.bits3 (fun HT_ HW_ => ?_)
 generalize w16.drew = w17 at HO354 HO357 HO360 BK347 BK362 HI350 HB hHeld ⊢
 refine pure_ (i:=1) (N:=some 11) (v:=?_) (a':=?_) #[false,true,false,false,false,false,false,false,false,false,false,false,false] rfl rfl (any_of HT_.out (by kernel_rfl)) (fun _ _ _ h => h) (Or.inl ⟨by rfl,?_⟩) ?_ ?_
 rotate_left
 ·intro w'
  go_simp
  with_reducible rfl
 rotate_left
 ·simp only [Act.put,List.setIfInBounds_toArray,List.set_cons_zero,List.set_cons_succ,i64_w,i32_w]
  rfl
 refine pure_ (i:=2) (N:=some 12) (v:=?_) (a':=?_) #[false,true,true,false,false,false,false,false,false,false,false,false,false] rfl rfl (any_of HT_.out (by kernel_rfl)) (fun _ _ _ h => h) (Or.inl ⟨by rfl,?_⟩) ?_ ?_
 rotate_left
 ·intro w'
  go_simp
  with_reducible rfl
 rotate_left
 ·simp only [Act.put,List.setIfInBounds_toArray,List.set_cons_zero,List.set_cons_succ,i64_w,i32_w]
  rfl
 refine pure_ (i:=7) (N:=some 17) (v:=?_) (a':=?_) #[false,true,true,false,false,false,false,true,false,false,false,false,false] rfl rfl (any_of HT_.out (by kernel_rfl)) (fun _ _ _ h => h) (Or.inl ⟨by rfl,?_⟩) ?_ ?_
 rotate_left
 ·intro w'
  go_simp
  with_reducible rfl
 rotate_left
 ·simp only [Act.put,List.setIfInBounds_toArray,List.set_cons_zero,List.set_cons_succ,i64_w,i32_w]
  rfl
 refine take_ (i:=0) (N:=some 10) (v:=?_) (a':=?_) #[true,true,true,false,false,false,false,true,false,false,false,false,false] rfl rfl (take_ofW HT_.out HW_.out (by kernel_rfl)) (fun _ _ _ h => h) (Or.inl ⟨by rfl,?_⟩) hHeld ?_ ?_
 rotate_left
 ·rintro w' ⟨s0,s1,s2,s3⟩
  go_simp
  with_reducible rfl
 rotate_left
 ·simp only [Act.put,List.setIfInBounds_toArray,List.set_cons_zero,List.set_cons_succ,i64_w,i32_w]
  rfl
 refine take_ (i:=3) (N:=some 13) (v:=?_) (a':=?_) #[true,true,true,true,false,false,false,true,false,false,false,false,false] rfl rfl (take_ofW HT_.out HW_.out (by kernel_rfl)) (fun _ _ _ h => h) (Or.inl ⟨by rfl,?_⟩) hHeld ?_ ?_
 rotate_left
 ·rintro w' ⟨s0,s1,s2,s3⟩
  go_simp
  with_reducible rfl
 rotate_left
 ·simp only [Act.put,List.setIfInBounds_toArray,List.set_cons_zero,List.set_cons_succ,i64_w,i32_w]
  rfl
 refine pure_ (i:=4) (N:=some 14) (v:=?_) (a':=?_) #[true,true,true,true,true,false,false,true,false,false,false,false,false] rfl rfl (any_of HT_.out (by kernel_rfl)) (fun _ _ _ h => h) (Or.inl ⟨by rfl,?_⟩) ?_ ?_
 rotate_left
 ·intro w'
  go_simp
  with_reducible rfl
 rotate_left
 ·simp only [Act.put,List.setIfInBounds_toArray,List.set_cons_zero,List.set_cons_succ,i64_w,i32_w]
  rfl
 refine pure_ (i:=5) (N:=some 15) (v:=?_) (a':=?_) #[true,true,true,true,true,true,false,true,false,false,false,false,false] rfl rfl (any_of HT_.out (by kernel_rfl)) (fun _ _ _ h => h) (Or.inl ⟨by rfl,?_⟩) ?_ ?_
 rotate_left
 ·intro w'
  go_simp
  with_reducible rfl
 rotate_left
 ·simp only [Act.put,List.setIfInBounds_toArray,List.set_cons_zero,List.set_cons_succ,i64_w,i32_w]
  rfl
 refine one_ (i:=6) (N:=some 16) #[true,true,true,true,true,true,true,true,false,false,false,false,false] rfl rfl (one_of HT_.out (by kernel_rfl)) (by decide) (fun K hK => ?_)
 refine goes_ Try.func53 (by kernel_rfl) rfl #[.pointer (some ⟨g350,0,none⟩),.int .i64 (wrap64 ((t355.length : Int) + 2))] (by rfl) rfl rfl (by (try simp only [List.map_toArray,List.map_cons,List.map_nil]);first|done|rfl|(simp only [List.length_drop,List.length_take];rfl)) ?_
 with_reducible refine (spec_l21Rd_pick.calls k g350 t348 t361 (wrap64 ((t355.length : Int) + 2)) t363 t364 w _ ?side1 ?side2 A4.out).mono ?_
 (case side1 => repeat (first|(with_reducible first|exact HI350.out|apply IsS84.alloc|apply IsS84.drewN|apply IsS84.drew|apply IsS84.set_1|refine IsS84.far ?_ NB350_347.out _|refine IsS84.far ?_ NB350_362.out _)|exact HI350.out))
 (case side2 => repeat (first|(with_reducible first|exact HB.out|apply ba_|apply bn_|apply bd_|refine bs_ ?_ (IsS84.ge HI350.out)|refine bs_ ?_ GE347.out|refine bs_ ?_ GE362.out)|exact HB.out))
 rintro e w18 ⟨rfl,hi,hb,hk⟩
 refine ⟨_,rfl,?_⟩
 have n0_:=mk_ (KeepBut.blk hk (g':=gb347) (o:=.cells #[.int .i64 0,.slice none 0 0,.slice none 0 0,.slice none 0 0] 30 (0,0)) (by (with_reducible repeat (first|refine kn_ ?_ _|refine kd_ ?_|refine ka_ ?_ _));exact BK347.out) NB347_350.out (by simp))
 have n1_:=mk_ (rm_ (Kd.R_keep (IsS84.apart (show IsS84 w _ g350 t348 t361 from by repeat (first|(with_reducible first|exact HI350.out|apply IsS84.alloc|apply IsS84.drewN|apply IsS84.drew|apply IsS84.set_1|refine IsS84.far ?_ NB350_347.out _|refine IsS84.far ?_ NB350_362.out _)|exact HI350.out)) (by (with_reducible repeat (first|apply ra_|apply rn_|apply rd_));exact HO354.out) (by decide)) hk (fun _ h => h.2)) (fun _ h => h.1))
 have n2_:=mk_ (rm_ (Kd.R_keep (IsS84.apart (show IsS84 w _ g350 t348 t361 from by repeat (first|(with_reducible first|exact HI350.out|apply IsS84.alloc|apply IsS84.drewN|apply IsS84.drew|apply IsS84.set_1|refine IsS84.far ?_ NB350_347.out _|refine IsS84.far ?_ NB350_362.out _)|exact HI350.out)) (by (with_reducible repeat (first|apply ra_|apply rn_|apply rd_));exact HO357.out) (by decide)) hk (fun _ h => h.2)) (fun _ h => h.1))
 have n3_:=mk_ (Kd.Q_mono (Kd.Q_keep (IsS84.apartQ (show IsS84 w _ g350 t348 t361 from by repeat (first|(with_reducible first|exact HI350.out|apply IsS84.alloc|apply IsS84.drewN|apply IsS84.drew|apply IsS84.set_1|refine IsS84.far ?_ NB350_347.out _|refine IsS84.far ?_ NB350_362.out _)|exact HI350.out)) (by (with_reducible repeat (first|apply Kd.Q_alloc|apply Kd.Q_drewN|apply Kd.Q_drew));exact HO360.out) (by decide)) hk (fun _ h => h.2)) (fun _ h => h.1))
 have n4_:=mk_ (KeepBut.blk hk (g':=gb362) (o:=.cells #[.int .i64 t351,.slice Ao13 t352.length co13,.slice Ao14 t355.length co14,.slice Ao15 t358.length co15] 30 (0,0)) (by (with_reducible repeat (first|refine kn_ ?_ _|refine kd_ ?_|refine ka_ ?_ _));exact BK362.out) NB362_350.out (by simp))
 have n5_:=mk_ (hb)
 have n6_:=mk_ (hi)
 clear BK347
 clear HO354
 clear HO357
 clear HO360
 clear BK362
 clear HB
 clear HI350
 have BK347:=n0_
 have HO354:=n1_
 have HO357:=n2_
 have HO360:=n3_
 have BK362:=n4_
 have HB:=n5_
 have HI350:=n6_
 clear n0_ n1_ n2_ n3_ n4_ n5_ n6_
 (try clear hb)
 (try clear hb2)
 (try clear hk)
 (try clear hi)
 refine hK.out _ _ ⟨(bc_ BK362.out 0).trans rfl,(bc_ BK362.out 1).trans rfl,(bc_ BK362.out 2).trans rfl,(bc_ BK362.out 3).trans rfl⟩ (fun hHeld => ?_)
 clear hK K
 refine norm_ (a':=?_) ?_ ?_
 rotate_left
 ·show Act.put _ (some 16) _ = _
  simp only [Act.put,List.setIfInBounds_toArray,List.set_cons_zero,List.set_cons_succ,i64_w,i32_w]
  rfl
 refine one_ (i:=8) (N:=some 18) #[true,true,true,true,true,true,true,true,true,false,false,false,false] rfl rfl (one_of HT_.out (by kernel_rfl)) (by decide) (fun K hK => ?_)
 refine goes_ Try.func53 (by kernel_rfl) rfl #[.pointer (some ⟨g350,0,none⟩),.int .i64 9] (by rfl) rfl rfl (by (try simp only [List.map_toArray,List.map_cons,List.map_nil]);first|done|rfl|(simp only [List.length_drop,List.length_take];rfl)) ?_
 with_reducible refine (spec_l21Rd_pick.calls k g350 t348 t364 9 t365 t366 w _ ?side1 ?side2 A5.out).mono ?_
 (case side1 => repeat (first|(with_reducible first|exact HI350.out|apply IsS84.alloc|apply IsS84.drewN|apply IsS84.drew|apply IsS84.set_1|refine IsS84.far ?_ NB350_347.out _|refine IsS84.far ?_ NB350_362.out _)|exact HI350.out))
 (case side2 => repeat (first|(with_reducible first|exact HB.out|apply ba_|apply bn_|apply bd_|refine bs_ ?_ (IsS84.ge HI350.out)|refine bs_ ?_ GE347.out|refine bs_ ?_ GE362.out)|exact HB.out))
 rintro e w19 ⟨rfl,hi,hb,hk⟩
 refine ⟨_,rfl,?_⟩
 have n0_:=mk_ (KeepBut.blk hk (g':=gb347) (o:=.cells #[.int .i64 0,.slice none 0 0,.slice none 0 0,.slice none 0 0] 30 (0,0)) (by (with_reducible repeat (first|refine kn_ ?_ _|refine kd_ ?_|refine ka_ ?_ _));exact BK347.out) NB347_350.out (by simp))
 have n1_:=mk_ (rm_ (Kd.R_keep (IsS84.apart (show IsS84 w _ g350 t348 t364 from by repeat (first|(with_reducible first|exact HI350.out|apply IsS84.alloc|apply IsS84.drewN|apply IsS84.drew|apply IsS84.set_1|refine IsS84.far ?_ NB350_347.out _|refine IsS84.far ?_ NB350_362.out _)|exact HI350.out)) (by (with_reducible repeat (first|apply ra_|apply rn_|apply rd_));exact HO354.out) (by decide)) hk (fun _ h => h.2)) (fun _ h => h.1))
 have n2_:=mk_ (rm_ (Kd.R_keep (IsS84.apart (show IsS84 w _ g350 t348 t364 from by repeat (first|(with_reducible first|exact HI350.out|apply IsS84.alloc|apply IsS84.drewN|apply IsS84.drew|apply IsS84.set_1|refine IsS84.far ?_ NB350_347.out _|refine IsS84.far ?_ NB350_362.out _)|exact HI350.out)) (by (with_reducible repeat (first|apply ra_|apply rn_|apply rd_));exact HO357.out) (by decide)) hk (fun _ h => h.2)) (fun _ h => h.1))
 have n3_:=mk_ (Kd.Q_mono (Kd.Q_keep (IsS84.apartQ (show IsS84 w _ g350 t348 t364 from by repeat (first|(with_reducible first|exact HI350.out|apply IsS84.alloc|apply IsS84.drewN|apply IsS84.drew|apply IsS84.set_1|refine IsS84.far ?_ NB350_347.out _|refine IsS84.far ?_ NB350_362.out _)|exact HI350.out)) (by (with_reducible repeat (first|apply Kd.Q_alloc|apply Kd.Q_drewN|apply Kd.Q_drew));exact HO360.out) (by decide)) hk (fun _ h => h.2)) (fun _ h => h.1))
 have n4_:=mk_ (KeepBut.blk hk (g':=gb362) (o:=.cells #[.int .i64 t351,.slice Ao13 t352.length co13,.slice Ao14 t355.length co14,.slice Ao15 t358.length co15] 30 (0,0)) (by (with_reducible repeat (first|refine kn_ ?_ _|refine kd_ ?_|refine ka_ ?_ _));exact BK362.out) NB362_350.out (by simp))
 have n5_:=mk_ (hb)
 have n6_:=mk_ (hi)
 clear BK347
 clear HO354
 clear HO357
 clear HO360
 clear BK362
 clear HB
 clear HI350
 have BK347:=n0_
 have HO354:=n1_
 have HO357:=n2_
 have HO360:=n3_
 have BK362:=n4_
 have HB:=n5_
 have HI350:=n6_
 clear n0_ n1_ n2_ n3_ n4_ n5_ n6_
 (try clear hb)
 (try clear hb2)
 (try clear hk)
 (try clear hi)
 refine hK.out _ _ ⟨(bc_ BK362.out 0).trans rfl,(bc_ BK362.out 1).trans rfl,(bc_ BK362.out 2).trans rfl,(bc_ BK362.out 3).trans rfl⟩ (fun hHeld => ?_)
 clear hK K
 refine norm_ (a':=?_) ?_ ?_
 rotate_left
 ·show Act.put _ (some 18) _ = _
  simp only [Act.put,List.setIfInBounds_toArray,List.set_cons_zero,List.set_cons_succ,i64_w,i32_w]
  rfl
 refine pure_ (i:=9) (N:=some 19) (v:=?_) (a':=?_) #[true,true,true,true,true,true,true,true,true,true,false,false,false] rfl rfl (any_of HT_.out (by kernel_rfl)) (fun _ _ _ h => h) (Or.inl ⟨by rfl,?_⟩) ?_ ?_
 rotate_left
 ·intro w'
  go_simp
  with_reducible rfl
 rotate_left
 ·simp only [Act.put,List.setIfInBounds_toArray,List.set_cons_zero,List.set_cons_succ,i64_w,i32_w]
  rfl
 refine pure_ (i:=10) (N:=some 20) (v:=?_) (a':=?_) #[true,true,true,true,true,true,true,true,true,true,true,false,false] rfl rfl (any_of HT_.out (by kernel_rfl)) (fun _ _ _ h => h) (Or.inl ⟨by rfl,?_⟩) ?_ ?_
 rotate_left
 ·intro w'
  go_simp
  with_reducible rfl
 rotate_left
 ·simp only [Act.put,List.setIfInBounds_toArray,List.set_cons_zero,List.set_cons_succ,i64_w,i32_w]
  rfl
 refine one_ (i:=11) (N:=none) #[true,true,true,true,true,true,true,true,true,true,true,true,false] rfl rfl (one_of HT_.out (by kernel_rfl)) (by decide) (fun K hK => ?_)
 have hs20 : w19.cell? ⟨gb347,0,none⟩ = some (.int .i64 0):=(bc_ BK347.out 0).trans rfl
 have hfs20:=bf_ BK347.out 0
 have hns20_1:=NB362_347.out
 have hms20_1:=NB347_362.out
 have hs21 : w19.cell? ⟨gb347,1,none⟩ = some (.slice none 0 0):=(bc_ BK347.out 1).trans rfl
 have hfs21:=bf_ BK347.out 1
 have hns21_1:=NB362_347.out
 have hms21_1:=NB347_362.out
 have hs22 : w19.cell? ⟨gb347,2,none⟩ = some (.slice none 0 0):=(bc_ BK347.out 2).trans rfl
 have hfs22:=bf_ BK347.out 2
 have hns22_1:=NB362_347.out
 have hms22_1:=NB347_362.out
 have hs23 : w19.cell? ⟨gb347,3,none⟩ = some (.slice none 0 0):=(bc_ BK347.out 3).trans rfl
 have hfs23:=bf_ BK347.out 3
 have hns23_1:=NB362_347.out
 have hms23_1:=NB347_362.out
 refine skip_ (w1:=?_) (by rfl) rfl ?_ ?_
 rotate_left
 ·go_simp
  rfl
 refine hK.out _ _ ⟨((cell_far (p:=⟨gb347,_,none⟩) NB362_347.out _).trans (((cell_far (p:=⟨gb347,_,none⟩) NB362_347.out _).trans (((cell_far (p:=⟨gb347,_,none⟩) NB362_347.out _).trans (((cell_far (p:=⟨gb347,_,none⟩) NB362_347.out _).trans (hHeld.1)))))))),((cell_far (p:=⟨gb347,_,none⟩) NB362_347.out _).trans (((cell_far (p:=⟨gb347,_,none⟩) NB362_347.out _).trans (((cell_far (p:=⟨gb347,_,none⟩) NB362_347.out _).trans (((cell_far (p:=⟨gb347,_,none⟩) NB362_347.out _).trans (hHeld.2.1)))))))),((cell_far (p:=⟨gb347,_,none⟩) NB362_347.out _).trans (((cell_far (p:=⟨gb347,_,none⟩) NB362_347.out _).trans (((cell_far (p:=⟨gb347,_,none⟩) NB362_347.out _).trans (((cell_far (p:=⟨gb347,_,none⟩) NB362_347.out _).trans (hHeld.2.2.1)))))))),((cell_far (p:=⟨gb347,_,none⟩) NB362_347.out _).trans (((cell_far (p:=⟨gb347,_,none⟩) NB362_347.out _).trans (((cell_far (p:=⟨gb347,_,none⟩) NB362_347.out _).trans (((cell_far (p:=⟨gb347,_,none⟩) NB362_347.out _).trans (hHeld.2.2.2))))))))⟩ (fun hHeld => ?_)
 clear hK K
 refine pure_ (i:=12) (N:=some 3) (v:=?_) (a':=?_) #[true,true,true,true,true,true,true,true,true,true,true,true,true] rfl rfl (any_of HT_.out (by kernel_rfl)) (fun _ _ _ h => h) (Or.inl ⟨by rfl,?_⟩) ?_ ?_
 rotate_left
 ·intro w'
  go_simp
  with_reducible rfl
 rotate_left
 ·simp only [Act.put,List.setIfInBounds_toArray,List.set_cons_zero,List.set_cons_succ,i64_w,i32_w]
  rfl
 refine done_ (done_of HT_.out (by kernel_rfl)) ?_
 try go_wp2
 refine bodyPost_ret (results_ct rfl _ _ gb347 30 #[.int .i64 t351,.slice Ao13 t352.length co13,.slice Ao14 t355.length co14,.slice Ao15 t358.length co15] (0,0) _ rfl (by (with_reducible repeat (first|refine kn_ ?_ _|refine kd_ ?_|refine ka_ ?_ _));refine blk_put (cs:=#[.int .i64 t351,.slice Ao13 t352.length co13,.slice Ao14 t355.length co14,.slice none 0 0]) ?_ 3 _ rfl;(with_reducible repeat (first|refine kn_ ?_ _|refine kd_ ?_|refine ka_ ?_ _));refine blk_put (cs:=#[.int .i64 t351,.slice Ao13 t352.length co13,.slice none 0 0,.slice none 0 0]) ?_ 2 _ rfl;(with_reducible repeat (first|refine kn_ ?_ _|refine kd_ ?_|refine ka_ ?_ _));refine blk_put (cs:=#[.int .i64 t351,.slice none 0 0,.slice none 0 0,.slice none 0 0]) ?_ 1 _ rfl;(with_reducible repeat (first|refine kn_ ?_ _|refine kd_ ?_|refine ka_ ?_ _));refine blk_put (cs:=#[.int .i64 0,.slice none 0 0,.slice none 0 0,.slice none 0 0]) ?_ 0 _ rfl;(with_reducible repeat (first|refine kn_ ?_ _|refine kd_ ?_|refine ka_ ?_ _));exact BK347.out) Try.underlying30 rfl (by kernel_rfl)) rfl ?_
 exact ⟨_,_,_,by first|rfl|(simp [errW_none,errW_some] <;> rfl)|(simp [*,errW_none,errW_some] <;> rfl),by (with_reducible repeat (first|apply ra_|apply rn_|apply rd_));exact rm_ (rf_ (p:=⟨gb347,3,none⟩) (rf_ (p:=⟨gb347,2,none⟩) (rf_ (p:=⟨gb347,1,none⟩) (rf_ (p:=⟨gb347,0,none⟩) (rt_ HO354.out BK347.out (by decide)) (fun _ hk => hk.2) (.int .i64 t351)) (fun _ hk => hk.2) (.slice Ao13 t352.length co13)) (fun _ hk => hk.2) (.slice Ao14 t355.length co14)) (fun _ hk => hk.2) (.slice Ao15 t358.length co15)) (fun _ hk => trivial),by (with_reducible repeat (first|apply ra_|apply rn_|apply rd_));exact rm_ (rf_ (p:=⟨gb347,3,none⟩) (rf_ (p:=⟨gb347,2,none⟩) (rf_ (p:=⟨gb347,1,none⟩) (rf_ (p:=⟨gb347,0,none⟩) (rt_ HO357.out BK347.out (by decide)) (fun _ hk => hk.2) (.int .i64 t351)) (fun _ hk => hk.2) (.slice Ao13 t352.length co13)) (fun _ hk => hk.2) (.slice Ao14 t355.length co14)) (fun _ hk => hk.2) (.slice Ao15 t358.length co15)) (fun _ hk => hk.1),by (with_reducible repeat (first|apply Kd.Q_alloc|apply Kd.Q_drewN|apply Kd.Q_drew));exact Kd.Q_mono (Kd.Q_far (p:=⟨gb347,3,none⟩) (Kd.Q_far (p:=⟨gb347,2,none⟩) (Kd.Q_far (p:=⟨gb347,1,none⟩) (Kd.Q_far (p:=⟨gb347,0,none⟩) (Kd.Q_types HO360.out BK347.out (by decide)) (fun _ hk => hk.2) (.int .i64 t351)) (fun _ hk => hk.2) (.slice Ao13 t352.length co13)) (fun _ hk => hk.2) (.slice Ao14 t355.length co14)) (fun _ hk => hk.2) (.slice Ao15 t358.length co15)) (fun _ hk => hk.1),by repeat (first|(with_reducible first|exact HB.out|apply ba_|apply bn_|apply bd_|refine bs_ ?_ (IsS84.ge HI350.out)|refine bs_ ?_ GE347.out|refine bs_ ?_ GE362.out)|exact HB.out)⟩

/-! ### spec_DrawFloodOver: function 31 -/
def spec_DrawFloodOver.f (k : Nat) (l0 : List Int) : Option (Int × (List (S51)) × List Int × List Int × Int):=(spec_DrawMatesOf.f k l0).bind fun bt368 => (some (bt368.1,bt368.2.1,bt368.2.2.1,bt368.2.2.2.1,bt368.2.2.2.2))
theorem spec_DrawFloodOver.mono : ∀ a0 k,LeO (spec_DrawFloodOver.f k a0) (spec_DrawFloodOver.f (k + 1) a0):=by
 intro a0 k
 unfold spec_DrawFloodOver.f
 repeat' first
   | (with_reducible exact spec_DrawMatesOf.mono _ _)
   | (with_reducible exact LeO.refl _)
   | (with_reducible exact LeO.none _)
   | (with_reducible refine LeO.ite ?_ ?_)
   | (with_reducible refine LeO.bind ?_ (fun _ => ?_))
   | exact spec_DrawMatesOf.mono _ _
   | exact LeO.none _
   | refine LeO.ite ?_ ?_
   | refine LeO.bind ?_ (fun _ => ?_)
set_option maxHeartbeats 8000000 in
set_option maxRecDepth 100000 in
theorem spec_DrawFloodOver.calls (k : Nat) (A0 : Option Addr) (c0 : Nat) (l0 : List Int) (r1 : Int) (r2 : List (S51)) (r3 : List Int) (r4 : List Int) (r5 : Int) (w : World) (hr0 : Kd.C (Kd.int .u8) w A0 l0.length l0) (hc0 : l0.length ≤ c0) (h : spec_DrawFloodOver.f k l0 = some (r1,r2,r3,r4,r5)) :
  Calls Try.prog 31 #[.slice A0 l0.length c0] w fun e w' => ∃ v1_ v2_ v3_ : Value,e = .returned (.tuple #[.agg #[.int .i64 r1,v1_,v2_,v3_],.int .i64 r5]) ∧ Kd.R k51 51 w' w.heap.size (fun _ => True) v1_ r2 ∧ Kd.R (Kd.int .i64) 3 w' w.heap.size (fun k_ => some k_ ≠ (v3_ : Value).ownBlock) v2_ r3 ∧ Kd.Q (Kd.int .i64) 3 w' w.heap.size (fun k_ => some k_ ≠ (v2_ : Value).ownBlock) v3_ r4 ∧ Below w.heap.size w w':=by
 have hu30:=Try.underlying30
 have HR0:=mk_ hr0
 have HC0:=mk_ hc0
 clear hr0 hc0
 have HB:=mk_ (Below.refl w.heap.size w)
 have H : ((spec_DrawMatesOf.f k l0).bind fun bt368 => (some (bt368.1,bt368.2.1,bt368.2.2.1,bt368.2.2.2.1,bt368.2.2.2.2))) = some (r1,r2,r3,r4,r5):=h
 clear h
 replace H:=Option.bind_eq_some_iff.mp H
 obtain ⟨⟨t368,t369,t372,t375,t378⟩,A20,H⟩:=H
 replace H : (some (t368,t369,t372,t375,t378)) = some (r1,r2,r3,r4,r5):=H
 have A2:=mk_ A20
 clear A20
 simp only [Option.some.injEq,Prod.mk.injEq] at H
 obtain ⟨rfl,rfl,rfl,rfl,rfl⟩:=H
 go_enter Try.func31,Try.ntmps31
 go_wp2_with (first|((with_reducible refine gate_dst (N:=2) rfl ?_);refine box_event ?hg (N:=2) ?hd (cs:=#[.int .i64 0,.slice none 0 0,.slice none 0 0,.slice none 0 0]) (t:=30) ?hr ?_;(case hd => rfl);(case hg => rfl);(case hr => first|(go_simp;done)|(go_simp;rfl));intro gb367 hg w3 hbox hb;have n0_:=mk_ (st_ (by repeat (first|(with_reducible first|exact HB.out|apply ba_|apply bn_|apply bd_)|exact HB.out)) hb);have n1_:=mk_ (hbox);have n2_:=mk_ ((by rw [hg];exact (bz_ (by repeat (first|(with_reducible first|exact HB.out|apply ba_|apply bn_|apply bd_)|exact HB.out))) : w.heap.size ≤ gb367));have n3_:=mk_ ((by rw [hg];exact (bz_ (by repeat (first|(with_reducible first|exact HB.out|apply ba_|apply bn_|apply bd_)|exact HB.out))) : w.heap.size ≤ gb367));clear HB;have HB:=n0_;have BK367:=n1_;have GW367:=n2_;have GE367:=n3_;clear n0_ n1_ n2_ n3_;clear hb hbox hg)|((with_reducible refine gate_callee (f:=17) rfl ?_);refine goesL_ (some 5) rfl rfl Try.func17 (by kernel_rfl) rfl #[.slice A0 l0.length c0] rfl (by (try simp only [List.map_toArray,List.map_cons,List.map_nil]);first|done|rfl|(simp only [List.length_drop,List.length_take];rfl)) ?_;(with_reducible refine (spec_DrawMatesOf.calls k _ _ l0 t368 t369 t372 t375 t378 _ ?side1 ?side2 A2.out).mono ?_);(case side1 => repeat (first|exact (cb_ HR0.out HB.out)|(with_reducible refine ca_ ?_ _)|(with_reducible refine cn_ ?_ _)|(with_reducible refine cd_ ?_)));(case side2 => exact HC0.out);rintro e w4 ⟨v370,v373,v376,rfl,ho0,ho1,ho2,hb⟩;refine ⟨_,rfl,?_⟩;have n0_:=mk_ (Kd.R_lower ho0 (bz_ (by repeat (first|(with_reducible first|exact HB.out|apply ba_|apply bn_|apply bd_|refine bs_ ?_ GE367.out)|exact HB.out))));have n1_:=mk_ (Kd.R_lower ho1 (bz_ (by repeat (first|(with_reducible first|exact HB.out|apply ba_|apply bn_|apply bd_|refine bs_ ?_ GE367.out)|exact HB.out))));have n2_:=mk_ (Kd.Q_lower ho2 (bz_ (by repeat (first|(with_reducible first|exact HB.out|apply ba_|apply bn_|apply bd_|refine bs_ ?_ GE367.out)|exact HB.out))));have n3_:=mk_ (blk_below (g:=gb367) (o:=.cells #[.int .i64 0,.slice none 0 0,.slice none 0 0,.slice none 0 0] 30 (0,0)) (by (with_reducible repeat (first|refine kn_ ?_ _|refine kd_ ?_|refine ka_ ?_ _));exact BK367.out) hb);have n4_:=mk_ (st_ (by repeat (first|(with_reducible first|exact HB.out|apply ba_|apply bn_|apply bd_|refine bs_ ?_ GE367.out)|exact HB.out)) hb);clear BK367;clear HB;have HO371:=n0_;have HO374:=n1_;have HO377:=n2_;have BK367:=n3_;have HB:=n4_;clear n0_ n1_ n2_ n3_ n4_;(try clear hb);(try clear hb2);(try clear hk);(try clear hi);(try clear ho0);(try clear ho1);(try clear ho2);have hcz5_0 : w4.cell? ⟨gb367,0,none⟩ = some (.int .i64 0):=(bc_ BK367.out 0).trans rfl;have hcz5_1 : w4.cell? ⟨gb367,1,none⟩ = some (.slice none 0 0):=(bc_ BK367.out 1).trans rfl;have hcz5_2 : w4.cell? ⟨gb367,2,none⟩ = some (.slice none 0 0):=(bc_ BK367.out 2).trans rfl;have hcz5_3 : w4.cell? ⟨gb367,3,none⟩ = some (.slice none 0 0):=(bc_ BK367.out 3).trans rfl;have hfz5_0:=bf_ BK367.out 0;have hfz5_1:=bf_ BK367.out 1;have hfz5_2:=bf_ BK367.out 2;have hfz5_3:=bf_ BK367.out 3;obtain ⟨Ao6,co6,eo6⟩:=Kd.R_slice HO371.out;subst eo6;obtain ⟨Ao7,co7,eo7⟩:=Kd.R_slice HO374.out;subst eo7;obtain ⟨Ao8,co8,eo8,_⟩:=Kd.Q_slice HO377.out;subst eo8))
 refine bodyPost_ret (results_ct rfl _ _ gb367 30 #[.int .i64 t368,.slice Ao6 t369.length co6,.slice Ao7 t372.length co7,.slice Ao8 t375.length co8] (0,0) _ rfl (by (with_reducible repeat (first|refine kn_ ?_ _|refine kd_ ?_|refine ka_ ?_ _));refine blk_put (cs:=#[.int .i64 t368,.slice Ao6 t369.length co6,.slice Ao7 t372.length co7,.slice none 0 0]) ?_ 3 _ rfl;(with_reducible repeat (first|refine kn_ ?_ _|refine kd_ ?_|refine ka_ ?_ _));refine blk_put (cs:=#[.int .i64 t368,.slice Ao6 t369.length co6,.slice none 0 0,.slice none 0 0]) ?_ 2 _ rfl;(with_reducible repeat (first|refine kn_ ?_ _|refine kd_ ?_|refine ka_ ?_ _));refine blk_put (cs:=#[.int .i64 t368,.slice none 0 0,.slice none 0 0,.slice none 0 0]) ?_ 1 _ rfl;(with_reducible repeat (first|refine kn_ ?_ _|refine kd_ ?_|refine ka_ ?_ _));refine blk_put (cs:=#[.int .i64 0,.slice none 0 0,.slice none 0 0,.slice none 0 0]) ?_ 0 _ rfl;(with_reducible repeat (first|refine kn_ ?_ _|refine kd_ ?_|refine ka_ ?_ _));exact BK367.out) Try.underlying30 rfl (by kernel_rfl)) rfl ?_
 exact ⟨_,_,_,by first|rfl|(simp [errW_none,errW_some] <;> rfl)|(simp [*,errW_none,errW_some] <;> rfl),by (with_reducible repeat (first|apply ra_|apply rn_|apply rd_));exact rm_ (rf_ (p:=⟨gb367,3,none⟩) (rf_ (p:=⟨gb367,2,none⟩) (rf_ (p:=⟨gb367,1,none⟩) (rf_ (p:=⟨gb367,0,none⟩) (rt_ HO371.out BK367.out (by decide)) (fun _ hk => hk.2) (.int .i64 t368)) (fun _ hk => hk.2) (.slice Ao6 t369.length co6)) (fun _ hk => hk.2) (.slice Ao7 t372.length co7)) (fun _ hk => hk.2) (.slice Ao8 t375.length co8)) (fun _ hk => trivial),by (with_reducible repeat (first|apply ra_|apply rn_|apply rd_));exact rm_ (rf_ (p:=⟨gb367,3,none⟩) (rf_ (p:=⟨gb367,2,none⟩) (rf_ (p:=⟨gb367,1,none⟩) (rf_ (p:=⟨gb367,0,none⟩) (rt_ HO374.out BK367.out (by decide)) (fun _ hk => hk.2) (.int .i64 t368)) (fun _ hk => hk.2) (.slice Ao6 t369.length co6)) (fun _ hk => hk.2) (.slice Ao7 t372.length co7)) (fun _ hk => hk.2) (.slice Ao8 t375.length co8)) (fun _ hk => hk.1),by (with_reducible repeat (first|apply Kd.Q_alloc|apply Kd.Q_drewN|apply Kd.Q_drew));exact Kd.Q_mono (Kd.Q_far (p:=⟨gb367,3,none⟩) (Kd.Q_far (p:=⟨gb367,2,none⟩) (Kd.Q_far (p:=⟨gb367,1,none⟩) (Kd.Q_far (p:=⟨gb367,0,none⟩) (Kd.Q_types HO377.out BK367.out (by decide)) (fun _ hk => hk.2) (.int .i64 t368)) (fun _ hk => hk.2) (.slice Ao6 t369.length co6)) (fun _ hk => hk.2) (.slice Ao7 t372.length co7)) (fun _ hk => hk.2) (.slice Ao8 t375.length co8)) (fun _ hk => hk.1),by repeat (first|(with_reducible first|exact HB.out|apply ba_|apply bn_|apply bd_|refine bs_ ?_ GE367.out)|exact HB.out)⟩

/-! ### impl_FloodOver: function 32 -/
def impl_FloodOver.l0 : Nat → Int → List Int → List Int → List Int → Int → Int → Int → List (S51) → List Int → List Int → Option (List Int)
 | 0,_,_,_,_,_,_,_,_,_,_ => none
 | k + 1,x1,x5,x6,x22,x23,x24,x380000,x380001,x380002,x380003 => if x24 < x23 then (if 0 ≤ x24 then (if x24 < (x22.length : Int) then (if 0 ≤ (rd x22 x24) then (if (rd x22 x24) < (x380001.length : Int) then (if 0 ≤ ((rd_T51 x380001 (rd x22 x24)).f0) then (if ((rd_T51 x380001 (rd x22 x24)).f0) < (x5.length : Int) then (if 0 ≤ x1 then (if x1 < (x380002.length : Int) then (if 0 ≤ (rd x380002 x1) then (if (rd x380002 x1) < (x5.length : Int) then (if (rd x5 ((rd_T51 x380001 (rd x22 x24)).f0)) = (rd x5 (rd x380002 x1)) then (if x6.length < 17592186044416 then (impl_FloodOver.l0 k x1 x5 (x6 ++ [rd x22 x24]) x22 x23 (wrap64 (x24 + 1)) x380000 x380001 x380002 x380003) else (none)) else (impl_FloodOver.l0 k x1 x5 x6 x22 x23 (wrap64 (x24 + 1)) x380000 x380001 x380002 x380003)) else (none)) else (none)) else (none)) else (none)) else (none)) else (none)) else (none)) else (none)) else (none)) else (none)) else (some x6)
def impl_FloodOver.f (k : Nat) (a0_0 : Int) (l0_1 : List (S51)) (l0_2 : List Int) (l0_3 : List Int) (a1 : Int) : Option (List Int):=(impl_Net_station.f a0_0 l0_1 l0_2 l0_3 a1).bind fun t380 => (if t380 = true then ((impl_rootsOf.f a0_0 l0_1).bind fun t381 => ((impl_TreeOf.f k a0_0 l0_1).bind fun t384 => (impl_FloodOver.l0 k a1 t381 ([] : List Int) t384 (t384.length : Int) 0 a0_0 l0_1 l0_2 l0_3))) else (some ([] : List Int)))
theorem impl_FloodOver.mono_l : ∀ k,(∀ y0 y1 y2 y3 y4 y5 y6 y7 y8 y9,LeO (impl_FloodOver.l0 k y0 y1 y2 y3 y4 y5 y6 y7 y8 y9) (impl_FloodOver.l0 (k + 1) y0 y1 y2 y3 y4 y5 y6 y7 y8 y9))
 | 0 => fun _ _ _ _ _ _ _ _ _ _ r h => by simp [impl_FloodOver.l0] at h
 | k + 1 => by
  have ih0:=impl_FloodOver.mono_l k
  ·intro y0 y1 y2 y3 y4 y5 y6 y7 y8 y9
   unfold impl_FloodOver.l0
   repeat' first
   | (with_reducible exact ih0 _ _ _ _ _ _ _ _ _ _)
   | (with_reducible exact impl_TreeOf.mono _ _ _)
   | (with_reducible exact LeO.refl _)
   | (with_reducible exact LeO.none _)
   | (with_reducible refine LeO.ite ?_ ?_)
   | (with_reducible refine LeO.bind ?_ (fun _ => ?_))
   | exact ih0 _ _ _ _ _ _ _ _ _ _
   | exact impl_TreeOf.mono _ _ _
   | exact LeO.none _
   | refine LeO.ite ?_ ?_
   | refine LeO.bind ?_ (fun _ => ?_)
theorem impl_FloodOver.mono : ∀ a0 a1 a2 a3 a4 k,LeO (impl_FloodOver.f k a0 a1 a2 a3 a4) (impl_FloodOver.f (k + 1) a0 a1 a2 a3 a4):=by
 intro a0 a1 a2 a3 a4 k
 have ih0:=impl_FloodOver.mono_l k
 unfold impl_FloodOver.f
 repeat' first
   | (with_reducible exact ih0 _ _ _ _ _ _ _ _ _ _)
   | (with_reducible exact impl_TreeOf.mono _ _ _)
   | (with_reducible exact LeO.refl _)
   | (with_reducible exact LeO.none _)
   | (with_reducible refine LeO.ite ?_ ?_)
   | (with_reducible refine LeO.bind ?_ (fun _ => ?_))
   | exact ih0 _ _ _ _ _ _ _ _ _ _
   | exact impl_TreeOf.mono _ _ _
   | exact LeO.none _
   | refine LeO.ite ?_ ?_
   | refine LeO.bind ?_ (fun _ => ?_)
set_option maxHeartbeats 8000000 in
set_option maxRecDepth 100000 in
theorem impl_FloodOver.calls (k : Nat) (a0_0 : Int) (A0_1 : Option Addr) (c0_1 : Nat) (l0_1 : List (S51)) (A0_2 : Option Addr) (c0_2 : Nat) (l0_2 : List Int) (A0_3 : Option Addr) (c0_3 : Nat) (l0_3 : List Int) (a1 : Int) (r : List Int) (w : World) (hr0_1 : Kd.C k51 w A0_1 l0_1.length l0_1) (hc0_1 : l0_1.length ≤ c0_1) (hr0_2 : Kd.C (Kd.int .i64) w A0_2 l0_2.length l0_2) (hc0_2 : l0_2.length ≤ c0_2) (hr0_3 : Kd.C (Kd.int .i64) w A0_3 l0_3.length l0_3) (hc0_3 : l0_3.length ≤ c0_3) (h : impl_FloodOver.f k a0_0 l0_1 l0_2 l0_3 a1 = some r) :
  Calls Try.prog 32 #[.agg #[.int .i64 a0_0,.slice A0_1 l0_1.length c0_1,.slice A0_2 l0_2.length c0_2,.slice A0_3 l0_3.length c0_3],.int .i64 a1] w fun e w' => ∃ v0_ : Value,e = .returned (v0_) ∧ Kd.R (Kd.int .i64) 3 w' w.heap.size (fun _ => True) v0_ r ∧ Below w.heap.size w w':=by
 have hu30:=Try.underlying30
 have HR0_1:=mk_ hr0_1
 have HC0_1:=mk_ hc0_1
 clear hr0_1 hc0_1
 have HR0_2:=mk_ hr0_2
 have HC0_2:=mk_ hc0_2
 clear hr0_2 hc0_2
 have HR0_3:=mk_ hr0_3
 have HC0_3:=mk_ hc0_3
 clear hr0_3 hc0_3
 have HB:=mk_ (Below.refl w.heap.size w)
 have H : ((impl_Net_station.f a0_0 l0_1 l0_2 l0_3 a1).bind fun t380 => (if t380 = true then ((impl_rootsOf.f a0_0 l0_1).bind fun t381 => ((impl_TreeOf.f k a0_0 l0_1).bind fun t384 => (impl_FloodOver.l0 k a1 t381 ([] : List Int) t384 (t384.length : Int) 0 a0_0 l0_1 l0_2 l0_3))) else (some ([] : List Int)))) = some r:=h
 clear h
 replace H:=Option.bind_eq_some_iff.mp H
 obtain ⟨t380,A30,H⟩:=H
 replace H : (if t380 = true then ((impl_rootsOf.f a0_0 l0_1).bind fun t381 => ((impl_TreeOf.f k a0_0 l0_1).bind fun t384 => (impl_FloodOver.l0 k a1 t381 ([] : List Int) t384 (t384.length : Int) 0 a0_0 l0_1 l0_2 l0_3))) else (some ([] : List Int))) = some r:=H
 have A3:=mk_ A30
 clear A30
 by_cases c4 : t380 = true
 ·subst c4
  have H1 : ((impl_rootsOf.f a0_0 l0_1).bind fun t381 => ((impl_TreeOf.f k a0_0 l0_1).bind fun t384 => (impl_FloodOver.l0 k a1 t381 ([] : List Int) t384 (t384.length : Int) 0 a0_0 l0_1 l0_2 l0_3))) = some r:=by rw [if_pos rfl] at H;exact H
  clear H
  have H:=H1
  clear H1
  replace H:=Option.bind_eq_some_iff.mp H
  obtain ⟨t381,A50,H⟩:=H
  replace H : ((impl_TreeOf.f k a0_0 l0_1).bind fun t384 => (impl_FloodOver.l0 k a1 t381 ([] : List Int) t384 (t384.length : Int) 0 a0_0 l0_1 l0_2 l0_3)) = some r:=H
  have A5:=mk_ A50
  clear A50
  replace H:=Option.bind_eq_some_iff.mp H
  obtain ⟨t384,A60,H⟩:=H
  replace H : (impl_FloodOver.l0 k a1 t381 ([] : List Int) t384 (t384.length : Int) 0 a0_0 l0_1 l0_2 l0_3) = some r:=H
  have A6:=mk_ A60
  clear A60
  have H':=mk_ H
  clear H
  go_enter Try.func32,Try.ntmps32
  go_wp2_with (first|((with_reducible refine gate_dst (N:=2) rfl ?_);refine box_event ?hg (N:=2) ?hd (cs:=#[.int .i64 a0_0,.slice A0_1 l0_1.length c0_1,.slice A0_2 l0_2.length c0_2,.slice A0_3 l0_3.length c0_3]) (t:=30) ?hr ?_;(case hd => rfl);(case hg => rfl);(case hr => first|(go_simp;done)|(go_simp;rfl));intro gb379 hg w7 hbox hb;have n0_:=mk_ (st_ (by repeat (first|(with_reducible first|exact HB.out|apply ba_|apply bn_|apply bd_)|exact HB.out)) hb);have n1_:=mk_ (hbox);have n2_:=mk_ ((by rw [hg];exact (bz_ (by repeat (first|(with_reducible first|exact HB.out|apply ba_|apply bn_|apply bd_)|exact HB.out))) : w.heap.size ≤ gb379));have n3_:=mk_ ((by rw [hg];exact (bz_ (by repeat (first|(with_reducible first|exact HB.out|apply ba_|apply bn_|apply bd_)|exact HB.out))) : w.heap.size ≤ gb379));clear HB;have HB:=n0_;have BK379:=n1_;have GW379:=n2_;have GE379:=n3_;clear n0_ n1_ n2_ n3_;clear hb hbox hg;have hcz8_0 : w7.cell? ⟨gb379,0,none⟩ = some (.int .i64 a0_0):=(bc_ BK379.out 0).trans rfl;have hcz8_1 : w7.cell? ⟨gb379,1,none⟩ = some (.slice A0_1 l0_1.length c0_1):=(bc_ BK379.out 1).trans rfl;have hcz8_2 : w7.cell? ⟨gb379,2,none⟩ = some (.slice A0_2 l0_2.length c0_2):=(bc_ BK379.out 2).trans rfl;have hcz8_3 : w7.cell? ⟨gb379,3,none⟩ = some (.slice A0_3 l0_3.length c0_3):=(bc_ BK379.out 3).trans rfl;have hfz8_0:=bf_ BK379.out 0;have hfz8_1:=bf_ BK379.out 1;have hfz8_2:=bf_ BK379.out 2;have hfz8_3:=bf_ BK379.out 3)|(go_at_call 54;(with_reducible refine (impl_Net_station.calls a0_0 _ _ l0_1 _ _ l0_2 _ _ l0_3 a1 true _ ?side1 ?side2 ?side3 ?side4 ?side5 ?side6 A3.out).mono ?_);(case side1 => repeat (first|exact (cb_ HR0_1.out HB.out)|(with_reducible refine ca_ ?_ _)|(with_reducible refine cn_ ?_ _)|(with_reducible refine cd_ ?_)));(case side2 => exact HC0_1.out);(case side3 => repeat (first|exact (cb_ HR0_2.out HB.out)|(with_reducible refine ca_ ?_ _)|(with_reducible refine cn_ ?_ _)|(with_reducible refine cd_ ?_)));(case side4 => exact HC0_2.out);(case side5 => repeat (first|exact (cb_ HR0_3.out HB.out)|(with_reducible refine ca_ ?_ _)|(with_reducible refine cn_ ?_ _)|(with_reducible refine cd_ ?_)));(case side6 => exact HC0_3.out);rintro e w9 ⟨rfl,hb⟩;have n0_:=mk_ (blk_below (g:=gb379) (o:=.cells #[.int .i64 a0_0,.slice A0_1 l0_1.length c0_1,.slice A0_2 l0_2.length c0_2,.slice A0_3 l0_3.length c0_3] 30 (0,0)) (by (with_reducible repeat (first|refine kn_ ?_ _|refine kd_ ?_|refine ka_ ?_ _));exact BK379.out) hb);have n1_:=mk_ (st_ (by repeat (first|(with_reducible first|exact HB.out|apply ba_|apply bn_|apply bd_|refine bs_ ?_ GE379.out)|exact HB.out)) hb);clear BK379;clear HB;have BK379:=n0_;have HB:=n1_;clear n0_ n1_;(try clear hb);(try clear hb2);(try clear hk);(try clear hi);have hcz10_0 : w9.cell? ⟨gb379,0,none⟩ = some (.int .i64 a0_0):=(bc_ BK379.out 0).trans rfl;have hcz10_1 : w9.cell? ⟨gb379,1,none⟩ = some (.slice A0_1 l0_1.length c0_1):=(bc_ BK379.out 1).trans rfl;have hcz10_2 : w9.cell? ⟨gb379,2,none⟩ = some (.slice A0_2 l0_2.length c0_2):=(bc_ BK379.out 2).trans rfl;have hcz10_3 : w9.cell? ⟨gb379,3,none⟩ = some (.slice A0_3 l0_3.length c0_3):=(bc_ BK379.out 3).trans rfl;have hfz10_0:=bf_ BK379.out 0;have hfz10_1:=bf_ BK379.out 1;have hfz10_2:=bf_ BK379.out 2;have hfz10_3:=bf_ BK379.out 3)|(go_at_call 55;(with_reducible refine (impl_rootsOf.calls a0_0 _ _ l0_1 t381 _ ?side1 ?side2 A5.out).mono ?_);(case side1 => repeat (first|exact (cb_ HR0_1.out HB.out)|(with_reducible refine ca_ ?_ _)|(with_reducible refine cn_ ?_ _)|(with_reducible refine cd_ ?_)));(case side2 => exact HC0_1.out);rintro e w11 ⟨v382,rfl,ho0,hb⟩;have n0_:=mk_ (Kd.R_lower ho0 (bz_ (by repeat (first|(with_reducible first|exact HB.out|apply ba_|apply bn_|apply bd_|refine bs_ ?_ GE379.out)|exact HB.out))));have n1_:=mk_ (blk_below (g:=gb379) (o:=.cells #[.int .i64 a0_0,.slice A0_1 l0_1.length c0_1,.slice A0_2 l0_2.length c0_2,.slice A0_3 l0_3.length c0_3] 30 (0,0)) (by (with_reducible repeat (first|refine kn_ ?_ _|refine kd_ ?_|refine ka_ ?_ _));exact BK379.out) hb);have n2_:=mk_ (st_ (by repeat (first|(with_reducible first|exact HB.out|apply ba_|apply bn_|apply bd_|refine bs_ ?_ GE379.out)|exact HB.out)) hb);clear BK379;clear HB;have HO383:=n0_;have BK379:=n1_;have HB:=n2_;clear n0_ n1_ n2_;(try clear hb);(try clear hb2);(try clear hk);(try clear hi);(try clear ho0);have hcz12_0 : w11.cell? ⟨gb379,0,none⟩ = some (.int .i64 a0_0):=(bc_ BK379.out 0).trans rfl;have hcz12_1 : w11.cell? ⟨gb379,1,none⟩ = some (.slice A0_1 l0_1.length c0_1):=(bc_ BK379.out 1).trans rfl;have hcz12_2 : w11.cell? ⟨gb379,2,none⟩ = some (.slice A0_2 l0_2.length c0_2):=(bc_ BK379.out 2).trans rfl;have hcz12_3 : w11.cell? ⟨gb379,3,none⟩ = some (.slice A0_3 l0_3.length c0_3):=(bc_ BK379.out 3).trans rfl;have hfz12_0:=bf_ BK379.out 0;have hfz12_1:=bf_ BK379.out 1;have hfz12_2:=bf_ BK379.out 2;have hfz12_3:=bf_ BK379.out 3)|(go_at_call 30;(with_reducible refine (impl_TreeOf.calls k a0_0 _ _ l0_1 t384 _ ?side1 ?side2 A6.out).mono ?_);(case side1 => repeat (first|exact (cb_ HR0_1.out HB.out)|(with_reducible refine ca_ ?_ _)|(with_reducible refine cn_ ?_ _)|(with_reducible refine cd_ ?_)));(case side2 => exact HC0_1.out);rintro e w13 ⟨v385,rfl,ho0,hb⟩;have n0_:=mk_ (re_ (by (with_reducible repeat (first|apply ra_|apply rn_|apply rd_));exact HO383.out) (Kd.R_base ho0) hb);have n1_:=mk_ (Kd.R_lower (Kd.R_new' ho0 (Kd.R_lt (by (with_reducible repeat (first|apply ra_|apply rn_|apply rd_));exact HO383.out))) (bz_ (by repeat (first|(with_reducible first|exact HB.out|apply ba_|apply bn_|apply bd_|refine bs_ ?_ GE379.out)|exact HB.out))));have n2_:=mk_ (blk_below (g:=gb379) (o:=.cells #[.int .i64 a0_0,.slice A0_1 l0_1.length c0_1,.slice A0_2 l0_2.length c0_2,.slice A0_3 l0_3.length c0_3] 30 (0,0)) (by (with_reducible repeat (first|refine kn_ ?_ _|refine kd_ ?_|refine ka_ ?_ _));exact BK379.out) hb);have n3_:=mk_ (st_ (by repeat (first|(with_reducible first|exact HB.out|apply ba_|apply bn_|apply bd_|refine bs_ ?_ GE379.out)|exact HB.out)) hb);clear HO383;clear BK379;clear HB;have HO383:=n0_;have HO386:=n1_;have BK379:=n2_;have HB:=n3_;clear n0_ n1_ n2_ n3_;(try clear hb);(try clear hb2);(try clear hk);(try clear hi);(try clear ho0);obtain ⟨Ao14,co14,eo14⟩:=Kd.R_slice HO386.out;subst eo14))
  repeat (go_quiet (first|((with_reducible refine gate_dst (N:=2) rfl ?_);refine box_event ?hg (N:=2) ?hd (cs:=#[.int .i64 a0_0,.slice A0_1 l0_1.length c0_1,.slice A0_2 l0_2.length c0_2,.slice A0_3 l0_3.length c0_3]) (t:=30) ?hr ?_;(case hd => rfl);(case hg => rfl);(case hr => first|(go_simp;done)|(go_simp;rfl));intro gb379 hg w7 hbox hb;have n0_:=mk_ (st_ (by repeat (first|(with_reducible first|exact HB.out|apply ba_|apply bn_|apply bd_)|exact HB.out)) hb);have n1_:=mk_ (hbox);have n2_:=mk_ ((by rw [hg];exact (bz_ (by repeat (first|(with_reducible first|exact HB.out|apply ba_|apply bn_|apply bd_)|exact HB.out))) : w.heap.size ≤ gb379));have n3_:=mk_ ((by rw [hg];exact (bz_ (by repeat (first|(with_reducible first|exact HB.out|apply ba_|apply bn_|apply bd_)|exact HB.out))) : w.heap.size ≤ gb379));clear HB;have HB:=n0_;have BK379:=n1_;have GW379:=n2_;have GE379:=n3_;clear n0_ n1_ n2_ n3_;clear hb hbox hg;have hcz8_0 : w7.cell? ⟨gb379,0,none⟩ = some (.int .i64 a0_0):=(bc_ BK379.out 0).trans rfl;have hcz8_1 : w7.cell? ⟨gb379,1,none⟩ = some (.slice A0_1 l0_1.length c0_1):=(bc_ BK379.out 1).trans rfl;have hcz8_2 : w7.cell? ⟨gb379,2,none⟩ = some (.slice A0_2 l0_2.length c0_2):=(bc_ BK379.out 2).trans rfl;have hcz8_3 : w7.cell? ⟨gb379,3,none⟩ = some (.slice A0_3 l0_3.length c0_3):=(bc_ BK379.out 3).trans rfl;have hfz8_0:=bf_ BK379.out 0;have hfz8_1:=bf_ BK379.out 1;have hfz8_2:=bf_ BK379.out 2;have hfz8_3:=bf_ BK379.out 3)|(go_at_call 54;(with_reducible refine (impl_Net_station.calls a0_0 _ _ l0_1 _ _ l0_2 _ _ l0_3 a1 true _ ?side1 ?side2 ?side3 ?side4 ?side5 ?side6 A3.out).mono ?_);(case side1 => repeat (first|exact (cb_ HR0_1.out HB.out)|(with_reducible refine ca_ ?_ _)|(with_reducible refine cn_ ?_ _)|(with_reducible refine cd_ ?_)));(case side2 => exact HC0_1.out);(case side3 => repeat (first|exact (cb_ HR0_2.out HB.out)|(with_reducible refine ca_ ?_ _)|(with_reducible refine cn_ ?_ _)|(with_reducible refine cd_ ?_)));(case side4 => exact HC0_2.out);(case side5 => repeat (first|exact (cb_ HR0_3.out HB.out)|(with_reducible refine ca_ ?_ _)|(with_reducible refine cn_ ?_ _)|(with_reducible refine cd_ ?_)));(case side6 => exact HC0_3.out);rintro e w9 ⟨rfl,hb⟩;have n0_:=mk_ (blk_below (g:=gb379) (o:=.cells #[.int .i64 a0_0,.slice A0_1 l0_1.length c0_1,.slice A0_2 l0_2.length c0_2,.slice A0_3 l0_3.length c0_3] 30 (0,0)) (by (with_reducible repeat (first|refine kn_ ?_ _|refine kd_ ?_|refine ka_ ?_ _));exact BK379.out) hb);have n1_:=mk_ (st_ (by repeat (first|(with_reducible first|exact HB.out|apply ba_|apply bn_|apply bd_|refine bs_ ?_ GE379.out)|exact HB.out)) hb);clear BK379;clear HB;have BK379:=n0_;have HB:=n1_;clear n0_ n1_;(try clear hb);(try clear hb2);(try clear hk);(try clear hi);have hcz10_0 : w9.cell? ⟨gb379,0,none⟩ = some (.int .i64 a0_0):=(bc_ BK379.out 0).trans rfl;have hcz10_1 : w9.cell? ⟨gb379,1,none⟩ = some (.slice A0_1 l0_1.length c0_1):=(bc_ BK379.out 1).trans rfl;have hcz10_2 : w9.cell? ⟨gb379,2,none⟩ = some (.slice A0_2 l0_2.length c0_2):=(bc_ BK379.out 2).trans rfl;have hcz10_3 : w9.cell? ⟨gb379,3,none⟩ = some (.slice A0_3 l0_3.length c0_3):=(bc_ BK379.out 3).trans rfl;have hfz10_0:=bf_ BK379.out 0;have hfz10_1:=bf_ BK379.out 1;have hfz10_2:=bf_ BK379.out 2;have hfz10_3:=bf_ BK379.out 3)|(go_at_call 55;(with_reducible refine (impl_rootsOf.calls a0_0 _ _ l0_1 t381 _ ?side1 ?side2 A5.out).mono ?_);(case side1 => repeat (first|exact (cb_ HR0_1.out HB.out)|(with_reducible refine ca_ ?_ _)|(with_reducible refine cn_ ?_ _)|(with_reducible refine cd_ ?_)));(case side2 => exact HC0_1.out);rintro e w11 ⟨v382,rfl,ho0,hb⟩;have n0_:=mk_ (Kd.R_lower ho0 (bz_ (by repeat (first|(with_reducible first|exact HB.out|apply ba_|apply bn_|apply bd_|refine bs_ ?_ GE379.out)|exact HB.out))));have n1_:=mk_ (blk_below (g:=gb379) (o:=.cells #[.int .i64 a0_0,.slice A0_1 l0_1.length c0_1,.slice A0_2 l0_2.length c0_2,.slice A0_3 l0_3.length c0_3] 30 (0,0)) (by (with_reducible repeat (first|refine kn_ ?_ _|refine kd_ ?_|refine ka_ ?_ _));exact BK379.out) hb);have n2_:=mk_ (st_ (by repeat (first|(with_reducible first|exact HB.out|apply ba_|apply bn_|apply bd_|refine bs_ ?_ GE379.out)|exact HB.out)) hb);clear BK379;clear HB;have HO383:=n0_;have BK379:=n1_;have HB:=n2_;clear n0_ n1_ n2_;(try clear hb);(try clear hb2);(try clear hk);(try clear hi);(try clear ho0);have hcz12_0 : w11.cell? ⟨gb379,0,none⟩ = some (.int .i64 a0_0):=(bc_ BK379.out 0).trans rfl;have hcz12_1 : w11.cell? ⟨gb379,1,none⟩ = some (.slice A0_1 l0_1.length c0_1):=(bc_ BK379.out 1).trans rfl;have hcz12_2 : w11.cell? ⟨gb379,2,none⟩ = some (.slice A0_2 l0_2.length c0_2):=(bc_ BK379.out 2).trans rfl;have hcz12_3 : w11.cell? ⟨gb379,3,none⟩ = some (.slice A0_3 l0_3.length c0_3):=(bc_ BK379.out 3).trans rfl;have hfz12_0:=bf_ BK379.out 0;have hfz12_1:=bf_ BK379.out 1;have hfz12_2:=bf_ BK379.out 2;have hfz12_3:=bf_ BK379.out 3)|(go_at_call 30;(with_reducible refine (impl_TreeOf.calls k a0_0 _ _ l0_1 t384 _ ?side1 ?side2 A6.out).mono ?_);(case side1 => repeat (first|exact (cb_ HR0_1.out HB.out)|(with_reducible refine ca_ ?_ _)|(with_reducible refine cn_ ?_ _)|(with_reducible refine cd_ ?_)));(case side2 => exact HC0_1.out);rintro e w13 ⟨v385,rfl,ho0,hb⟩;have n0_:=mk_ (re_ (by (with_reducible repeat (first|apply ra_|apply rn_|apply rd_));exact HO383.out) (Kd.R_base ho0) hb);have n1_:=mk_ (Kd.R_lower (Kd.R_new' ho0 (Kd.R_lt (by (with_reducible repeat (first|apply ra_|apply rn_|apply rd_));exact HO383.out))) (bz_ (by repeat (first|(with_reducible first|exact HB.out|apply ba_|apply bn_|apply bd_|refine bs_ ?_ GE379.out)|exact HB.out))));have n2_:=mk_ (blk_below (g:=gb379) (o:=.cells #[.int .i64 a0_0,.slice A0_1 l0_1.length c0_1,.slice A0_2 l0_2.length c0_2,.slice A0_3 l0_3.length c0_3] 30 (0,0)) (by (with_reducible repeat (first|refine kn_ ?_ _|refine kd_ ?_|refine ka_ ?_ _));exact BK379.out) hb);have n3_:=mk_ (st_ (by repeat (first|(with_reducible first|exact HB.out|apply ba_|apply bn_|apply bd_|refine bs_ ?_ GE379.out)|exact HB.out)) hb);clear HO383;clear BK379;clear HB;have HO383:=n0_;have HO386:=n1_;have BK379:=n2_;have HB:=n3_;clear n0_ n1_ n2_ n3_;(try clear hb);(try clear hb2);(try clear hk);(try clear hi);(try clear ho0);obtain ⟨Ao14,co14,eo14⟩:=Kd.R_slice HO386.out;subst eo14));try go_wp2_with (first|((with_reducible refine gate_dst (N:=2) rfl ?_);refine box_event ?hg (N:=2) ?hd (cs:=#[.int .i64 a0_0,.slice A0_1 l0_1.length c0_1,.slice A0_2 l0_2.length c0_2,.slice A0_3 l0_3.length c0_3]) (t:=30) ?hr ?_;(case hd => rfl);(case hg => rfl);(case hr => first|(go_simp;done)|(go_simp;rfl));intro gb379 hg w7 hbox hb;have n0_:=mk_ (st_ (by repeat (first|(with_reducible first|exact HB.out|apply ba_|apply bn_|apply bd_)|exact HB.out)) hb);have n1_:=mk_ (hbox);have n2_:=mk_ ((by rw [hg];exact (bz_ (by repeat (first|(with_reducible first|exact HB.out|apply ba_|apply bn_|apply bd_)|exact HB.out))) : w.heap.size ≤ gb379));have n3_:=mk_ ((by rw [hg];exact (bz_ (by repeat (first|(with_reducible first|exact HB.out|apply ba_|apply bn_|apply bd_)|exact HB.out))) : w.heap.size ≤ gb379));clear HB;have HB:=n0_;have BK379:=n1_;have GW379:=n2_;have GE379:=n3_;clear n0_ n1_ n2_ n3_;clear hb hbox hg;have hcz8_0 : w7.cell? ⟨gb379,0,none⟩ = some (.int .i64 a0_0):=(bc_ BK379.out 0).trans rfl;have hcz8_1 : w7.cell? ⟨gb379,1,none⟩ = some (.slice A0_1 l0_1.length c0_1):=(bc_ BK379.out 1).trans rfl;have hcz8_2 : w7.cell? ⟨gb379,2,none⟩ = some (.slice A0_2 l0_2.length c0_2):=(bc_ BK379.out 2).trans rfl;have hcz8_3 : w7.cell? ⟨gb379,3,none⟩ = some (.slice A0_3 l0_3.length c0_3):=(bc_ BK379.out 3).trans rfl;have hfz8_0:=bf_ BK379.out 0;have hfz8_1:=bf_ BK379.out 1;have hfz8_2:=bf_ BK379.out 2;have hfz8_3:=bf_ BK379.out 3)|(go_at_call 54;(with_reducible refine (impl_Net_station.calls a0_0 _ _ l0_1 _ _ l0_2 _ _ l0_3 a1 true _ ?side1 ?side2 ?side3 ?side4 ?side5 ?side6 A3.out).mono ?_);(case side1 => repeat (first|exact (cb_ HR0_1.out HB.out)|(with_reducible refine ca_ ?_ _)|(with_reducible refine cn_ ?_ _)|(with_reducible refine cd_ ?_)));(case side2 => exact HC0_1.out);(case side3 => repeat (first|exact (cb_ HR0_2.out HB.out)|(with_reducible refine ca_ ?_ _)|(with_reducible refine cn_ ?_ _)|(with_reducible refine cd_ ?_)));(case side4 => exact HC0_2.out);(case side5 => repeat (first|exact (cb_ HR0_3.out HB.out)|(with_reducible refine ca_ ?_ _)|(with_reducible refine cn_ ?_ _)|(with_reducible refine cd_ ?_)));(case side6 => exact HC0_3.out);rintro e w9 ⟨rfl,hb⟩;have n0_:=mk_ (blk_below (g:=gb379) (o:=.cells #[.int .i64 a0_0,.slice A0_1 l0_1.length c0_1,.slice A0_2 l0_2.length c0_2,.slice A0_3 l0_3.length c0_3] 30 (0,0)) (by (with_reducible repeat (first|refine kn_ ?_ _|refine kd_ ?_|refine ka_ ?_ _));exact BK379.out) hb);have n1_:=mk_ (st_ (by repeat (first|(with_reducible first|exact HB.out|apply ba_|apply bn_|apply bd_|refine bs_ ?_ GE379.out)|exact HB.out)) hb);clear BK379;clear HB;have BK379:=n0_;have HB:=n1_;clear n0_ n1_;(try clear hb);(try clear hb2);(try clear hk);(try clear hi);have hcz10_0 : w9.cell? ⟨gb379,0,none⟩ = some (.int .i64 a0_0):=(bc_ BK379.out 0).trans rfl;have hcz10_1 : w9.cell? ⟨gb379,1,none⟩ = some (.slice A0_1 l0_1.length c0_1):=(bc_ BK379.out 1).trans rfl;have hcz10_2 : w9.cell? ⟨gb379,2,none⟩ = some (.slice A0_2 l0_2.length c0_2):=(bc_ BK379.out 2).trans rfl;have hcz10_3 : w9.cell? ⟨gb379,3,none⟩ = some (.slice A0_3 l0_3.length c0_3):=(bc_ BK379.out 3).trans rfl;have hfz10_0:=bf_ BK379.out 0;have hfz10_1:=bf_ BK379.out 1;have hfz10_2:=bf_ BK379.out 2;have hfz10_3:=bf_ BK379.out 3)|(go_at_call 55;(with_reducible refine (impl_rootsOf.calls a0_0 _ _ l0_1 t381 _ ?side1 ?side2 A5.out).mono ?_);(case side1 => repeat (first|exact (cb_ HR0_1.out HB.out)|(with_reducible refine ca_ ?_ _)|(with_reducible refine cn_ ?_ _)|(with_reducible refine cd_ ?_)));(case side2 => exact HC0_1.out);rintro e w11 ⟨v382,rfl,ho0,hb⟩;have n0_:=mk_ (Kd.R_lower ho0 (bz_ (by repeat (first|(with_reducible first|exact HB.out|apply ba_|apply bn_|apply bd_|refine bs_ ?_ GE379.out)|exact HB.out))));have n1_:=mk_ (blk_below (g:=gb379) (o:=.cells #[.int .i64 a0_0,.slice A0_1 l0_1.length c0_1,.slice A0_2 l0_2.length c0_2,.slice A0_3 l0_3.length c0_3] 30 (0,0)) (by (with_reducible repeat (first|refine kn_ ?_ _|refine kd_ ?_|refine ka_ ?_ _));exact BK379.out) hb);have n2_:=mk_ (st_ (by repeat (first|(with_reducible first|exact HB.out|apply ba_|apply bn_|apply bd_|refine bs_ ?_ GE379.out)|exact HB.out)) hb);clear BK379;clear HB;have HO383:=n0_;have BK379:=n1_;have HB:=n2_;clear n0_ n1_ n2_;(try clear hb);(try clear hb2);(try clear hk);(try clear hi);(try clear ho0);have hcz12_0 : w11.cell? ⟨gb379,0,none⟩ = some (.int .i64 a0_0):=(bc_ BK379.out 0).trans rfl;have hcz12_1 : w11.cell? ⟨gb379,1,none⟩ = some (.slice A0_1 l0_1.length c0_1):=(bc_ BK379.out 1).trans rfl;have hcz12_2 : w11.cell? ⟨gb379,2,none⟩ = some (.slice A0_2 l0_2.length c0_2):=(bc_ BK379.out 2).trans rfl;have hcz12_3 : w11.cell? ⟨gb379,3,none⟩ = some (.slice A0_3 l0_3.length c0_3):=(bc_ BK379.out 3).trans rfl;have hfz12_0:=bf_ BK379.out 0;have hfz12_1:=bf_ BK379.out 1;have hfz12_2:=bf_ BK379.out 2;have hfz12_3:=bf_ BK379.out 3)|(go_at_call 30;(with_reducible refine (impl_TreeOf.calls k a0_0 _ _ l0_1 t384 _ ?side1 ?side2 A6.out).mono ?_);(case side1 => repeat (first|exact (cb_ HR0_1.out HB.out)|(with_reducible refine ca_ ?_ _)|(with_reducible refine cn_ ?_ _)|(with_reducible refine cd_ ?_)));(case side2 => exact HC0_1.out);rintro e w13 ⟨v385,rfl,ho0,hb⟩;have n0_:=mk_ (re_ (by (with_reducible repeat (first|apply ra_|apply rn_|apply rd_));exact HO383.out) (Kd.R_base ho0) hb);have n1_:=mk_ (Kd.R_lower (Kd.R_new' ho0 (Kd.R_lt (by (with_reducible repeat (first|apply ra_|apply rn_|apply rd_));exact HO383.out))) (bz_ (by repeat (first|(with_reducible first|exact HB.out|apply ba_|apply bn_|apply bd_|refine bs_ ?_ GE379.out)|exact HB.out))));have n2_:=mk_ (blk_below (g:=gb379) (o:=.cells #[.int .i64 a0_0,.slice A0_1 l0_1.length c0_1,.slice A0_2 l0_2.length c0_2,.slice A0_3 l0_3.length c0_3] 30 (0,0)) (by (with_reducible repeat (first|refine kn_ ?_ _|refine kd_ ?_|refine ka_ ?_ _));exact BK379.out) hb);have n3_:=mk_ (st_ (by repeat (first|(with_reducible first|exact HB.out|apply ba_|apply bn_|apply bd_|refine bs_ ?_ GE379.out)|exact HB.out)) hb);clear HO383;clear BK379;clear HB;have HO383:=n0_;have HO386:=n1_;have BK379:=n2_;have HB:=n3_;clear n0_ n1_ n2_ n3_;(try clear hb);(try clear hb2);(try clear hk);(try clear hi);(try clear ho0);obtain ⟨Ao14,co14,eo14⟩:=Kd.R_slice HO386.out;subst eo14)))
  go_loopg [6,24] k (fun kq v6 v24 w' => ∃ (x6_1 : List Int) (x24_1 : Int),v24 = .int .i64 x24_1 ∧ Aside0 (impl_FloodOver.l0 kq a1 t381 x6_1 t384 (t384.length : Int) x24_1 a0_0 l0_1 l0_2 l0_3 = some r) ∧ Aside0 (kq ≤ k) ∧ Aside0 (Kd.R (Kd.int .i64) 3 w' w.heap.size (fun k_ => some k_ ≠ (v6 : Value).ownBlock ∧ some k_ ≠ ((.slice Ao14 t384.length co14) : Value).ownBlock) v382 t381) ∧ Aside0 (Kd.R (Kd.int .i64) 3 w' w.heap.size (fun k_ => some k_ ≠ (v382 : Value).ownBlock ∧ some k_ ≠ ((.slice Ao14 t384.length co14) : Value).ownBlock) v6 x6_1) ∧ Aside0 (Kd.R (Kd.int .i64) 3 w' w.heap.size (fun k_ => some k_ ≠ (v382 : Value).ownBlock ∧ some k_ ≠ (v6 : Value).ownBlock) (.slice Ao14 t384.length co14) t384) ∧ Aside0 (w'.heap[gb379]? = some (.cells #[.int .i64 a0_0,(.slice A0_1 l0_1.length c0_1),(.slice A0_2 l0_2.length c0_2),(.slice A0_3 l0_3.length c0_3)] 30 (0,0))) ∧ Aside0 (Below w.heap.size w w'))
  case atStart => exact ⟨(([] : List Int)),(0),(by first|rfl|(simp;done)|(simp [*];done)),H',⟨Nat.le_refl _⟩,⟨by (with_reducible repeat (first|apply ra_|apply rn_|apply rd_));exact rm_ HO383.out (fun _ hk => ⟨(by simp [Value.ownBlock]),hk.2⟩)⟩,⟨by first|exact Kd.R_nil _ _ _ _ _|exact Kd.N_nil _ _ _ _ _|exact Kd.V_nil _ _ _ _ _|exact Kd.Q_nil _ _ _ _ _|exact Kd.S_nil _ _ _ _ _⟩,⟨by (with_reducible repeat (first|apply ra_|apply rn_|apply rd_));exact rm_ HO386.out (fun _ hk => ⟨hk.2,(by simp [Value.ownBlock])⟩)⟩,⟨by (with_reducible repeat (first|refine kn_ ?_ _|refine kd_ ?_|refine ka_ ?_ _));exact BK379.out⟩,⟨by repeat (first|(with_reducible first|exact HB.out|apply ba_|apply bn_|apply bd_|refine bs_ ?_ GE379.out)|exact HB.out)⟩⟩
  case round =>
   clear H'
   try clear p2
   try clear c3
   try clear c4
   try clear hcz10_0
   try clear hcz10_1
   try clear hcz10_2
   try clear hcz10_3
   try clear hcz12_0
   try clear hcz12_1
   try clear hcz12_2
   try clear hcz12_3
   try clear hcz8_0
   try clear hcz8_1
   try clear hcz8_2
   try clear hcz8_3
   try clear hfz10_0
   try clear hfz10_1
   try clear hfz10_2
   try clear hfz10_3
   try clear hfz12_0
   try clear hfz12_1
   try clear hfz12_2
   try clear hfz12_3
   try clear hfz8_0
   try clear hfz8_1
   try clear hfz8_2
   try clear hfz8_3
   obtain ⟨x6_1,x24_1,rfl,HA,HK1,HO_5,HO_6,HO_22,BK379,HB⟩:=hrel
   cases gk with
   | zero => exact absurd HA.out (by simp [impl_FloodOver.l0])
   | succ k1 =>
    have H:=HA.out
    clear HA
    simp only [impl_FloodOver.l0] at H
    by_cases c15 : x24_1 < (t384.length : Int)
    ·rw [if_pos c15] at H
     have c15b0 : decide (x24_1 < (t384.length : Int)) = true:=decide_eq_true c15
     clear c15
     by_cases c16 : 0 ≤ x24_1
     ·rw [if_pos c16] at H
      have c16b0 : decide (0 ≤ x24_1) = true:=decide_eq_true c16
      clear c16
      by_cases c17 : x24_1 < (t384.length : Int)
      ·rw [if_pos c17] at H
       have c17b0 : decide (x24_1 < (t384.length : Int)) = true:=decide_eq_true c17
       clear c17
       by_cases c18 : 0 ≤ (rd t384 x24_1)
       ·rw [if_pos c18] at H
        have c18b0 : decide (0 ≤ (rd t384 x24_1)) = true:=decide_eq_true c18
        clear c18
        by_cases c19 : (rd t384 x24_1) < (l0_1.length : Int)
        ·rw [if_pos c19] at H
         have c19b0 : decide ((rd t384 x24_1) < (l0_1.length : Int)) = true:=decide_eq_true c19
         clear c19
         by_cases c20 : 0 ≤ ((rd_T51 l0_1 (rd t384 x24_1)).f0)
         ·rw [if_pos c20] at H
          have c20b0 : decide (0 ≤ ((rd_T51 l0_1 (rd t384 x24_1)).f0)) = true:=decide_eq_true c20
          clear c20
          by_cases c21 : ((rd_T51 l0_1 (rd t384 x24_1)).f0) < (t381.length : Int)
          ·rw [if_pos c21] at H
           have c21b0 : decide (((rd_T51 l0_1 (rd t384 x24_1)).f0) < (t381.length : Int)) = true:=decide_eq_true c21
           clear c21
           by_cases c22 : 0 ≤ a1
           ·rw [if_pos c22] at H
            have c22b0 : decide (0 ≤ a1) = true:=decide_eq_true c22
            clear c22
            by_cases c23 : a1 < (l0_2.length : Int)
            ·rw [if_pos c23] at H
             have c23b0 : decide (a1 < (l0_2.length : Int)) = true:=decide_eq_true c23
             clear c23
             by_cases c24 : 0 ≤ (rd l0_2 a1)
             ·rw [if_pos c24] at H
              have c24b0 : decide (0 ≤ (rd l0_2 a1)) = true:=decide_eq_true c24
              clear c24
              by_cases c25 : (rd l0_2 a1) < (t381.length : Int)
              ·rw [if_pos c25] at H
               have c25b0 : decide ((rd l0_2 a1) < (t381.length : Int)) = true:=decide_eq_true c25
               clear c25
               by_cases c26 : (rd t381 ((rd_T51 l0_1 (rd t384 x24_1)).f0)) = (rd t381 (rd l0_2 a1))
               ·rw [if_pos c26] at H
                have c26b0 : ((rd t381 ((rd_T51 l0_1 (rd t384 x24_1)).f0)) == (rd t381 (rd l0_2 a1))) = true:=beq_iff_eq.mpr c26
                have c26b1 : ((rd t381 ((rd_T51 l0_1 (rd t384 x24_1)).f0)) != (rd t381 (rd l0_2 a1))) = false:=bne_eq_false_iff_eq.mpr c26
                clear c26
                by_cases c27 : x6_1.length < 17592186044416
                ·rw [if_pos c27] at H
                 have LMc27:=mk_ c27
                 clear c27
                 obtain ⟨y392,hy392⟩ : ∃ y_ : List Int,y_ = (x6_1 ++ [rd t384 x24_1]):=⟨_,rfl⟩
                 replace H : (impl_FloodOver.l0 k1 a1 t381 y392 t384 (t384.length : Int) (wrap64 (x24_1 + 1)) a0_0 l0_1 l0_2 l0_3) = some r:=by first|(rw [hy392];with_reducible exact H)|(have H2_:=(Option.bind_some _ _).symm.trans H;rw [hy392];with_reducible exact H2_)|(have H2_:=(Option.bind_some _ _).symm.trans H;with_reducible exact H2_)|with_reducible exact H|(rw [hy392];exact H)|exact H
                 have Ny392:=mk_ hy392
                 clear hy392
                 have H':=mk_ H
                 clear H
                 have p387 : 0 ≤ (x24_1 : Int):=od_ (by first|(with_reducible assumption)|assumption)
                 have q387 : x24_1 < (t384.length : Int):=od_ (by first|(with_reducible assumption)|assumption)
                 obtain ⟨ad387,e387,hx387_0⟩:=Kd.at_int (rr_ HO_22.out).2.2 x24_1 p387 q387
                 cases e387
                 replace p387:=eq_true p387
                 replace q387:=eq_true q387
                 have hcz28_0 : wr.cell? ⟨gb379,0,none⟩ = some (.int .i64 a0_0):=(bc_ BK379.out 0).trans rfl
                 have hcz28_1 : wr.cell? ⟨gb379,1,none⟩ = some (.slice A0_1 l0_1.length c0_1):=(bc_ BK379.out 1).trans rfl
                 have hcz28_2 : wr.cell? ⟨gb379,2,none⟩ = some (.slice A0_2 l0_2.length c0_2):=(bc_ BK379.out 2).trans rfl
                 have hcz28_3 : wr.cell? ⟨gb379,3,none⟩ = some (.slice A0_3 l0_3.length c0_3):=(bc_ BK379.out 3).trans rfl
                 have hfz28_0:=bf_ BK379.out 0
                 have hfz28_1:=bf_ BK379.out 1
                 have hfz28_2:=bf_ BK379.out 2
                 have hfz28_3:=bf_ BK379.out 3
                 have p388 : 0 ≤ ((rd t384 x24_1) : Int):=od_ (by first|(with_reducible assumption)|assumption)
                 have q388 : (rd t384 x24_1) < (l0_1.length : Int):=od_ (by first|(with_reducible assumption)|assumption)
                 obtain ⟨ad388,e388,hx388_0,hx388_1,hx388_2⟩:=at_T51 HR0_1.out (rd t384 x24_1) p388 q388
                 cases e388
                 replace hx388_0:=(HB.out.cell (wl_ w _ hx388_0)).trans hx388_0
                 replace hx388_1:=(HB.out.cell (wl_ w _ hx388_1)).trans hx388_1
                 replace hx388_2:=(HB.out.cell (wl_ w _ hx388_2)).trans hx388_2
                 replace p388:=eq_true p388
                 replace q388:=eq_true q388
                 obtain ⟨Ao29,co29,eo29⟩:=Kd.R_slice HO_5.out
                 subst eo29
                 have p389 : 0 ≤ (((rd_T51 l0_1 (rd t384 x24_1)).f0) : Int):=od_ (by first|(with_reducible assumption)|assumption)
                 have q389 : ((rd_T51 l0_1 (rd t384 x24_1)).f0) < (t381.length : Int):=od_ (by first|(with_reducible assumption)|assumption)
                 obtain ⟨ad389,e389,hx389_0⟩:=Kd.at_int (rr_ HO_5.out).2.2 ((rd_T51 l0_1 (rd t384 x24_1)).f0) p389 q389
                 cases e389
                 replace p389:=eq_true p389
                 replace q389:=eq_true q389
                 have p390 : 0 ≤ (a1 : Int):=od_ (by first|(with_reducible assumption)|assumption)
                 have q390 : a1 < (l0_2.length : Int):=od_ (by first|(with_reducible assumption)|assumption)
                 obtain ⟨ad390,e390,hx390_0⟩:=Kd.at_int HR0_2.out a1 p390 q390
                 cases e390
                 replace hx390_0:=(HB.out.cell (wl_ w _ hx390_0)).trans hx390_0
                 replace p390:=eq_true p390
                 replace q390:=eq_true q390
                 have p391 : 0 ≤ ((rd l0_2 a1) : Int):=od_ (by first|(with_reducible assumption)|assumption)
                 have q391 : (rd l0_2 a1) < (t381.length : Int):=od_ (by first|(with_reducible assumption)|assumption)
                 obtain ⟨ad391,e391,hx391_0⟩:=Kd.at_int (rr_ HO_5.out).2.2 (rd l0_2 a1) p391 q391
                 obtain rfl : ad389 = ad391:=(by injection e391)
                 replace p391:=eq_true p391
                 replace q391:=eq_true q391
                 go_wp2_with (first|((with_reducible refine gate_builtin (b:=.append) (xs:=#[.tmp 46,.tmp 48]) rfl ?_);at_builtin;refine Kd.R_append (Kd.int .i64) (w0:=w) w.heap.size rfl (.tmp 46) (.tmp 48) 23 3 (.int .i64 0) 8 rfl Try.underlying23 info3 rfl (by decide) (by omega) u6 x6_1 (rd t384 x24_1) [.int .i64 (rd t384 x24_1)] (fun k_ => some k_ ≠ (.slice (some ad389) t381.length co29 : Value).ownBlock ∧ some k_ ≠ (.slice (some ad387) t384.length co14 : Value).ownBlock) (fun _ => False) rfl rfl ?aP (fun _ hk => hk.elim) ?aF ?aO ?aB ?aS ?aL ?_;(case aP => exact rfl);(case aB => exact (by repeat (first|(with_reducible first|exact HB.out|apply ba_|apply bn_|apply bd_|refine bs_ ?_ GE379.out)|exact HB.out)));(case aF => exact (fun k_ hk => ⟨Kd.fresh' (Kd.R_lt (by (with_reducible repeat (first|apply ra_|apply rn_|apply rd_));exact HO_5.out)) k_ hk,Kd.fresh' (Kd.R_lt (by (with_reducible repeat (first|apply ra_|apply rn_|apply rd_));exact HO_22.out)) k_ hk⟩));(case aO => exact (by (with_reducible repeat (first|apply ra_|apply rn_|apply rd_));exact HO_6.out));(case aS => exact (bz_ (by repeat (first|(with_reducible first|exact HB.out|apply ba_|apply bn_|apply bd_|refine bs_ ?_ GE379.out)|exact HB.out))));(case aL => have:=LMc27.out;omega);intro v393 w30 ho hb hg hat;rw [← Ny392.out] at ho;have n0_:=mk_ (Kd.R_after (ok:=(fun k_ => some k_ ≠ (.slice (some ad387) t384.length co14 : Value).ownBlock)) (by (with_reducible repeat (first|apply ra_|apply rn_|apply rd_));exact rm_ HO_5.out (fun _ hk => ⟨hk.2,hk.1⟩)) hg hat);have n1_:=mk_ (Kd.R_after (ok:=(fun k_ => some k_ ≠ (.slice (some ad389) t381.length co29 : Value).ownBlock)) (by (with_reducible repeat (first|apply ra_|apply rn_|apply rd_));exact HO_22.out) hg hat);have n2_:=mk_ (blk_grown (g:=gb379) (o:=.cells #[.int .i64 a0_0,.slice (some ad388) l0_1.length c0_1,.slice (some ad390) l0_2.length c0_2,.slice A0_3 l0_3.length c0_3] 30 (0,0)) (by (with_reducible repeat (first|refine kn_ ?_ _|refine kd_ ?_|refine ka_ ?_ _));exact BK379.out) hg (Kd.R_ne HO_6.out BK379.out (by decide)));have n3_:=mk_ (hb);have n4_:=mk_ (ho);clear HO_5;clear HO_22;clear BK379;clear HB;clear HO_6;have HO_5:=n0_;have HO_22:=n1_;have BK379:=n2_;have HB:=n3_;have HO394:=n4_;clear n0_ n1_ n2_ n3_ n4_;clear ho hb hg hat))
                 repeat (go_quiet (first|((with_reducible refine gate_builtin (b:=.append) (xs:=#[.tmp 46,.tmp 48]) rfl ?_);at_builtin;refine Kd.R_append (Kd.int .i64) (w0:=w) w.heap.size rfl (.tmp 46) (.tmp 48) 23 3 (.int .i64 0) 8 rfl Try.underlying23 info3 rfl (by decide) (by omega) u6 x6_1 (rd t384 x24_1) [.int .i64 (rd t384 x24_1)] (fun k_ => some k_ ≠ (.slice (some ad389) t381.length co29 : Value).ownBlock ∧ some k_ ≠ (.slice (some ad387) t384.length co14 : Value).ownBlock) (fun _ => False) rfl rfl ?aP (fun _ hk => hk.elim) ?aF ?aO ?aB ?aS ?aL ?_;(case aP => exact rfl);(case aB => exact (by repeat (first|(with_reducible first|exact HB.out|apply ba_|apply bn_|apply bd_|refine bs_ ?_ GE379.out)|exact HB.out)));(case aF => exact (fun k_ hk => ⟨Kd.fresh' (Kd.R_lt (by (with_reducible repeat (first|apply ra_|apply rn_|apply rd_));exact HO_5.out)) k_ hk,Kd.fresh' (Kd.R_lt (by (with_reducible repeat (first|apply ra_|apply rn_|apply rd_));exact HO_22.out)) k_ hk⟩));(case aO => exact (by (with_reducible repeat (first|apply ra_|apply rn_|apply rd_));exact HO_6.out));(case aS => exact (bz_ (by repeat (first|(with_reducible first|exact HB.out|apply ba_|apply bn_|apply bd_|refine bs_ ?_ GE379.out)|exact HB.out))));(case aL => have:=LMc27.out;omega);intro v393 w30 ho hb hg hat;rw [← Ny392.out] at ho;have n0_:=mk_ (Kd.R_after (ok:=(fun k_ => some k_ ≠ (.slice (some ad387) t384.length co14 : Value).ownBlock)) (by (with_reducible repeat (first|apply ra_|apply rn_|apply rd_));exact rm_ HO_5.out (fun _ hk => ⟨hk.2,hk.1⟩)) hg hat);have n1_:=mk_ (Kd.R_after (ok:=(fun k_ => some k_ ≠ (.slice (some ad389) t381.length co29 : Value).ownBlock)) (by (with_reducible repeat (first|apply ra_|apply rn_|apply rd_));exact HO_22.out) hg hat);have n2_:=mk_ (blk_grown (g:=gb379) (o:=.cells #[.int .i64 a0_0,.slice (some ad388) l0_1.length c0_1,.slice (some ad390) l0_2.length c0_2,.slice A0_3 l0_3.length c0_3] 30 (0,0)) (by (with_reducible repeat (first|refine kn_ ?_ _|refine kd_ ?_|refine ka_ ?_ _));exact BK379.out) hg (Kd.R_ne HO_6.out BK379.out (by decide)));have n3_:=mk_ (hb);have n4_:=mk_ (ho);clear HO_5;clear HO_22;clear BK379;clear HB;clear HO_6;have HO_5:=n0_;have HO_22:=n1_;have BK379:=n2_;have HB:=n3_;have HO394:=n4_;clear n0_ n1_ n2_ n3_ n4_;clear ho hb hg hat));try go_wp2_with (first|((with_reducible refine gate_builtin (b:=.append) (xs:=#[.tmp 46,.tmp 48]) rfl ?_);at_builtin;refine Kd.R_append (Kd.int .i64) (w0:=w) w.heap.size rfl (.tmp 46) (.tmp 48) 23 3 (.int .i64 0) 8 rfl Try.underlying23 info3 rfl (by decide) (by omega) u6 x6_1 (rd t384 x24_1) [.int .i64 (rd t384 x24_1)] (fun k_ => some k_ ≠ (.slice (some ad389) t381.length co29 : Value).ownBlock ∧ some k_ ≠ (.slice (some ad387) t384.length co14 : Value).ownBlock) (fun _ => False) rfl rfl ?aP (fun _ hk => hk.elim) ?aF ?aO ?aB ?aS ?aL ?_;(case aP => exact rfl);(case aB => exact (by repeat (first|(with_reducible first|exact HB.out|apply ba_|apply bn_|apply bd_|refine bs_ ?_ GE379.out)|exact HB.out)));(case aF => exact (fun k_ hk => ⟨Kd.fresh' (Kd.R_lt (by (with_reducible repeat (first|apply ra_|apply rn_|apply rd_));exact HO_5.out)) k_ hk,Kd.fresh' (Kd.R_lt (by (with_reducible repeat (first|apply ra_|apply rn_|apply rd_));exact HO_22.out)) k_ hk⟩));(case aO => exact (by (with_reducible repeat (first|apply ra_|apply rn_|apply rd_));exact HO_6.out));(case aS => exact (bz_ (by repeat (first|(with_reducible first|exact HB.out|apply ba_|apply bn_|apply bd_|refine bs_ ?_ GE379.out)|exact HB.out))));(case aL => have:=LMc27.out;omega);intro v393 w30 ho hb hg hat;rw [← Ny392.out] at ho;have n0_:=mk_ (Kd.R_after (ok:=(fun k_ => some k_ ≠ (.slice (some ad387) t384.length co14 : Value).ownBlock)) (by (with_reducible repeat (first|apply ra_|apply rn_|apply rd_));exact rm_ HO_5.out (fun _ hk => ⟨hk.2,hk.1⟩)) hg hat);have n1_:=mk_ (Kd.R_after (ok:=(fun k_ => some k_ ≠ (.slice (some ad389) t381.length co29 : Value).ownBlock)) (by (with_reducible repeat (first|apply ra_|apply rn_|apply rd_));exact HO_22.out) hg hat);have n2_:=mk_ (blk_grown (g:=gb379) (o:=.cells #[.int .i64 a0_0,.slice (some ad388) l0_1.length c0_1,.slice (some ad390) l0_2.length c0_2,.slice A0_3 l0_3.length c0_3] 30 (0,0)) (by (with_reducible repeat (first|refine kn_ ?_ _|refine kd_ ?_|refine ka_ ?_ _));exact BK379.out) hg (Kd.R_ne HO_6.out BK379.out (by decide)));have n3_:=mk_ (hb);have n4_:=mk_ (ho);clear HO_5;clear HO_22;clear BK379;clear HB;clear HO_6;have HO_5:=n0_;have HO_22:=n1_;have BK379:=n2_;have HB:=n3_;have HO394:=n4_;clear n0_ n1_ n2_ n3_ n4_;clear ho hb hg hat)))
                 go_roundg k1
                 case measure => have:=HK1.out;omega
                 case rel => exact ⟨(y392),(wrap64 (x24_1 + 1)),(by first|rfl|(simp;done)|(simp [*];done)),H',⟨by have:=HK1.out;omega⟩,⟨by (with_reducible repeat (first|apply ra_|apply rn_|apply rd_));exact rm_ HO_5.out (fun _ hk => ⟨hk.2,hk.1⟩)⟩,⟨by (with_reducible repeat (first|apply ra_|apply rn_|apply rd_));exact HO394.out⟩,⟨by (with_reducible repeat (first|apply ra_|apply rn_|apply rd_));exact HO_22.out⟩,⟨by (with_reducible repeat (first|refine kn_ ?_ _|refine kd_ ?_|refine ka_ ?_ _));exact BK379.out⟩,⟨by repeat (first|(with_reducible first|exact HB.out|apply ba_|apply bn_|apply bd_|refine bs_ ?_ GE379.out)|exact HB.out)⟩⟩
                ·rw [if_neg c27] at H
                 exact absurd H (by simp)
               ·rw [if_neg c26] at H
                have c26b0 : ((rd t381 ((rd_T51 l0_1 (rd t384 x24_1)).f0)) == (rd t381 (rd l0_2 a1))) = false:=beq_eq_false_iff_ne.mpr c26
                have c26b1 : ((rd t381 ((rd_T51 l0_1 (rd t384 x24_1)).f0)) != (rd t381 (rd l0_2 a1))) = true:=bne_iff_ne.mpr c26
                have H':=mk_ H
                clear H
                have p387 : 0 ≤ (x24_1 : Int):=od_ (by first|(with_reducible assumption)|assumption)
                have q387 : x24_1 < (t384.length : Int):=od_ (by first|(with_reducible assumption)|assumption)
                obtain ⟨ad387,e387,hx387_0⟩:=Kd.at_int (rr_ HO_22.out).2.2 x24_1 p387 q387
                cases e387
                replace p387:=eq_true p387
                replace q387:=eq_true q387
                have hcz31_0 : wr.cell? ⟨gb379,0,none⟩ = some (.int .i64 a0_0):=(bc_ BK379.out 0).trans rfl
                have hcz31_1 : wr.cell? ⟨gb379,1,none⟩ = some (.slice A0_1 l0_1.length c0_1):=(bc_ BK379.out 1).trans rfl
                have hcz31_2 : wr.cell? ⟨gb379,2,none⟩ = some (.slice A0_2 l0_2.length c0_2):=(bc_ BK379.out 2).trans rfl
                have hcz31_3 : wr.cell? ⟨gb379,3,none⟩ = some (.slice A0_3 l0_3.length c0_3):=(bc_ BK379.out 3).trans rfl
                have hfz31_0:=bf_ BK379.out 0
                have hfz31_1:=bf_ BK379.out 1
                have hfz31_2:=bf_ BK379.out 2
                have hfz31_3:=bf_ BK379.out 3
                have p388 : 0 ≤ ((rd t384 x24_1) : Int):=od_ (by first|(with_reducible assumption)|assumption)
                have q388 : (rd t384 x24_1) < (l0_1.length : Int):=od_ (by first|(with_reducible assumption)|assumption)
                obtain ⟨ad388,e388,hx388_0,hx388_1,hx388_2⟩:=at_T51 HR0_1.out (rd t384 x24_1) p388 q388
                cases e388
                replace hx388_0:=(HB.out.cell (wl_ w _ hx388_0)).trans hx388_0
                replace hx388_1:=(HB.out.cell (wl_ w _ hx388_1)).trans hx388_1
                replace hx388_2:=(HB.out.cell (wl_ w _ hx388_2)).trans hx388_2
                replace p388:=eq_true p388
                replace q388:=eq_true q388
                obtain ⟨Ao32,co32,eo32⟩:=Kd.R_slice HO_5.out
                subst eo32
                have p389 : 0 ≤ (((rd_T51 l0_1 (rd t384 x24_1)).f0) : Int):=od_ (by first|(with_reducible assumption)|assumption)
                have q389 : ((rd_T51 l0_1 (rd t384 x24_1)).f0) < (t381.length : Int):=od_ (by first|(with_reducible assumption)|assumption)
                obtain ⟨ad389,e389,hx389_0⟩:=Kd.at_int (rr_ HO_5.out).2.2 ((rd_T51 l0_1 (rd t384 x24_1)).f0) p389 q389
                cases e389
                replace p389:=eq_true p389
                replace q389:=eq_true q389
                have p390 : 0 ≤ (a1 : Int):=od_ (by first|(with_reducible assumption)|assumption)
                have q390 : a1 < (l0_2.length : Int):=od_ (by first|(with_reducible assumption)|assumption)
                obtain ⟨ad390,e390,hx390_0⟩:=Kd.at_int HR0_2.out a1 p390 q390
                cases e390
                replace hx390_0:=(HB.out.cell (wl_ w _ hx390_0)).trans hx390_0
                replace p390:=eq_true p390
                replace q390:=eq_true q390
                have p391 : 0 ≤ ((rd l0_2 a1) : Int):=od_ (by first|(with_reducible assumption)|assumption)
                have q391 : (rd l0_2 a1) < (t381.length : Int):=od_ (by first|(with_reducible assumption)|assumption)
                obtain ⟨ad391,e391,hx391_0⟩:=Kd.at_int (rr_ HO_5.out).2.2 (rd l0_2 a1) p391 q391
                obtain rfl : ad389 = ad391:=(by injection e391)
                replace p391:=eq_true p391
                replace q391:=eq_true q391
                go_wp2
                repeat (go_quiet (fail);try go_wp2)
                go_roundg k1
                case measure => have:=HK1.out;omega
                case rel => exact ⟨(x6_1),(wrap64 (x24_1 + 1)),(by first|rfl|(simp;done)|(simp [*];done)),H',⟨by have:=HK1.out;omega⟩,⟨by (with_reducible repeat (first|apply ra_|apply rn_|apply rd_));exact HO_5.out⟩,⟨by (with_reducible repeat (first|apply ra_|apply rn_|apply rd_));exact HO_6.out⟩,⟨by (with_reducible repeat (first|apply ra_|apply rn_|apply rd_));exact HO_22.out⟩,⟨by (with_reducible repeat (first|refine kn_ ?_ _|refine kd_ ?_|refine ka_ ?_ _));exact BK379.out⟩,⟨by repeat (first|(with_reducible first|exact HB.out|apply ba_|apply bn_|apply bd_|refine bs_ ?_ GE379.out)|exact HB.out)⟩⟩
              ·rw [if_neg c25] at H
               exact absurd H (by simp)
             ·rw [if_neg c24] at H
              exact absurd H (by simp)
            ·rw [if_neg c23] at H
             exact absurd H (by simp)
           ·rw [if_neg c22] at H
            exact absurd H (by simp)
          ·rw [if_neg c21] at H
           exact absurd H (by simp)
         ·rw [if_neg c20] at H
          exact absurd H (by simp)
        ·rw [if_neg c19] at H
         exact absurd H (by simp)
       ·rw [if_neg c18] at H
        exact absurd H (by simp)
      ·rw [if_neg c17] at H
       exact absurd H (by simp)
     ·rw [if_neg c16] at H
      exact absurd H (by simp)
    ·rw [if_neg c15] at H
     have c15b0 : decide (x24_1 < (t384.length : Int)) = false:=decide_eq_false c15
     clear c15
     obtain rfl:=Option.some.inj H
     go_wp2
     repeat (go_quiet (fail);try go_wp2)
     go_ret
     exact ⟨_,by first|rfl|(simp [errW_none,errW_some] <;> rfl)|(simp [*,errW_none,errW_some] <;> rfl),by (with_reducible repeat (first|apply ra_|apply rn_|apply rd_));exact rm_ HO_6.out (fun _ hk => trivial),by repeat (first|(with_reducible first|exact HB.out|apply ba_|apply bn_|apply bd_|refine bs_ ?_ GE379.out)|exact HB.out)⟩
 ·replace c4:=Bool.eq_false_iff.mpr c4
  subst c4
  have H1 : (some ([] : List Int)) = some r:=by rw [if_neg (show ¬ (false = true) by decide)] at H;exact H
  clear H
  have H:=H1
  clear H1
  obtain rfl:=Option.some.inj H
  go_enter Try.func32,Try.ntmps32
  go_wp2_with (first|((with_reducible refine gate_dst (N:=2) rfl ?_);refine box_event ?hg (N:=2) ?hd (cs:=#[.int .i64 a0_0,.slice A0_1 l0_1.length c0_1,.slice A0_2 l0_2.length c0_2,.slice A0_3 l0_3.length c0_3]) (t:=30) ?hr ?_;(case hd => rfl);(case hg => rfl);(case hr => first|(go_simp;done)|(go_simp;rfl));intro gb379 hg w33 hbox hb;have n0_:=mk_ (st_ (by repeat (first|(with_reducible first|exact HB.out|apply ba_|apply bn_|apply bd_)|exact HB.out)) hb);have n1_:=mk_ (hbox);have n2_:=mk_ ((by rw [hg];exact (bz_ (by repeat (first|(with_reducible first|exact HB.out|apply ba_|apply bn_|apply bd_)|exact HB.out))) : w.heap.size ≤ gb379));have n3_:=mk_ ((by rw [hg];exact (bz_ (by repeat (first|(with_reducible first|exact HB.out|apply ba_|apply bn_|apply bd_)|exact HB.out))) : w.heap.size ≤ gb379));clear HB;have HB:=n0_;have BK379:=n1_;have GW379:=n2_;have GE379:=n3_;clear n0_ n1_ n2_ n3_;clear hb hbox hg;have hcz34_0 : w33.cell? ⟨gb379,0,none⟩ = some (.int .i64 a0_0):=(bc_ BK379.out 0).trans rfl;have hcz34_1 : w33.cell? ⟨gb379,1,none⟩ = some (.slice A0_1 l0_1.length c0_1):=(bc_ BK379.out 1).trans rfl;have hcz34_2 : w33.cell? ⟨gb379,2,none⟩ = some (.slice A0_2 l0_2.length c0_2):=(bc_ BK379.out 2).trans rfl;have hcz34_3 : w33.cell? ⟨gb379,3,none⟩ = some (.slice A0_3 l0_3.length c0_3):=(bc_ BK379.out 3).trans rfl;have hfz34_0:=bf_ BK379.out 0;have hfz34_1:=bf_ BK379.out 1;have hfz34_2:=bf_ BK379.out 2;have hfz34_3:=bf_ BK379.out 3)|(go_at_call 54;(with_reducible refine (impl_Net_station.calls a0_0 _ _ l0_1 _ _ l0_2 _ _ l0_3 a1 false _ ?side1 ?side2 ?side3 ?side4 ?side5 ?side6 A3.out).mono ?_);(case side1 => repeat (first|exact (cb_ HR0_1.out HB.out)|(with_reducible refine ca_ ?_ _)|(with_reducible refine cn_ ?_ _)|(with_reducible refine cd_ ?_)));(case side2 => exact HC0_1.out);(case side3 => repeat (first|exact (cb_ HR0_2.out HB.out)|(with_reducible refine ca_ ?_ _)|(with_reducible refine cn_ ?_ _)|(with_reducible refine cd_ ?_)));(case side4 => exact HC0_2.out);(case side5 => repeat (first|exact (cb_ HR0_3.out HB.out)|(with_reducible refine ca_ ?_ _)|(with_reducible refine cn_ ?_ _)|(with_reducible refine cd_ ?_)));(case side6 => exact HC0_3.out);rintro e w35 ⟨rfl,hb⟩;have n0_:=mk_ (blk_below (g:=gb379) (o:=.cells #[.int .i64 a0_0,.slice A0_1 l0_1.length c0_1,.slice A0_2 l0_2.length c0_2,.slice A0_3 l0_3.length c0_3] 30 (0,0)) (by (with_reducible repeat (first|refine kn_ ?_ _|refine kd_ ?_|refine ka_ ?_ _));exact BK379.out) hb);have n1_:=mk_ (st_ (by repeat (first|(with_reducible first|exact HB.out|apply ba_|apply bn_|apply bd_|refine bs_ ?_ GE379.out)|exact HB.out)) hb);clear BK379;clear HB;have BK379:=n0_;have HB:=n1_;clear n0_ n1_;(try clear hb);(try clear hb2);(try clear hk);(try clear hi)))
  repeat (go_quiet (first|((with_reducible refine gate_dst (N:=2) rfl ?_);refine box_event ?hg (N:=2) ?hd (cs:=#[.int .i64 a0_0,.slice A0_1 l0_1.length c0_1,.slice A0_2 l0_2.length c0_2,.slice A0_3 l0_3.length c0_3]) (t:=30) ?hr ?_;(case hd => rfl);(case hg => rfl);(case hr => first|(go_simp;done)|(go_simp;rfl));intro gb379 hg w33 hbox hb;have n0_:=mk_ (st_ (by repeat (first|(with_reducible first|exact HB.out|apply ba_|apply bn_|apply bd_)|exact HB.out)) hb);have n1_:=mk_ (hbox);have n2_:=mk_ ((by rw [hg];exact (bz_ (by repeat (first|(with_reducible first|exact HB.out|apply ba_|apply bn_|apply bd_)|exact HB.out))) : w.heap.size ≤ gb379));have n3_:=mk_ ((by rw [hg];exact (bz_ (by repeat (first|(with_reducible first|exact HB.out|apply ba_|apply bn_|apply bd_)|exact HB.out))) : w.heap.size ≤ gb379));clear HB;have HB:=n0_;have BK379:=n1_;have GW379:=n2_;have GE379:=n3_;clear n0_ n1_ n2_ n3_;clear hb hbox hg;have hcz34_0 : w33.cell? ⟨gb379,0,none⟩ = some (.int .i64 a0_0):=(bc_ BK379.out 0).trans rfl;have hcz34_1 : w33.cell? ⟨gb379,1,none⟩ = some (.slice A0_1 l0_1.length c0_1):=(bc_ BK379.out 1).trans rfl;have hcz34_2 : w33.cell? ⟨gb379,2,none⟩ = some (.slice A0_2 l0_2.length c0_2):=(bc_ BK379.out 2).trans rfl;have hcz34_3 : w33.cell? ⟨gb379,3,none⟩ = some (.slice A0_3 l0_3.length c0_3):=(bc_ BK379.out 3).trans rfl;have hfz34_0:=bf_ BK379.out 0;have hfz34_1:=bf_ BK379.out 1;have hfz34_2:=bf_ BK379.out 2;have hfz34_3:=bf_ BK379.out 3)|(go_at_call 54;(with_reducible refine (impl_Net_station.calls a0_0 _ _ l0_1 _ _ l0_2 _ _ l0_3 a1 false _ ?side1 ?side2 ?side3 ?side4 ?side5 ?side6 A3.out).mono ?_);(case side1 => repeat (first|exact (cb_ HR0_1.out HB.out)|(with_reducible refine ca_ ?_ _)|(with_reducible refine cn_ ?_ _)|(with_reducible refine cd_ ?_)));(case side2 => exact HC0_1.out);(case side3 => repeat (first|exact (cb_ HR0_2.out HB.out)|(with_reducible refine ca_ ?_ _)|(with_reducible refine cn_ ?_ _)|(with_reducible refine cd_ ?_)));(case side4 => exact HC0_2.out);(case side5 => repeat (first|exact (cb_ HR0_3.out HB.out)|(with_reducible refine ca_ ?_ _)|(with_reducible refine cn_ ?_ _)|(with_reducible refine cd_ ?_)));(case side6 => exact HC0_3.out);rintro e w35 ⟨rfl,hb⟩;have n0_:=mk_ (blk_below (g:=gb379) (o:=.cells #[.int .i64 a0_0,.slice A0_1 l0_1.length c0_1,.slice A0_2 l0_2.length c0_2,.slice A0_3 l0_3.length c0_3] 30 (0,0)) (by (with_reducible repeat (first|refine kn_ ?_ _|refine kd_ ?_|refine ka_ ?_ _));exact BK379.out) hb);have n1_:=mk_ (st_ (by repeat (first|(with_reducible first|exact HB.out|apply ba_|apply bn_|apply bd_|refine bs_ ?_ GE379.out)|exact HB.out)) hb);clear BK379;clear HB;have BK379:=n0_;have HB:=n1_;clear n0_ n1_;(try clear hb);(try clear hb2);(try clear hk);(try clear hi)));try go_wp2_with (first|((with_reducible refine gate_dst (N:=2) rfl ?_);refine box_event ?hg (N:=2) ?hd (cs:=#[.int .i64 a0_0,.slice A0_1 l0_1.length c0_1,.slice A0_2 l0_2.length c0_2,.slice A0_3 l0_3.length c0_3]) (t:=30) ?hr ?_;(case hd => rfl);(case hg => rfl);(case hr => first|(go_simp;done)|(go_simp;rfl));intro gb379 hg w33 hbox hb;have n0_:=mk_ (st_ (by repeat (first|(with_reducible first|exact HB.out|apply ba_|apply bn_|apply bd_)|exact HB.out)) hb);have n1_:=mk_ (hbox);have n2_:=mk_ ((by rw [hg];exact (bz_ (by repeat (first|(with_reducible first|exact HB.out|apply ba_|apply bn_|apply bd_)|exact HB.out))) : w.heap.size ≤ gb379));have n3_:=mk_ ((by rw [hg];exact (bz_ (by repeat (first|(with_reducible first|exact HB.out|apply ba_|apply bn_|apply bd_)|exact HB.out))) : w.heap.size ≤ gb379));clear HB;have HB:=n0_;have BK379:=n1_;have GW379:=n2_;have GE379:=n3_;clear n0_ n1_ n2_ n3_;clear hb hbox hg;have hcz34_0 : w33.cell? ⟨gb379,0,none⟩ = some (.int .i64 a0_0):=(bc_ BK379.out 0).trans rfl;have hcz34_1 : w33.cell? ⟨gb379,1,none⟩ = some (.slice A0_1 l0_1.length c0_1):=(bc_ BK379.out 1).trans rfl;have hcz34_2 : w33.cell? ⟨gb379,2,none⟩ = some (.slice A0_2 l0_2.length c0_2):=(bc_ BK379.out 2).trans rfl;have hcz34_3 : w33.cell? ⟨gb379,3,none⟩ = some (.slice A0_3 l0_3.length c0_3):=(bc_ BK379.out 3).trans rfl;have hfz34_0:=bf_ BK379.out 0;have hfz34_1:=bf_ BK379.out 1;have hfz34_2:=bf_ BK379.out 2;have hfz34_3:=bf_ BK379.out 3)|(go_at_call 54;(with_reducible refine (impl_Net_station.calls a0_0 _ _ l0_1 _ _ l0_2 _ _ l0_3 a1 false _ ?side1 ?side2 ?side3 ?side4 ?side5 ?side6 A3.out).mono ?_);(case side1 => repeat (first|exact (cb_ HR0_1.out HB.out)|(with_reducible refine ca_ ?_ _)|(with_reducible refine cn_ ?_ _)|(with_reducible refine cd_ ?_)));(case side2 => exact HC0_1.out);(case side3 => repeat (first|exact (cb_ HR0_2.out HB.out)|(with_reducible refine ca_ ?_ _)|(with_reducible refine cn_ ?_ _)|(with_reducible refine cd_ ?_)));(case side4 => exact HC0_2.out);(case side5 => repeat (first|exact (cb_ HR0_3.out HB.out)|(with_reducible refine ca_ ?_ _)|(with_reducible refine cn_ ?_ _)|(with_reducible refine cd_ ?_)));(case side6 => exact HC0_3.out);rintro e w35 ⟨rfl,hb⟩;have n0_:=mk_ (blk_below (g:=gb379) (o:=.cells #[.int .i64 a0_0,.slice A0_1 l0_1.length c0_1,.slice A0_2 l0_2.length c0_2,.slice A0_3 l0_3.length c0_3] 30 (0,0)) (by (with_reducible repeat (first|refine kn_ ?_ _|refine kd_ ?_|refine ka_ ?_ _));exact BK379.out) hb);have n1_:=mk_ (st_ (by repeat (first|(with_reducible first|exact HB.out|apply ba_|apply bn_|apply bd_|refine bs_ ?_ GE379.out)|exact HB.out)) hb);clear BK379;clear HB;have BK379:=n0_;have HB:=n1_;clear n0_ n1_;(try clear hb);(try clear hb2);(try clear hk);(try clear hi))))
  go_ret
  exact ⟨_,by first|rfl|(simp [errW_none,errW_some] <;> rfl)|(simp [*,errW_none,errW_some] <;> rfl),by first|exact Kd.R_nil _ _ _ _ _|exact Kd.N_nil _ _ _ _ _|exact Kd.V_nil _ _ _ _ _|exact Kd.Q_nil _ _ _ _ _|exact Kd.S_nil _ _ _ _ _,by repeat (first|(with_reducible first|exact HB.out|apply ba_|apply bn_|apply bd_|refine bs_ ?_ GE379.out)|exact HB.out)⟩

/-! ### spec_l1In: function 40 -/
def spec_l1In.f (a0 : Int) (a1 : Int) (a2 : Int) : Option (Bool):=if a0 ≥ a1 then (some (decide (a0 ≤ a2))) else (some false)
set_option maxHeartbeats 8000000 in
set_option maxRecDepth 100000 in
theorem spec_l1In.calls (a0 : Int) (a1 : Int) (a2 : Int) (r : Bool) (w : World) (h : spec_l1In.f a0 a1 a2 = some r) :
  Calls Try.prog 40 #[.int .i64 a0,.int .i64 a1,.int .i64 a2] w fun e w' => e = .returned (.bool r) ∧ Drawn0 w w':=by
 have H : (if a0 ≥ a1 then (some (decide (a0 ≤ a2))) else (some false)) = some r:=h
 clear h
 by_cases c4 : a0 ≥ a1
 ·rw [if_pos c4] at H
  have c4b0 : decide (a1 ≤ a0) = true:=decide_eq_true c4
  clear c4
  obtain rfl:=Option.some.inj H
  go_enter Try.func40,Try.ntmps40
  go_wp2
  go_ret
  exact ⟨by first|rfl|(simp;done)|(simp [*];done),by repeat (first|exact Drawn0.refl _|apply Drawn0.step)⟩
 ·rw [if_neg c4] at H
  have c4b0 : decide (a1 ≤ a0) = false:=decide_eq_false c4
  clear c4
  obtain rfl:=Option.some.inj H
  go_enter Try.func40,Try.ntmps40
  go_wp2
  go_ret
  exact ⟨by first|rfl|(simp;done)|(simp [*];done),by repeat (first|exact Drawn0.refl _|apply Drawn0.step)⟩

/-! ### spec_l10Vlan: function 41 -/
def spec_l10Vlan.f (a0 : Int) : Option (Bool):=(spec_l1In.f a0 1 9).bind fun t395 => (some t395)
set_option maxHeartbeats 8000000 in
set_option maxRecDepth 100000 in
theorem spec_l10Vlan.calls (a0 : Int) (r : Bool) (w : World) (h : spec_l10Vlan.f a0 = some r) :
  Calls Try.prog 41 #[.int .i64 a0] w fun e w' => e = .returned (.bool r) ∧ Drawn0 w w':=by
 have H : ((spec_l1In.f a0 1 9).bind fun t395 => (some t395)) = some r:=h
 clear h
 replace H:=Option.bind_eq_some_iff.mp H
 obtain ⟨t395,A20,H⟩:=H
 replace H : (some t395) = some r:=H
 have A2:=mk_ A20
 clear A20
 obtain rfl:=Option.some.inj H
 go_enter Try.func41,Try.ntmps41
 go_wp2_with (first|((with_reducible refine gate_callee (f:=40) rfl ?_);refine goesL_ (some 4) rfl rfl Try.func40 (by kernel_rfl) rfl #[.int .i64 a0,.int .i64 1,.int .i64 9] rfl (by (try simp only [List.map_toArray,List.map_cons,List.map_nil]);first|done|rfl|(simp only [List.length_drop,List.length_take];rfl)) ?_;(with_reducible refine (spec_l1In.calls a0 1 9 t395 _ A2.out).mono ?_);rintro e w' ⟨rfl,⟨nd,rfl⟩⟩;refine ⟨_,rfl,?_⟩))
 go_ret
 exact ⟨by first|rfl|(simp;done)|(simp [*];done),by repeat (first|exact Drawn0.refl _|apply Drawn0.step)⟩

/-! ### spec_CablesValid: function 42 -/
mutual
def spec_CablesValid.j0 : Nat → Int → List (S51) → Bool → Option (Bool)
 | 0,_,_,_ => none
 | k + 1,x0,x1,x14 => if x14 = true then (some false) else (spec_CablesValid.l0 k x0 x1 0)
def spec_CablesValid.l0 : Nat → Int → List (S51) → Int → Option (Bool)
 | 0,_,_,_ => none
 | k + 1,x0,x1,x5 => if x5 < (x1.length : Int) then (if 0 ≤ x5 then ((spec_l1In.f ((rd_T51 x1 x5).f0) 0 (wrap64 (x0 - 1))).bind fun t399 => (if t399 = true then ((spec_l1In.f ((rd_T51 x1 x5).f1) 0 (wrap64 (x0 - 1))).bind fun t400 => (if t400 = true then (if ((rd_T51 x1 x5).f0) = ((rd_T51 x1 x5).f1) then (some false) else ((spec_l1In.f ((rd_T51 x1 x5).f2) 1 99).bind fun t401 => (if t401 = true then (spec_CablesValid.l0 k x0 x1 (wrap64 (x5 + 1))) else (some false)))) else (some false))) else (some false))) else (none)) else (some true)
end
def spec_CablesValid.f (k : Nat) (a0 : Int) (l1 : List (S51)) : Option (Bool):=(spec_l1In.f a0 1 8).bind fun t396 => (if t396 = true then (spec_CablesValid.j0 k a0 l1 (decide ((l1.length : Int) > 20))) else (spec_CablesValid.j0 k a0 l1 true))
theorem spec_CablesValid.mono_l : ∀ k,(∀ y0 y1 y2,LeO (spec_CablesValid.j0 k y0 y1 y2) (spec_CablesValid.j0 (k + 1) y0 y1 y2)) ∧ (∀ y0 y1 y2,LeO (spec_CablesValid.l0 k y0 y1 y2) (spec_CablesValid.l0 (k + 1) y0 y1 y2))
 | 0 => ⟨fun _ _ _ r h => by simp [spec_CablesValid.j0] at h,fun _ _ _ r h => by simp [spec_CablesValid.l0] at h⟩
 | k + 1 => by
  obtain ⟨ih0,ih1⟩:=spec_CablesValid.mono_l k
  refine ⟨?_,?_⟩
  ·intro y0 y1 y2
   unfold spec_CablesValid.j0
   repeat' first
   | (with_reducible exact ih0 _ _ _)
   | (with_reducible exact ih1 _ _ _)
   | (with_reducible exact LeO.refl _)
   | (with_reducible exact LeO.none _)
   | (with_reducible refine LeO.ite ?_ ?_)
   | (with_reducible refine LeO.bind ?_ (fun _ => ?_))
   | exact ih0 _ _ _
   | exact ih1 _ _ _
   | exact LeO.none _
   | refine LeO.ite ?_ ?_
   | refine LeO.bind ?_ (fun _ => ?_)
  ·intro y0 y1 y2
   unfold spec_CablesValid.l0
   repeat' first
   | (with_reducible exact ih0 _ _ _)
   | (with_reducible exact ih1 _ _ _)
   | (with_reducible exact LeO.refl _)
   | (with_reducible exact LeO.none _)
   | (with_reducible refine LeO.ite ?_ ?_)
   | (with_reducible refine LeO.bind ?_ (fun _ => ?_))
   | exact ih0 _ _ _
   | exact ih1 _ _ _
   | exact LeO.none _
   | refine LeO.ite ?_ ?_
   | refine LeO.bind ?_ (fun _ => ?_)
theorem spec_CablesValid.mono : ∀ a0 a1 k,LeO (spec_CablesValid.f k a0 a1) (spec_CablesValid.f (k + 1) a0 a1):=by
 intro a0 a1 k
 obtain ⟨ih0,ih1⟩:=spec_CablesValid.mono_l k
 unfold spec_CablesValid.f
 repeat' first
   | (with_reducible exact ih0 _ _ _)
   | (with_reducible exact ih1 _ _ _)
   | (with_reducible exact LeO.refl _)
   | (with_reducible exact LeO.none _)
   | (with_reducible refine LeO.ite ?_ ?_)
   | (with_reducible refine LeO.bind ?_ (fun _ => ?_))
   | exact ih0 _ _ _
   | exact ih1 _ _ _
   | exact LeO.none _
   | refine LeO.ite ?_ ?_
   | refine LeO.bind ?_ (fun _ => ?_)
set_option maxHeartbeats 8000000 in
set_option maxRecDepth 100000 in
theorem spec_CablesValid.calls (k : Nat) (a0 : Int) (A1 : Option Addr) (c1 : Nat) (l1 : List (S51)) (r : Bool) (w : World) (hr1 : Kd.C k51 w A1 l1.length l1) (hc1 : l1.length ≤ c1) (h : spec_CablesValid.f k a0 l1 = some r) :
  Calls Try.prog 42 #[.int .i64 a0,.slice A1 l1.length c1] w fun e w' => e = .returned (.bool r) ∧ Below w.heap.size w w':=by
 have hu51:=Try.underlying51
 have HR1:=mk_ hr1
 have HC1:=mk_ hc1
 clear hr1 hc1
 have HB:=mk_ (Below.refl w.heap.size w)
 have H : ((spec_l1In.f a0 1 8).bind fun t396 => (if t396 = true then (spec_CablesValid.j0 k a0 l1 (decide ((l1.length : Int) > 20))) else (spec_CablesValid.j0 k a0 l1 true))) = some r:=h
 clear h
 have HC3:=mk_ H
 clear H
 go_enter Try.func42,Try.ntmps42
 go_upto_region 1 with (fail)
 go_cut [14] (fun v14 wc => ∃ (kq : Nat) (x14_2 : Bool),v14 = .bool x14_2 ∧ Aside0 (spec_CablesValid.j0 kq a0 l1 x14_2 = some r) ∧ Aside0 (kq ≤ k) ∧ Aside0 (Below w.heap.size w wc))
 case first =>
  have H:=HC3.out
  clear HC3
  replace H:=Option.bind_eq_some_iff.mp H
  obtain ⟨t396,A40,H⟩:=H
  replace H : (if t396 = true then (spec_CablesValid.j0 k a0 l1 (decide ((l1.length : Int) > 20))) else (spec_CablesValid.j0 k a0 l1 true)) = some r:=H
  have A4:=mk_ A40
  clear A40
  by_cases c5 : t396 = true
  ·subst c5
   have H1 : (spec_CablesValid.j0 k a0 l1 (decide ((l1.length : Int) > 20))) = some r:=by rw [if_pos rfl] at H;exact H
   clear H
   have H:=H1
   clear H1
   have H':=mk_ H
   clear H
   go_wp2_with (first|((with_reducible refine gate_callee (f:=40) rfl ?_);refine goesL_ (some 8) rfl rfl Try.func40 (by kernel_rfl) rfl #[.int .i64 a0,.int .i64 1,.int .i64 8] rfl (by (try simp only [List.map_toArray,List.map_cons,List.map_nil]);first|done|rfl|(simp only [List.length_drop,List.length_take];rfl)) ?_;(with_reducible refine (spec_l1In.calls a0 1 8 true _ A4.out).mono ?_);rintro e w' ⟨rfl,⟨nd,rfl⟩⟩;refine ⟨_,rfl,?_⟩))
   go_meet
   case rel => exact ⟨_,(decide ((l1.length : Int) > 20)),(by first|rfl|(simp;done)|(simp [*];done)),H',⟨by first|omega|exact Nat.le_refl _⟩,⟨by repeat (first|(with_reducible first|exact HB.out|apply ba_|apply bn_|apply bd_)|exact HB.out)⟩⟩
  ·replace c5:=Bool.eq_false_iff.mpr c5
   subst c5
   have H1 : (spec_CablesValid.j0 k a0 l1 true) = some r:=by rw [if_neg (show ¬ (false = true) by decide)] at H;exact H
   clear H
   have H:=H1
   clear H1
   have H':=mk_ H
   clear H
   go_wp2_with (first|((with_reducible refine gate_callee (f:=40) rfl ?_);refine goesL_ (some 8) rfl rfl Try.func40 (by kernel_rfl) rfl #[.int .i64 a0,.int .i64 1,.int .i64 8] rfl (by (try simp only [List.map_toArray,List.map_cons,List.map_nil]);first|done|rfl|(simp only [List.length_drop,List.length_take];rfl)) ?_;(with_reducible refine (spec_l1In.calls a0 1 8 false _ A4.out).mono ?_);rintro e w' ⟨rfl,⟨nd,rfl⟩⟩;refine ⟨_,rfl,?_⟩))
   go_meet
   case rel => exact ⟨_,(true),(by first|rfl|(simp;done)|(simp [*];done)),H',⟨by first|omega|exact Nat.le_refl _⟩,⟨by repeat (first|(with_reducible first|exact HB.out|apply ba_|apply bn_|apply bd_)|exact HB.out)⟩⟩
 case rest =>
  clear HC3
  try clear c1
  try clear p2
  try clear c4
  try clear c5
  obtain ⟨kq,x14_2,rfl,HA,HJ2,HB⟩:=hcut
  cases kq with
  | zero => exact absurd HA.out (by simp [spec_CablesValid.j0])
  | succ kj2 =>
   have H:=HA.out
   clear HA
   simp only [spec_CablesValid.j0] at H
   by_cases c6 : x14_2 = true
   ·subst c6
    have H1 : (some false) = some r:=by rw [if_pos rfl] at H;exact H
    clear H
    have H:=H1
    clear H1
    obtain rfl:=Option.some.inj H
    go_wp2
    go_ret
    exact ⟨by first|rfl|(simp [errW_none,errW_some] <;> rfl)|(simp [*,errW_none,errW_some] <;> rfl),by repeat (first|(with_reducible first|exact HB.out|apply ba_|apply bn_|apply bd_)|exact HB.out)⟩
   ·replace c6:=Bool.eq_false_iff.mpr c6
    subst c6
    have H1 : (spec_CablesValid.l0 kj2 a0 l1 0) = some r:=by rw [if_neg (show ¬ (false = true) by decide)] at H;exact H
    clear H
    have H:=H1
    clear H1
    have H':=mk_ H
    clear H
    go_wp2
    go_loopg [5] kj2 (fun kq v5 w' => ∃ (x5_2 : Int),v5 = .int .i64 x5_2 ∧ Aside0 (spec_CablesValid.l0 kq a0 l1 x5_2 = some r) ∧ Aside0 (kq ≤ kj2) ∧ Aside0 (Below w.heap.size w w'))
    case atStart => exact ⟨(0),(by first|rfl|(simp;done)|(simp [*];done)),H',⟨Nat.le_refl _⟩,⟨by repeat (first|(with_reducible first|exact HB.out|apply ba_|apply bn_|apply bd_)|exact HB.out)⟩⟩
    case round =>
     clear H'
     try clear c1
     try clear p2
     try clear c4
     try clear c5
     try clear c6
     try clear p2
     obtain ⟨x5_2,rfl,HA,HK2,HB⟩:=hrel
     cases gk with
     | zero => exact absurd HA.out (by simp [spec_CablesValid.l0])
     | succ k2 =>
      have H:=HA.out
      clear HA
      simp only [spec_CablesValid.l0] at H
      by_cases c7 : x5_2 < (l1.length : Int)
      ·rw [if_pos c7] at H
       have c7b0 : decide (x5_2 < (l1.length : Int)) = true:=decide_eq_true c7
       clear c7
       by_cases c8 : 0 ≤ x5_2
       ·rw [if_pos c8] at H
        have c8b0 : decide (0 ≤ x5_2) = true:=decide_eq_true c8
        clear c8
        replace H:=Option.bind_eq_some_iff.mp H
        obtain ⟨t399,A90,H⟩:=H
        replace H : (if t399 = true then ((spec_l1In.f ((rd_T51 l1 x5_2).f1) 0 (wrap64 (a0 - 1))).bind fun t400 => (if t400 = true then (if ((rd_T51 l1 x5_2).f0) = ((rd_T51 l1 x5_2).f1) then (some false) else ((spec_l1In.f ((rd_T51 l1 x5_2).f2) 1 99).bind fun t401 => (if t401 = true then (spec_CablesValid.l0 k2 a0 l1 (wrap64 (x5_2 + 1))) else (some false)))) else (some false))) else (some false)) = some r:=H
        have A9:=mk_ A90
        clear A90
        by_cases c10 : t399 = true
        ·subst c10
         have H1 : ((spec_l1In.f ((rd_T51 l1 x5_2).f1) 0 (wrap64 (a0 - 1))).bind fun t400 => (if t400 = true then (if ((rd_T51 l1 x5_2).f0) = ((rd_T51 l1 x5_2).f1) then (some false) else ((spec_l1In.f ((rd_T51 l1 x5_2).f2) 1 99).bind fun t401 => (if t401 = true then (spec_CablesValid.l0 k2 a0 l1 (wrap64 (x5_2 + 1))) else (some false)))) else (some false))) = some r:=by rw [if_pos rfl] at H;exact H
         clear H
         have H:=H1
         clear H1
         replace H:=Option.bind_eq_some_iff.mp H
         obtain ⟨t400,A110,H⟩:=H
         replace H : (if t400 = true then (if ((rd_T51 l1 x5_2).f0) = ((rd_T51 l1 x5_2).f1) then (some false) else ((spec_l1In.f ((rd_T51 l1 x5_2).f2) 1 99).bind fun t401 => (if t401 = true then (spec_CablesValid.l0 k2 a0 l1 (wrap64 (x5_2 + 1))) else (some false)))) else (some false)) = some r:=H
         have A11:=mk_ A110
         clear A110
         by_cases c12 : t400 = true
         ·subst c12
          have H1 : (if ((rd_T51 l1 x5_2).f0) = ((rd_T51 l1 x5_2).f1) then (some false) else ((spec_l1In.f ((rd_T51 l1 x5_2).f2) 1 99).bind fun t401 => (if t401 = true then (spec_CablesValid.l0 k2 a0 l1 (wrap64 (x5_2 + 1))) else (some false)))) = some r:=by rw [if_pos rfl] at H;exact H
          clear H
          have H:=H1
          clear H1
          by_cases c13 : ((rd_T51 l1 x5_2).f0) = ((rd_T51 l1 x5_2).f1)
          ·rw [if_pos c13] at H
           have c13b0 : (((rd_T51 l1 x5_2).f0) == ((rd_T51 l1 x5_2).f1)) = true:=beq_iff_eq.mpr c13
           have c13b1 : (((rd_T51 l1 x5_2).f0) != ((rd_T51 l1 x5_2).f1)) = false:=bne_eq_false_iff_eq.mpr c13
           clear c13
           obtain rfl:=Option.some.inj H
           have p397 : 0 ≤ (x5_2 : Int):=od_ (by first|(with_reducible assumption)|assumption)
           have q397 : x5_2 < (l1.length : Int):=od_ (by first|(with_reducible assumption)|assumption)
           obtain ⟨ad397,e397,hx397_0,hx397_1,hx397_2⟩:=at_T51 HR1.out x5_2 p397 q397
           cases e397
           replace hx397_0:=(HB.out.cell (wl_ w _ hx397_0)).trans hx397_0
           replace hx397_1:=(HB.out.cell (wl_ w _ hx397_1)).trans hx397_1
           replace hx397_2:=(HB.out.cell (wl_ w _ hx397_2)).trans hx397_2
           replace p397:=eq_true p397
           replace q397:=eq_true q397
           go_wp2_with (first|((with_reducible refine gate_dst (N:=6) rfl ?_);(try (refine gate_guard (by rfl) ?_;dsimp only));refine box_event ?hg (N:=6) ?hd (cs:=#[.int .i64 0,.int .i64 0,.int .i64 0]) (t:=51) ?hr ?_;(case hd => rfl);(case hg => rfl);(case hr => first|(go_simp;done)|(go_simp;rfl));intro gb398 hg w14 hbox hb;have n0_:=mk_ (st_ (by repeat (first|(with_reducible first|exact HB.out|apply ba_|apply bn_|apply bd_)|exact HB.out)) hb);have n1_:=mk_ (hbox);have n2_:=mk_ ((by rw [hg];exact (bz_ (by repeat (first|(with_reducible first|exact HB.out|apply ba_|apply bn_|apply bd_)|exact HB.out))) : w.heap.size ≤ gb398));have n3_:=mk_ ((by rw [hg];exact (bz_ (by repeat (first|(with_reducible first|exact HB.out|apply ba_|apply bn_|apply bd_)|exact HB.out))) : w.heap.size ≤ gb398));clear HB;have HB:=n0_;have BK398:=n1_;have GW398:=n2_;have GE398:=n3_;clear n0_ n1_ n2_ n3_;clear hb hbox hg;have hcz15_0 : w14.cell? ⟨gb398,0,none⟩ = some (.int .i64 0):=(bc_ BK398.out 0).trans rfl;have hcz15_1 : w14.cell? ⟨gb398,1,none⟩ = some (.int .i64 0):=(bc_ BK398.out 1).trans rfl;have hcz15_2 : w14.cell? ⟨gb398,2,none⟩ = some (.int .i64 0):=(bc_ BK398.out 2).trans rfl;have hfz15_0:=bf_ BK398.out 0;have hfz15_1:=bf_ BK398.out 1;have hfz15_2:=bf_ BK398.out 2)|((with_reducible refine gate_callee (f:=40) rfl ?_);refine goesL_ (some 29) rfl rfl Try.func40 (by kernel_rfl) rfl #[.int .i64 ((rd_T51 l1 x5_2).f0),.int .i64 0,.int .i64 (wrap64 (a0 - 1))] rfl (by (try simp only [List.map_toArray,List.map_cons,List.map_nil]);first|done|rfl|(simp only [List.length_drop,List.length_take];rfl)) ?_;(with_reducible refine (spec_l1In.calls ((rd_T51 l1 x5_2).f0) 0 (wrap64 (a0 - 1)) true _ A9.out).mono ?_);rintro e w' ⟨rfl,⟨nd,rfl⟩⟩;refine ⟨_,rfl,?_⟩)|(go_at_call 40;(with_reducible refine (spec_l1In.calls ((rd_T51 l1 x5_2).f1) 0 (wrap64 (a0 - 1)) true _ A11.out).mono ?_);rintro e w' ⟨rfl,⟨nd,rfl⟩⟩))
           go_ret
           exact ⟨by first|rfl|(simp [errW_none,errW_some] <;> rfl)|(simp [*,errW_none,errW_some] <;> rfl),by repeat (first|(with_reducible first|exact HB.out|apply ba_|apply bn_|apply bd_|refine bs_ ?_ GE398.out)|exact HB.out)⟩
          ·rw [if_neg c13] at H
           have c13b0 : (((rd_T51 l1 x5_2).f0) == ((rd_T51 l1 x5_2).f1)) = false:=beq_eq_false_iff_ne.mpr c13
           have c13b1 : (((rd_T51 l1 x5_2).f0) != ((rd_T51 l1 x5_2).f1)) = true:=bne_iff_ne.mpr c13
           replace H:=Option.bind_eq_some_iff.mp H
           obtain ⟨t401,A160,H⟩:=H
           replace H : (if t401 = true then (spec_CablesValid.l0 k2 a0 l1 (wrap64 (x5_2 + 1))) else (some false)) = some r:=H
           have A16:=mk_ A160
           clear A160
           by_cases c17 : t401 = true
           ·subst c17
            have H1 : (spec_CablesValid.l0 k2 a0 l1 (wrap64 (x5_2 + 1))) = some r:=by rw [if_pos rfl] at H;exact H
            clear H
            have H:=H1
            clear H1
            have H':=mk_ H
            clear H
            have p397 : 0 ≤ (x5_2 : Int):=od_ (by first|(with_reducible assumption)|assumption)
            have q397 : x5_2 < (l1.length : Int):=od_ (by first|(with_reducible assumption)|assumption)
            obtain ⟨ad397,e397,hx397_0,hx397_1,hx397_2⟩:=at_T51 HR1.out x5_2 p397 q397
            cases e397
            replace hx397_0:=(HB.out.cell (wl_ w _ hx397_0)).trans hx397_0
            replace hx397_1:=(HB.out.cell (wl_ w _ hx397_1)).trans hx397_1
            replace hx397_2:=(HB.out.cell (wl_ w _ hx397_2)).trans hx397_2
            replace p397:=eq_true p397
            replace q397:=eq_true q397
            go_wp2_with (first|((with_reducible refine gate_dst (N:=6) rfl ?_);(try (refine gate_guard (by rfl) ?_;dsimp only));refine box_event ?hg (N:=6) ?hd (cs:=#[.int .i64 0,.int .i64 0,.int .i64 0]) (t:=51) ?hr ?_;(case hd => rfl);(case hg => rfl);(case hr => first|(go_simp;done)|(go_simp;rfl));intro gb398 hg w18 hbox hb;have n0_:=mk_ (st_ (by repeat (first|(with_reducible first|exact HB.out|apply ba_|apply bn_|apply bd_)|exact HB.out)) hb);have n1_:=mk_ (hbox);have n2_:=mk_ ((by rw [hg];exact (bz_ (by repeat (first|(with_reducible first|exact HB.out|apply ba_|apply bn_|apply bd_)|exact HB.out))) : w.heap.size ≤ gb398));have n3_:=mk_ ((by rw [hg];exact (bz_ (by repeat (first|(with_reducible first|exact HB.out|apply ba_|apply bn_|apply bd_)|exact HB.out))) : w.heap.size ≤ gb398));clear HB;have HB:=n0_;have BK398:=n1_;have GW398:=n2_;have GE398:=n3_;clear n0_ n1_ n2_ n3_;clear hb hbox hg;have hcz19_0 : w18.cell? ⟨gb398,0,none⟩ = some (.int .i64 0):=(bc_ BK398.out 0).trans rfl;have hcz19_1 : w18.cell? ⟨gb398,1,none⟩ = some (.int .i64 0):=(bc_ BK398.out 1).trans rfl;have hcz19_2 : w18.cell? ⟨gb398,2,none⟩ = some (.int .i64 0):=(bc_ BK398.out 2).trans rfl;have hfz19_0:=bf_ BK398.out 0;have hfz19_1:=bf_ BK398.out 1;have hfz19_2:=bf_ BK398.out 2)|((with_reducible refine gate_callee (f:=40) rfl ?_);refine goesL_ (some 29) rfl rfl Try.func40 (by kernel_rfl) rfl #[.int .i64 ((rd_T51 l1 x5_2).f0),.int .i64 0,.int .i64 (wrap64 (a0 - 1))] rfl (by (try simp only [List.map_toArray,List.map_cons,List.map_nil]);first|done|rfl|(simp only [List.length_drop,List.length_take];rfl)) ?_;(with_reducible refine (spec_l1In.calls ((rd_T51 l1 x5_2).f0) 0 (wrap64 (a0 - 1)) true _ A9.out).mono ?_);rintro e w' ⟨rfl,⟨nd,rfl⟩⟩;refine ⟨_,rfl,?_⟩)|(go_at_call 40;(with_reducible refine (spec_l1In.calls ((rd_T51 l1 x5_2).f1) 0 (wrap64 (a0 - 1)) true _ A11.out).mono ?_);rintro e w' ⟨rfl,⟨nd,rfl⟩⟩)|(go_at_call 40;(with_reducible refine (spec_l1In.calls ((rd_T51 l1 x5_2).f2) 1 99 true _ A16.out).mono ?_);rintro e w' ⟨rfl,⟨nd,rfl⟩⟩))
            go_roundg k2
            case measure => have:=HJ2.out;have:=HK2.out;omega
            case rel => exact ⟨(wrap64 (x5_2 + 1)),(by first|rfl|(simp;done)|(simp [*];done)),H',⟨by have:=HJ2.out;have:=HK2.out;omega⟩,⟨by repeat (first|(with_reducible first|exact HB.out|apply ba_|apply bn_|apply bd_|refine bs_ ?_ GE398.out)|exact HB.out)⟩⟩
           ·replace c17:=Bool.eq_false_iff.mpr c17
            subst c17
            have H1 : (some false) = some r:=by rw [if_neg (show ¬ (false = true) by decide)] at H;exact H
            clear H
            have H:=H1
            clear H1
            obtain rfl:=Option.some.inj H
            have p397 : 0 ≤ (x5_2 : Int):=od_ (by first|(with_reducible assumption)|assumption)
            have q397 : x5_2 < (l1.length : Int):=od_ (by first|(with_reducible assumption)|assumption)
            obtain ⟨ad397,e397,hx397_0,hx397_1,hx397_2⟩:=at_T51 HR1.out x5_2 p397 q397
            cases e397
            replace hx397_0:=(HB.out.cell (wl_ w _ hx397_0)).trans hx397_0
            replace hx397_1:=(HB.out.cell (wl_ w _ hx397_1)).trans hx397_1
            replace hx397_2:=(HB.out.cell (wl_ w _ hx397_2)).trans hx397_2
            replace p397:=eq_true p397
            replace q397:=eq_true q397
            go_wp2_with (first|((with_reducible refine gate_dst (N:=6) rfl ?_);(try (refine gate_guard (by rfl) ?_;dsimp only));refine box_event ?hg (N:=6) ?hd (cs:=#[.int .i64 0,.int .i64 0,.int .i64 0]) (t:=51) ?hr ?_;(case hd => rfl);(case hg => rfl);(case hr => first|(go_simp;done)|(go_simp;rfl));intro gb398 hg w20 hbox hb;have n0_:=mk_ (st_ (by repeat (first|(with_reducible first|exact HB.out|apply ba_|apply bn_|apply bd_)|exact HB.out)) hb);have n1_:=mk_ (hbox);have n2_:=mk_ ((by rw [hg];exact (bz_ (by repeat (first|(with_reducible first|exact HB.out|apply ba_|apply bn_|apply bd_)|exact HB.out))) : w.heap.size ≤ gb398));have n3_:=mk_ ((by rw [hg];exact (bz_ (by repeat (first|(with_reducible first|exact HB.out|apply ba_|apply bn_|apply bd_)|exact HB.out))) : w.heap.size ≤ gb398));clear HB;have HB:=n0_;have BK398:=n1_;have GW398:=n2_;have GE398:=n3_;clear n0_ n1_ n2_ n3_;clear hb hbox hg;have hcz21_0 : w20.cell? ⟨gb398,0,none⟩ = some (.int .i64 0):=(bc_ BK398.out 0).trans rfl;have hcz21_1 : w20.cell? ⟨gb398,1,none⟩ = some (.int .i64 0):=(bc_ BK398.out 1).trans rfl;have hcz21_2 : w20.cell? ⟨gb398,2,none⟩ = some (.int .i64 0):=(bc_ BK398.out 2).trans rfl;have hfz21_0:=bf_ BK398.out 0;have hfz21_1:=bf_ BK398.out 1;have hfz21_2:=bf_ BK398.out 2)|((with_reducible refine gate_callee (f:=40) rfl ?_);refine goesL_ (some 29) rfl rfl Try.func40 (by kernel_rfl) rfl #[.int .i64 ((rd_T51 l1 x5_2).f0),.int .i64 0,.int .i64 (wrap64 (a0 - 1))] rfl (by (try simp only [List.map_toArray,List.map_cons,List.map_nil]);first|done|rfl|(simp only [List.length_drop,List.length_take];rfl)) ?_;(with_reducible refine (spec_l1In.calls ((rd_T51 l1 x5_2).f0) 0 (wrap64 (a0 - 1)) true _ A9.out).mono ?_);rintro e w' ⟨rfl,⟨nd,rfl⟩⟩;refine ⟨_,rfl,?_⟩)|(go_at_call 40;(with_reducible refine (spec_l1In.calls ((rd_T51 l1 x5_2).f1) 0 (wrap64 (a0 - 1)) true _ A11.out).mono ?_);rintro e w' ⟨rfl,⟨nd,rfl⟩⟩)|(go_at_call 40;(with_reducible refine (spec_l1In.calls ((rd_T51 l1 x5_2).f2) 1 99 false _ A16.out).mono ?_);rintro e w' ⟨rfl,⟨nd,rfl⟩⟩))
            go_ret
            exact ⟨by first|rfl|(simp [errW_none,errW_some] <;> rfl)|(simp [*,errW_none,errW_some] <;> rfl),by repeat (first|(with_reducible first|exact HB.out|apply ba_|apply bn_|apply bd_|refine bs_ ?_ GE398.out)|exact HB.out)⟩
         ·replace c12:=Bool.eq_false_iff.mpr c12
          subst c12
          have H1 : (some false) = some r:=by rw [if_neg (show ¬ (false = true) by decide)] at H;exact H
          clear H
          have H:=H1
          clear H1
          obtain rfl:=Option.some.inj H
          have p397 : 0 ≤ (x5_2 : Int):=od_ (by first|(with_reducible assumption)|assumption)
          have q397 : x5_2 < (l1.length : Int):=od_ (by first|(with_reducible assumption)|assumption)
          obtain ⟨ad397,e397,hx397_0,hx397_1,hx397_2⟩:=at_T51 HR1.out x5_2 p397 q397
          cases e397
          replace hx397_0:=(HB.out.cell (wl_ w _ hx397_0)).trans hx397_0
          replace hx397_1:=(HB.out.cell (wl_ w _ hx397_1)).trans hx397_1
          replace hx397_2:=(HB.out.cell (wl_ w _ hx397_2)).trans hx397_2
          replace p397:=eq_true p397
          replace q397:=eq_true q397
          go_wp2_with (first|((with_reducible refine gate_dst (N:=6) rfl ?_);(try (refine gate_guard (by rfl) ?_;dsimp only));refine box_event ?hg (N:=6) ?hd (cs:=#[.int .i64 0,.int .i64 0,.int .i64 0]) (t:=51) ?hr ?_;(case hd => rfl);(case hg => rfl);(case hr => first|(go_simp;done)|(go_simp;rfl));intro gb398 hg w22 hbox hb;have n0_:=mk_ (st_ (by repeat (first|(with_reducible first|exact HB.out|apply ba_|apply bn_|apply bd_)|exact HB.out)) hb);have n1_:=mk_ (hbox);have n2_:=mk_ ((by rw [hg];exact (bz_ (by repeat (first|(with_reducible first|exact HB.out|apply ba_|apply bn_|apply bd_)|exact HB.out))) : w.heap.size ≤ gb398));have n3_:=mk_ ((by rw [hg];exact (bz_ (by repeat (first|(with_reducible first|exact HB.out|apply ba_|apply bn_|apply bd_)|exact HB.out))) : w.heap.size ≤ gb398));clear HB;have HB:=n0_;have BK398:=n1_;have GW398:=n2_;have GE398:=n3_;clear n0_ n1_ n2_ n3_;clear hb hbox hg;have hcz23_0 : w22.cell? ⟨gb398,0,none⟩ = some (.int .i64 0):=(bc_ BK398.out 0).trans rfl;have hcz23_1 : w22.cell? ⟨gb398,1,none⟩ = some (.int .i64 0):=(bc_ BK398.out 1).trans rfl;have hcz23_2 : w22.cell? ⟨gb398,2,none⟩ = some (.int .i64 0):=(bc_ BK398.out 2).trans rfl;have hfz23_0:=bf_ BK398.out 0;have hfz23_1:=bf_ BK398.out 1;have hfz23_2:=bf_ BK398.out 2)|((with_reducible refine gate_callee (f:=40) rfl ?_);refine goesL_ (some 29) rfl rfl Try.func40 (by kernel_rfl) rfl #[.int .i64 ((rd_T51 l1 x5_2).f0),.int .i64 0,.int .i64 (wrap64 (a0 - 1))] rfl (by (try simp only [List.map_toArray,List.map_cons,List.map_nil]);first|done|rfl|(simp only [List.length_drop,List.length_take];rfl)) ?_;(with_reducible refine (spec_l1In.calls ((rd_T51 l1 x5_2).f0) 0 (wrap64 (a0 - 1)) true _ A9.out).mono ?_);rintro e w' ⟨rfl,⟨nd,rfl⟩⟩;refine ⟨_,rfl,?_⟩)|(go_at_call 40;(with_reducible refine (spec_l1In.calls ((rd_T51 l1 x5_2).f1) 0 (wrap64 (a0 - 1)) false _ A11.out).mono ?_);rintro e w' ⟨rfl,⟨nd,rfl⟩⟩))
          go_ret
          exact ⟨by first|rfl|(simp [errW_none,errW_some] <;> rfl)|(simp [*,errW_none,errW_some] <;> rfl),by repeat (first|(with_reducible first|exact HB.out|apply ba_|apply bn_|apply bd_|refine bs_ ?_ GE398.out)|exact HB.out)⟩
        ·replace c10:=Bool.eq_false_iff.mpr c10
         subst c10
         have H1 : (some false) = some r:=by rw [if_neg (show ¬ (false = true) by decide)] at H;exact H
         clear H
         have H:=H1
         clear H1
         obtain rfl:=Option.some.inj H
         have p397 : 0 ≤ (x5_2 : Int):=od_ (by first|(with_reducible assumption)|assumption)
         have q397 : x5_2 < (l1.length : Int):=od_ (by first|(with_reducible assumption)|assumption)
         obtain ⟨ad397,e397,hx397_0,hx397_1,hx397_2⟩:=at_T51 HR1.out x5_2 p397 q397
         cases e397
         replace hx397_0:=(HB.out.cell (wl_ w _ hx397_0)).trans hx397_0
         replace hx397_1:=(HB.out.cell (wl_ w _ hx397_1)).trans hx397_1
         replace hx397_2:=(HB.out.cell (wl_ w _ hx397_2)).trans hx397_2
         replace p397:=eq_true p397
         replace q397:=eq_true q397
         go_wp2_with (first|((with_reducible refine gate_dst (N:=6) rfl ?_);(try (refine gate_guard (by rfl) ?_;dsimp only));refine box_event ?hg (N:=6) ?hd (cs:=#[.int .i64 0,.int .i64 0,.int .i64 0]) (t:=51) ?hr ?_;(case hd => rfl);(case hg => rfl);(case hr => first|(go_simp;done)|(go_simp;rfl));intro gb398 hg w24 hbox hb;have n0_:=mk_ (st_ (by repeat (first|(with_reducible first|exact HB.out|apply ba_|apply bn_|apply bd_)|exact HB.out)) hb);have n1_:=mk_ (hbox);have n2_:=mk_ ((by rw [hg];exact (bz_ (by repeat (first|(with_reducible first|exact HB.out|apply ba_|apply bn_|apply bd_)|exact HB.out))) : w.heap.size ≤ gb398));have n3_:=mk_ ((by rw [hg];exact (bz_ (by repeat (first|(with_reducible first|exact HB.out|apply ba_|apply bn_|apply bd_)|exact HB.out))) : w.heap.size ≤ gb398));clear HB;have HB:=n0_;have BK398:=n1_;have GW398:=n2_;have GE398:=n3_;clear n0_ n1_ n2_ n3_;clear hb hbox hg;have hcz25_0 : w24.cell? ⟨gb398,0,none⟩ = some (.int .i64 0):=(bc_ BK398.out 0).trans rfl;have hcz25_1 : w24.cell? ⟨gb398,1,none⟩ = some (.int .i64 0):=(bc_ BK398.out 1).trans rfl;have hcz25_2 : w24.cell? ⟨gb398,2,none⟩ = some (.int .i64 0):=(bc_ BK398.out 2).trans rfl;have hfz25_0:=bf_ BK398.out 0;have hfz25_1:=bf_ BK398.out 1;have hfz25_2:=bf_ BK398.out 2)|((with_reducible refine gate_callee (f:=40) rfl ?_);refine goesL_ (some 29) rfl rfl Try.func40 (by kernel_rfl) rfl #[.int .i64 ((rd_T51 l1 x5_2).f0),.int .i64 0,.int .i64 (wrap64 (a0 - 1))] rfl (by (try simp only [List.map_toArray,List.map_cons,List.map_nil]);first|done|rfl|(simp only [List.length_drop,List.length_take];rfl)) ?_;(with_reducible refine (spec_l1In.calls ((rd_T51 l1 x5_2).f0) 0 (wrap64 (a0 - 1)) false _ A9.out).mono ?_);rintro e w' ⟨rfl,⟨nd,rfl⟩⟩;refine ⟨_,rfl,?_⟩))
         go_ret
         exact ⟨by first|rfl|(simp [errW_none,errW_some] <;> rfl)|(simp [*,errW_none,errW_some] <;> rfl),by repeat (first|(with_reducible first|exact HB.out|apply ba_|apply bn_|apply bd_|refine bs_ ?_ GE398.out)|exact HB.out)⟩
       ·rw [if_neg c8] at H
        exact absurd H (by simp)
      ·rw [if_neg c7] at H
       have c7b0 : decide (x5_2 < (l1.length : Int)) = false:=decide_eq_false c7
       clear c7
       obtain rfl:=Option.some.inj H
       go_wp2
       go_ret
       exact ⟨by first|rfl|(simp [errW_none,errW_some] <;> rfl)|(simp [*,errW_none,errW_some] <;> rfl),by repeat (first|(with_reducible first|exact HB.out|apply ba_|apply bn_|apply bd_)|exact HB.out)⟩

/-! ### spec_NetValid: function 13 -/
mutual
def spec_NetValid.l0 : Nat → Int → Int → List (S51) → List Int → List Int → Option (Bool)
 | 0,_,_,_,_,_ => none
 | k + 1,x3,x403000,x403001,x403002,x403003 => if x3 < (x403002.length : Int) then (if 0 ≤ x3 then ((spec_l1In.f (rd x403002 x3) 0 (wrap64 (x403000 - 1))).bind fun t404 => (if t404 = true then (spec_NetValid.l0 k (wrap64 (x3 + 1)) x403000 x403001 x403002 x403003) else (some false))) else (none)) else (spec_NetValid.l1 k 0 x403000 x403001 x403002 x403003)
def spec_NetValid.l1 : Nat → Int → Int → List (S51) → List Int → List Int → Option (Bool)
 | 0,_,_,_,_,_ => none
 | k + 1,x4,x403000,x403001,x403002,x403003 => if x4 < (x403003.length : Int) then (if 0 ≤ x4 then ((spec_l10Vlan.f (rd x403003 x4)).bind fun t406 => (if t406 = true then (spec_NetValid.l1 k (wrap64 (x4 + 1)) x403000 x403001 x403002 x403003) else (some false))) else (none)) else ((spec_CablesValid.f k x403000 x403001).bind fun t407 => (if t407 = true then (if (x403002.length : Int) = (x403003.length : Int) then (some (decide ((x403002.length : Int) ≤ 15))) else (some false)) else (some false)))
end
def spec_NetValid.f (k : Nat) (a0_0 : Int) (l0_1 : List (S51)) (l0_2 : List Int) (l0_3 : List Int) : Option (Bool):=spec_NetValid.l0 k 0 a0_0 l0_1 l0_2 l0_3
theorem spec_NetValid.mono_l : ∀ k,(∀ y0 y1 y2 y3 y4,LeO (spec_NetValid.l0 k y0 y1 y2 y3 y4) (spec_NetValid.l0 (k + 1) y0 y1 y2 y3 y4)) ∧ (∀ y0 y1 y2 y3 y4,LeO (spec_NetValid.l1 k y0 y1 y2 y3 y4) (spec_NetValid.l1 (k + 1) y0 y1 y2 y3 y4))
 | 0 => ⟨fun _ _ _ _ _ r h => by simp [spec_NetValid.l0] at h,fun _ _ _ _ _ r h => by simp [spec_NetValid.l1] at h⟩
 | k + 1 => by
  obtain ⟨ih0,ih1⟩:=spec_NetValid.mono_l k
  refine ⟨?_,?_⟩
  ·intro y0 y1 y2 y3 y4
   unfold spec_NetValid.l0
   repeat' first
   | (with_reducible exact ih0 _ _ _ _ _)
   | (with_reducible exact ih1 _ _ _ _ _)
   | (with_reducible exact spec_CablesValid.mono _ _ _)
   | (with_reducible exact LeO.refl _)
   | (with_reducible exact LeO.none _)
   | (with_reducible refine LeO.ite ?_ ?_)
   | (with_reducible refine LeO.bind ?_ (fun _ => ?_))
   | exact ih0 _ _ _ _ _
   | exact ih1 _ _ _ _ _
   | exact spec_CablesValid.mono _ _ _
   | exact LeO.none _
   | refine LeO.ite ?_ ?_
   | refine LeO.bind ?_ (fun _ => ?_)
  ·intro y0 y1 y2 y3 y4
   unfold spec_NetValid.l1
   repeat' first
   | (with_reducible exact ih0 _ _ _ _ _)
   | (with_reducible exact ih1 _ _ _ _ _)
   | (with_reducible exact spec_CablesValid.mono _ _ _)
   | (with_reducible exact LeO.refl _)
   | (with_reducible exact LeO.none _)
   | (with_reducible refine LeO.ite ?_ ?_)
   | (with_reducible refine LeO.bind ?_ (fun _ => ?_))
   | exact ih0 _ _ _ _ _
   | exact ih1 _ _ _ _ _
   | exact spec_CablesValid.mono _ _ _
   | exact LeO.none _
   | refine LeO.ite ?_ ?_
   | refine LeO.bind ?_ (fun _ => ?_)
theorem spec_NetValid.mono : ∀ a0 a1 a2 a3 k,LeO (spec_NetValid.f k a0 a1 a2 a3) (spec_NetValid.f (k + 1) a0 a1 a2 a3):=by
 intro a0 a1 a2 a3 k
 obtain ⟨ih0,ih1⟩:=spec_NetValid.mono_l k
 unfold spec_NetValid.f
 repeat' first
   | (with_reducible exact ih0 _ _ _ _ _)
   | (with_reducible exact ih1 _ _ _ _ _)
   | (with_reducible exact spec_CablesValid.mono _ _ _)
   | (with_reducible exact LeO.refl _)
   | (with_reducible exact LeO.none _)
   | (with_reducible refine LeO.ite ?_ ?_)
   | (with_reducible refine LeO.bind ?_ (fun _ => ?_))
   | exact ih0 _ _ _ _ _
   | exact ih1 _ _ _ _ _
   | exact spec_CablesValid.mono _ _ _
   | exact LeO.none _
   | refine LeO.ite ?_ ?_
   | refine LeO.bind ?_ (fun _ => ?_)
set_option maxHeartbeats 8000000 in
set_option maxRecDepth 100000 in
theorem spec_NetValid.calls (k : Nat) (a0_0 : Int) (A0_1 : Option Addr) (c0_1 : Nat) (l0_1 : List (S51)) (A0_2 : Option Addr) (c0_2 : Nat) (l0_2 : List Int) (A0_3 : Option Addr) (c0_3 : Nat) (l0_3 : List Int) (r : Bool) (w : World) (hr0_1 : Kd.C k51 w A0_1 l0_1.length l0_1) (hc0_1 : l0_1.length ≤ c0_1) (hr0_2 : Kd.C (Kd.int .i64) w A0_2 l0_2.length l0_2) (hc0_2 : l0_2.length ≤ c0_2) (hr0_3 : Kd.C (Kd.int .i64) w A0_3 l0_3.length l0_3) (hc0_3 : l0_3.length ≤ c0_3) (h : spec_NetValid.f k a0_0 l0_1 l0_2 l0_3 = some r) :
  Calls Try.prog 13 #[.agg #[.int .i64 a0_0,.slice A0_1 l0_1.length c0_1,.slice A0_2 l0_2.length c0_2,.slice A0_3 l0_3.length c0_3]] w fun e w' => e = .returned (.bool r) ∧ Below w.heap.size w w':=by
 have hu30:=Try.underlying30
 have HR0_1:=mk_ hr0_1
 have HC0_1:=mk_ hc0_1
 clear hr0_1 hc0_1
 have HR0_2:=mk_ hr0_2
 have HC0_2:=mk_ hc0_2
 clear hr0_2 hc0_2
 have HR0_3:=mk_ hr0_3
 have HC0_3:=mk_ hc0_3
 clear hr0_3 hc0_3
 have HB:=mk_ (Below.refl w.heap.size w)
 have H : (spec_NetValid.l0 k 0 a0_0 l0_1 l0_2 l0_3) = some r:=h
 clear h
 have H':=mk_ H
 clear H
 go_enter Try.func13,Try.ntmps13
 go_wp2_with (first|((with_reducible refine gate_dst (N:=1) rfl ?_);(try (refine gate_guard (by rfl) ?_;dsimp only));refine box_event ?hg (N:=1) ?hd (cs:=#[.int .i64 a0_0,.slice A0_1 l0_1.length c0_1,.slice A0_2 l0_2.length c0_2,.slice A0_3 l0_3.length c0_3]) (t:=30) ?hr ?_;(case hd => rfl);(case hg => rfl);(case hr => first|(go_simp;done)|(go_simp;rfl));intro gb402 hg w2 hbox hb;have n0_:=mk_ (st_ (by repeat (first|(with_reducible first|exact HB.out|apply ba_|apply bn_|apply bd_)|exact HB.out)) hb);have n1_:=mk_ (hbox);have n2_:=mk_ ((by rw [hg];exact (bz_ (by repeat (first|(with_reducible first|exact HB.out|apply ba_|apply bn_|apply bd_)|exact HB.out))) : w.heap.size ≤ gb402));have n3_:=mk_ ((by rw [hg];exact (bz_ (by repeat (first|(with_reducible first|exact HB.out|apply ba_|apply bn_|apply bd_)|exact HB.out))) : w.heap.size ≤ gb402));clear HB;have HB:=n0_;have BK402:=n1_;have GW402:=n2_;have GE402:=n3_;clear n0_ n1_ n2_ n3_;clear hb hbox hg))
 repeat (go_quiet (first|((with_reducible refine gate_dst (N:=1) rfl ?_);(try (refine gate_guard (by rfl) ?_;dsimp only));refine box_event ?hg (N:=1) ?hd (cs:=#[.int .i64 a0_0,.slice A0_1 l0_1.length c0_1,.slice A0_2 l0_2.length c0_2,.slice A0_3 l0_3.length c0_3]) (t:=30) ?hr ?_;(case hd => rfl);(case hg => rfl);(case hr => first|(go_simp;done)|(go_simp;rfl));intro gb402 hg w2 hbox hb;have n0_:=mk_ (st_ (by repeat (first|(with_reducible first|exact HB.out|apply ba_|apply bn_|apply bd_)|exact HB.out)) hb);have n1_:=mk_ (hbox);have n2_:=mk_ ((by rw [hg];exact (bz_ (by repeat (first|(with_reducible first|exact HB.out|apply ba_|apply bn_|apply bd_)|exact HB.out))) : w.heap.size ≤ gb402));have n3_:=mk_ ((by rw [hg];exact (bz_ (by repeat (first|(with_reducible first|exact HB.out|apply ba_|apply bn_|apply bd_)|exact HB.out))) : w.heap.size ≤ gb402));clear HB;have HB:=n0_;have BK402:=n1_;have GW402:=n2_;have GE402:=n3_;clear n0_ n1_ n2_ n3_;clear hb hbox hg));try go_wp2_with (first|((with_reducible refine gate_dst (N:=1) rfl ?_);(try (refine gate_guard (by rfl) ?_;dsimp only));refine box_event ?hg (N:=1) ?hd (cs:=#[.int .i64 a0_0,.slice A0_1 l0_1.length c0_1,.slice A0_2 l0_2.length c0_2,.slice A0_3 l0_3.length c0_3]) (t:=30) ?hr ?_;(case hd => rfl);(case hg => rfl);(case hr => first|(go_simp;done)|(go_simp;rfl));intro gb402 hg w2 hbox hb;have n0_:=mk_ (st_ (by repeat (first|(with_reducible first|exact HB.out|apply ba_|apply bn_|apply bd_)|exact HB.out)) hb);have n1_:=mk_ (hbox);have n2_:=mk_ ((by rw [hg];exact (bz_ (by repeat (first|(with_reducible first|exact HB.out|apply ba_|apply bn_|apply bd_)|exact HB.out))) : w.heap.size ≤ gb402));have n3_:=mk_ ((by rw [hg];exact (bz_ (by repeat (first|(with_reducible first|exact HB.out|apply ba_|apply bn_|apply bd_)|exact HB.out))) : w.heap.size ≤ gb402));clear HB;have HB:=n0_;have BK402:=n1_;have GW402:=n2_;have GE402:=n3_;clear n0_ n1_ n2_ n3_;clear hb hbox hg)))
 go_loopg [3] k (fun kq v3 w' => ∃ (x3_1 : Int),v3 = .int .i64 x3_1 ∧ Aside0 (spec_NetValid.l0 kq x3_1 a0_0 l0_1 l0_2 l0_3 = some r) ∧ Aside0 (kq ≤ k) ∧ Aside0 (w'.heap[gb402]? = some (.cells #[.int .i64 a0_0,(.slice A0_1 l0_1.length c0_1),(.slice A0_2 l0_2.length c0_2),(.slice A0_3 l0_3.length c0_3)] 30 (0,0))) ∧ Aside0 (Below w.heap.size w w'))
 case atStart => exact ⟨(0),(by first|rfl|(simp;done)|(simp [*];done)),H',⟨Nat.le_refl _⟩,⟨by (with_reducible repeat (first|refine kn_ ?_ _|refine kd_ ?_|refine ka_ ?_ _));exact BK402.out⟩,⟨by repeat (first|(with_reducible first|exact HB.out|apply ba_|apply bn_|apply bd_|refine bs_ ?_ GE402.out)|exact HB.out)⟩⟩
 case round =>
  clear H'
  try clear c1
  try clear p2
  obtain ⟨x3_1,rfl,HA,HK1,BK402,HB⟩:=hrel
  cases gk with
  | zero => exact absurd HA.out (by simp [spec_NetValid.l0])
  | succ k1 =>
   have H:=HA.out
   clear HA
   simp only [spec_NetValid.l0] at H
   by_cases c3 : x3_1 < (l0_2.length : Int)
   ·rw [if_pos c3] at H
    have c3b0 : decide (x3_1 < (l0_2.length : Int)) = true:=decide_eq_true c3
    clear c3
    by_cases c4 : 0 ≤ x3_1
    ·rw [if_pos c4] at H
     have c4b0 : decide (0 ≤ x3_1) = true:=decide_eq_true c4
     clear c4
     replace H:=Option.bind_eq_some_iff.mp H
     obtain ⟨t404,A50,H⟩:=H
     replace H : (if t404 = true then (spec_NetValid.l0 k1 (wrap64 (x3_1 + 1)) a0_0 l0_1 l0_2 l0_3) else (some false)) = some r:=H
     have A5:=mk_ A50
     clear A50
     by_cases c6 : t404 = true
     ·subst c6
      have H1 : (spec_NetValid.l0 k1 (wrap64 (x3_1 + 1)) a0_0 l0_1 l0_2 l0_3) = some r:=by rw [if_pos rfl] at H;exact H
      clear H
      have H:=H1
      clear H1
      have H':=mk_ H
      clear H
      have hcz7_0 : wr.cell? ⟨gb402,0,none⟩ = some (.int .i64 a0_0):=(bc_ BK402.out 0).trans rfl
      have hcz7_1 : wr.cell? ⟨gb402,1,none⟩ = some (.slice A0_1 l0_1.length c0_1):=(bc_ BK402.out 1).trans rfl
      have hcz7_2 : wr.cell? ⟨gb402,2,none⟩ = some (.slice A0_2 l0_2.length c0_2):=(bc_ BK402.out 2).trans rfl
      have hcz7_3 : wr.cell? ⟨gb402,3,none⟩ = some (.slice A0_3 l0_3.length c0_3):=(bc_ BK402.out 3).trans rfl
      have hfz7_0:=bf_ BK402.out 0
      have hfz7_1:=bf_ BK402.out 1
      have hfz7_2:=bf_ BK402.out 2
      have hfz7_3:=bf_ BK402.out 3
      have p403 : 0 ≤ (x3_1 : Int):=od_ (by first|(with_reducible assumption)|assumption)
      have q403 : x3_1 < (l0_2.length : Int):=od_ (by first|(with_reducible assumption)|assumption)
      obtain ⟨ad403,e403,hx403_0⟩:=Kd.at_int HR0_2.out x3_1 p403 q403
      cases e403
      replace hx403_0:=(HB.out.cell (wl_ w _ hx403_0)).trans hx403_0
      replace p403:=eq_true p403
      replace q403:=eq_true q403
      go_wp2_with (first|(go_at_call 40;(with_reducible refine (spec_l1In.calls (rd l0_2 x3_1) 0 (wrap64 (a0_0 - 1)) true _ A5.out).mono ?_);rintro e w' ⟨rfl,⟨nd,rfl⟩⟩;(try first|exact ⟨rfl,_,World.drewN_drewN _ _ _⟩|exact ⟨rfl,_,Eq.trans (World.drewN_drewN _ _ _) (congrArg (World.drewN _) (Nat.add_assoc _ _ _))⟩)))
      repeat (go_quiet (first|(go_at_call 40;(with_reducible refine (spec_l1In.calls (rd l0_2 x3_1) 0 (wrap64 (a0_0 - 1)) true _ A5.out).mono ?_);rintro e w' ⟨rfl,⟨nd,rfl⟩⟩;(try first|exact ⟨rfl,_,World.drewN_drewN _ _ _⟩|exact ⟨rfl,_,Eq.trans (World.drewN_drewN _ _ _) (congrArg (World.drewN _) (Nat.add_assoc _ _ _))⟩)));try go_wp2_with (first|(go_at_call 40;(with_reducible refine (spec_l1In.calls (rd l0_2 x3_1) 0 (wrap64 (a0_0 - 1)) true _ A5.out).mono ?_);rintro e w' ⟨rfl,⟨nd,rfl⟩⟩;(try first|exact ⟨rfl,_,World.drewN_drewN _ _ _⟩|exact ⟨rfl,_,Eq.trans (World.drewN_drewN _ _ _) (congrArg (World.drewN _) (Nat.add_assoc _ _ _))⟩))))
      go_roundg k1
      case measure => have:=HK1.out;omega
      case rel => exact ⟨(wrap64 (x3_1 + 1)),(by first|rfl|(simp;done)|(simp [*];done)),H',⟨by have:=HK1.out;omega⟩,⟨by (with_reducible repeat (first|refine kn_ ?_ _|refine kd_ ?_|refine ka_ ?_ _));exact BK402.out⟩,⟨by repeat (first|(with_reducible first|exact HB.out|apply ba_|apply bn_|apply bd_|refine bs_ ?_ GE402.out)|exact HB.out)⟩⟩
     ·replace c6:=Bool.eq_false_iff.mpr c6
      subst c6
      have H1 : (some false) = some r:=by rw [if_neg (show ¬ (false = true) by decide)] at H;exact H
      clear H
      have H:=H1
      clear H1
      obtain rfl:=Option.some.inj H
      have hcz8_0 : wr.cell? ⟨gb402,0,none⟩ = some (.int .i64 a0_0):=(bc_ BK402.out 0).trans rfl
      have hcz8_1 : wr.cell? ⟨gb402,1,none⟩ = some (.slice A0_1 l0_1.length c0_1):=(bc_ BK402.out 1).trans rfl
      have hcz8_2 : wr.cell? ⟨gb402,2,none⟩ = some (.slice A0_2 l0_2.length c0_2):=(bc_ BK402.out 2).trans rfl
      have hcz8_3 : wr.cell? ⟨gb402,3,none⟩ = some (.slice A0_3 l0_3.length c0_3):=(bc_ BK402.out 3).trans rfl
      have hfz8_0:=bf_ BK402.out 0
      have hfz8_1:=bf_ BK402.out 1
      have hfz8_2:=bf_ BK402.out 2
      have hfz8_3:=bf_ BK402.out 3
      have p403 : 0 ≤ (x3_1 : Int):=od_ (by first|(with_reducible assumption)|assumption)
      have q403 : x3_1 < (l0_2.length : Int):=od_ (by first|(with_reducible assumption)|assumption)
      obtain ⟨ad403,e403,hx403_0⟩:=Kd.at_int HR0_2.out x3_1 p403 q403
      cases e403
      replace hx403_0:=(HB.out.cell (wl_ w _ hx403_0)).trans hx403_0
      replace p403:=eq_true p403
      replace q403:=eq_true q403
      go_wp2_with (first|(go_at_call 40;(with_reducible refine (spec_l1In.calls (rd l0_2 x3_1) 0 (wrap64 (a0_0 - 1)) false _ A5.out).mono ?_);rintro e w' ⟨rfl,⟨nd,rfl⟩⟩;(try first|exact ⟨rfl,_,World.drewN_drewN _ _ _⟩|exact ⟨rfl,_,Eq.trans (World.drewN_drewN _ _ _) (congrArg (World.drewN _) (Nat.add_assoc _ _ _))⟩)))
      repeat (go_quiet (first|(go_at_call 40;(with_reducible refine (spec_l1In.calls (rd l0_2 x3_1) 0 (wrap64 (a0_0 - 1)) false _ A5.out).mono ?_);rintro e w' ⟨rfl,⟨nd,rfl⟩⟩;(try first|exact ⟨rfl,_,World.drewN_drewN _ _ _⟩|exact ⟨rfl,_,Eq.trans (World.drewN_drewN _ _ _) (congrArg (World.drewN _) (Nat.add_assoc _ _ _))⟩)));try go_wp2_with (first|(go_at_call 40;(with_reducible refine (spec_l1In.calls (rd l0_2 x3_1) 0 (wrap64 (a0_0 - 1)) false _ A5.out).mono ?_);rintro e w' ⟨rfl,⟨nd,rfl⟩⟩;(try first|exact ⟨rfl,_,World.drewN_drewN _ _ _⟩|exact ⟨rfl,_,Eq.trans (World.drewN_drewN _ _ _) (congrArg (World.drewN _) (Nat.add_assoc _ _ _))⟩))))
      go_ret
      exact ⟨by first|rfl|(simp [errW_none,errW_some] <;> rfl)|(simp [*,errW_none,errW_some] <;> rfl),by repeat (first|(with_reducible first|exact HB.out|apply ba_|apply bn_|apply bd_|refine bs_ ?_ GE402.out)|exact HB.out)⟩
    ·rw [if_neg c4] at H
     exact absurd H (by simp)
   ·rw [if_neg c3] at H
    have c3b0 : decide (x3_1 < (l0_2.length : Int)) = false:=decide_eq_false c3
    clear c3
    have H':=mk_ H
    clear H
    have hcz9_0 : wr.cell? ⟨gb402,0,none⟩ = some (.int .i64 a0_0):=(bc_ BK402.out 0).trans rfl
    have hcz9_1 : wr.cell? ⟨gb402,1,none⟩ = some (.slice A0_1 l0_1.length c0_1):=(bc_ BK402.out 1).trans rfl
    have hcz9_2 : wr.cell? ⟨gb402,2,none⟩ = some (.slice A0_2 l0_2.length c0_2):=(bc_ BK402.out 2).trans rfl
    have hcz9_3 : wr.cell? ⟨gb402,3,none⟩ = some (.slice A0_3 l0_3.length c0_3):=(bc_ BK402.out 3).trans rfl
    have hfz9_0:=bf_ BK402.out 0
    have hfz9_1:=bf_ BK402.out 1
    have hfz9_2:=bf_ BK402.out 2
    have hfz9_3:=bf_ BK402.out 3
    go_wp2
    repeat (go_quiet (fail);try go_wp2)
    go_loopg [4] k1 (fun kq v4 w' => ∃ (x4_2 : Int),v4 = .int .i64 x4_2 ∧ Aside0 (spec_NetValid.l1 kq x4_2 a0_0 l0_1 l0_2 l0_3 = some r) ∧ Aside0 (kq ≤ k1) ∧ Aside0 (w'.heap[gb402]? = some (.cells #[.int .i64 a0_0,(.slice A0_1 l0_1.length c0_1),(.slice A0_2 l0_2.length c0_2),(.slice A0_3 l0_3.length c0_3)] 30 (0,0))) ∧ Aside0 (Below w.heap.size w w'))
    case atStart => exact ⟨(0),(by first|rfl|(simp;done)|(simp [*];done)),H',⟨Nat.le_refl _⟩,⟨by (with_reducible repeat (first|refine kn_ ?_ _|refine kd_ ?_|refine ka_ ?_ _));exact BK402.out⟩,⟨by repeat (first|(with_reducible first|exact HB.out|apply ba_|apply bn_|apply bd_|refine bs_ ?_ GE402.out)|exact HB.out)⟩⟩
    case round =>
     clear H'
     try clear c1
     try clear p2
     try clear c3
     try clear c3b0
     try clear c4
     try clear c4b0
     try clear p4
     try clear q4
     try clear hx4
     try clear c6
     try clear p6
     try clear hcz7_0
     try clear hcz7_1
     try clear hcz7_2
     try clear hcz7_3
     try clear hcz8_0
     try clear hcz8_1
     try clear hcz8_2
     try clear hcz8_3
     try clear hcz9_0
     try clear hcz9_1
     try clear hcz9_2
     try clear hcz9_3
     try clear hfz7_0
     try clear hfz7_1
     try clear hfz7_2
     try clear hfz7_3
     try clear hfz8_0
     try clear hfz8_1
     try clear hfz8_2
     try clear hfz8_3
     try clear hfz9_0
     try clear hfz9_1
     try clear hfz9_2
     try clear hfz9_3
     try clear hx403_0
     try clear p2
     try clear p403
     try clear q403
     obtain ⟨x4_2,rfl,HA,HK2,BK402,HB⟩:=hrel
     cases gk with
     | zero => exact absurd HA.out (by simp [spec_NetValid.l1])
     | succ k2 =>
      have H:=HA.out
      clear HA
      simp only [spec_NetValid.l1] at H
      by_cases c10 : x4_2 < (l0_3.length : Int)
      ·rw [if_pos c10] at H
       have c10b0 : decide (x4_2 < (l0_3.length : Int)) = true:=decide_eq_true c10
       clear c10
       by_cases c11 : 0 ≤ x4_2
       ·rw [if_pos c11] at H
        have c11b0 : decide (0 ≤ x4_2) = true:=decide_eq_true c11
        clear c11
        replace H:=Option.bind_eq_some_iff.mp H
        obtain ⟨t406,A120,H⟩:=H
        replace H : (if t406 = true then (spec_NetValid.l1 k2 (wrap64 (x4_2 + 1)) a0_0 l0_1 l0_2 l0_3) else (some false)) = some r:=H
        have A12:=mk_ A120
        clear A120
        by_cases c13 : t406 = true
        ·subst c13
         have H1 : (spec_NetValid.l1 k2 (wrap64 (x4_2 + 1)) a0_0 l0_1 l0_2 l0_3) = some r:=by rw [if_pos rfl] at H;exact H
         clear H
         have H:=H1
         clear H1
         have H':=mk_ H
         clear H
         have hcz14_0 : wr.cell? ⟨gb402,0,none⟩ = some (.int .i64 a0_0):=(bc_ BK402.out 0).trans rfl
         have hcz14_1 : wr.cell? ⟨gb402,1,none⟩ = some (.slice A0_1 l0_1.length c0_1):=(bc_ BK402.out 1).trans rfl
         have hcz14_2 : wr.cell? ⟨gb402,2,none⟩ = some (.slice A0_2 l0_2.length c0_2):=(bc_ BK402.out 2).trans rfl
         have hcz14_3 : wr.cell? ⟨gb402,3,none⟩ = some (.slice A0_3 l0_3.length c0_3):=(bc_ BK402.out 3).trans rfl
         have hfz14_0:=bf_ BK402.out 0
         have hfz14_1:=bf_ BK402.out 1
         have hfz14_2:=bf_ BK402.out 2
         have hfz14_3:=bf_ BK402.out 3
         have p405 : 0 ≤ (x4_2 : Int):=od_ (by first|(with_reducible assumption)|assumption)
         have q405 : x4_2 < (l0_3.length : Int):=od_ (by first|(with_reducible assumption)|assumption)
         obtain ⟨ad405,e405,hx405_0⟩:=Kd.at_int HR0_3.out x4_2 p405 q405
         cases e405
         replace hx405_0:=(HB.out.cell (wl_ w _ hx405_0)).trans hx405_0
         replace p405:=eq_true p405
         replace q405:=eq_true q405
         go_wp2_with (first|(go_at_call 41;(with_reducible refine (spec_l10Vlan.calls (rd l0_3 x4_2) true _ A12.out).mono ?_);rintro e w' ⟨rfl,⟨nd,rfl⟩⟩;(try first|exact ⟨rfl,_,World.drewN_drewN _ _ _⟩|exact ⟨rfl,_,Eq.trans (World.drewN_drewN _ _ _) (congrArg (World.drewN _) (Nat.add_assoc _ _ _))⟩)))
         repeat (go_quiet (first|(go_at_call 41;(with_reducible refine (spec_l10Vlan.calls (rd l0_3 x4_2) true _ A12.out).mono ?_);rintro e w' ⟨rfl,⟨nd,rfl⟩⟩;(try first|exact ⟨rfl,_,World.drewN_drewN _ _ _⟩|exact ⟨rfl,_,Eq.trans (World.drewN_drewN _ _ _) (congrArg (World.drewN _) (Nat.add_assoc _ _ _))⟩)));try go_wp2_with (first|(go_at_call 41;(with_reducible refine (spec_l10Vlan.calls (rd l0_3 x4_2) true _ A12.out).mono ?_);rintro e w' ⟨rfl,⟨nd,rfl⟩⟩;(try first|exact ⟨rfl,_,World.drewN_drewN _ _ _⟩|exact ⟨rfl,_,Eq.trans (World.drewN_drewN _ _ _) (congrArg (World.drewN _) (Nat.add_assoc _ _ _))⟩))))
         go_roundg k2
         case measure => have:=HK1.out;have:=HK2.out;omega
         case rel => exact ⟨(wrap64 (x4_2 + 1)),(by first|rfl|(simp;done)|(simp [*];done)),H',⟨by have:=HK1.out;have:=HK2.out;omega⟩,⟨by (with_reducible repeat (first|refine kn_ ?_ _|refine kd_ ?_|refine ka_ ?_ _));exact BK402.out⟩,⟨by repeat (first|(with_reducible first|exact HB.out|apply ba_|apply bn_|apply bd_|refine bs_ ?_ GE402.out)|exact HB.out)⟩⟩
        ·replace c13:=Bool.eq_false_iff.mpr c13
         subst c13
         have H1 : (some false) = some r:=by rw [if_neg (show ¬ (false = true) by decide)] at H;exact H
         clear H
         have H:=H1
         clear H1
         obtain rfl:=Option.some.inj H
         have hcz15_0 : wr.cell? ⟨gb402,0,none⟩ = some (.int .i64 a0_0):=(bc_ BK402.out 0).trans rfl
         have hcz15_1 : wr.cell? ⟨gb402,1,none⟩ = some (.slice A0_1 l0_1.length c0_1):=(bc_ BK402.out 1).trans rfl
         have hcz15_2 : wr.cell? ⟨gb402,2,none⟩ = some (.slice A0_2 l0_2.length c0_2):=(bc_ BK402.out 2).trans rfl
         have hcz15_3 : wr.cell? ⟨gb402,3,none⟩ = some (.slice A0_3 l0_3.length c0_3):=(bc_ BK402.out 3).trans rfl
         have hfz15_0:=bf_ BK402.out 0
         have hfz15_1:=bf_ BK402.out 1
         have hfz15_2:=bf_ BK402.out 2
         have hfz15_3:=bf_ BK402.out 3
         have p405 : 0 ≤ (x4_2 : Int):=od_ (by first|(with_reducible assumption)|assumption)
         have q405 : x4_2 < (l0_3.length : Int):=od_ (by first|(with_reducible assumption)|assumption)
         obtain ⟨ad405,e405,hx405_0⟩:=Kd.at_int HR0_3.out x4_2 p405 q405
         cases e405
         replace hx405_0:=(HB.out.cell (wl_ w _ hx405_0)).trans hx405_0
         replace p405:=eq_true p405
         replace q405:=eq_true q405
         go_wp2_with (first|(go_at_call 41;(with_reducible refine (spec_l10Vlan.calls (rd l0_3 x4_2) false _ A12.out).mono ?_);rintro e w' ⟨rfl,⟨nd,rfl⟩⟩;(try first|exact ⟨rfl,_,World.drewN_drewN _ _ _⟩|exact ⟨rfl,_,Eq.trans (World.drewN_drewN _ _ _) (congrArg (World.drewN _) (Nat.add_assoc _ _ _))⟩)))
         repeat (go_quiet (first|(go_at_call 41;(with_reducible refine (spec_l10Vlan.calls (rd l0_3 x4_2) false _ A12.out).mono ?_);rintro e w' ⟨rfl,⟨nd,rfl⟩⟩;(try first|exact ⟨rfl,_,World.drewN_drewN _ _ _⟩|exact ⟨rfl,_,Eq.trans (World.drewN_drewN _ _ _) (congrArg (World.drewN _) (Nat.add_assoc _ _ _))⟩)));try go_wp2_with (first|(go_at_call 41;(with_reducible refine (spec_l10Vlan.calls (rd l0_3 x4_2) false _ A12.out).mono ?_);rintro e w' ⟨rfl,⟨nd,rfl⟩⟩;(try first|exact ⟨rfl,_,World.drewN_drewN _ _ _⟩|exact ⟨rfl,_,Eq.trans (World.drewN_drewN _ _ _) (congrArg (World.drewN _) (Nat.add_assoc _ _ _))⟩))))
         go_ret
         exact ⟨by first|rfl|(simp [errW_none,errW_some] <;> rfl)|(simp [*,errW_none,errW_some] <;> rfl),by repeat (first|(with_reducible first|exact HB.out|apply ba_|apply bn_|apply bd_|refine bs_ ?_ GE402.out)|exact HB.out)⟩
       ·rw [if_neg c11] at H
        exact absurd H (by simp)
      ·rw [if_neg c10] at H
       have c10b0 : decide (x4_2 < (l0_3.length : Int)) = false:=decide_eq_false c10
       clear c10
       replace H:=Option.bind_eq_some_iff.mp H
       obtain ⟨t407,A160,H⟩:=H
       replace H : (if t407 = true then (if (l0_2.length : Int) = (l0_3.length : Int) then (some (decide ((l0_2.length : Int) ≤ 15))) else (some false)) else (some false)) = some r:=H
       have A16:=mk_ A160
       clear A160
       by_cases c17 : t407 = true
       ·subst c17
        have H1 : (if (l0_2.length : Int) = (l0_3.length : Int) then (some (decide ((l0_2.length : Int) ≤ 15))) else (some false)) = some r:=by rw [if_pos rfl] at H;exact H
        clear H
        have H:=H1
        clear H1
        by_cases c18 : (l0_2.length : Int) = (l0_3.length : Int)
        ·rw [if_pos c18] at H
         have c18b0 : ((l0_2.length : Int) == (l0_3.length : Int)) = true:=beq_iff_eq.mpr c18
         have c18b1 : ((l0_2.length : Int) != (l0_3.length : Int)) = false:=bne_eq_false_iff_eq.mpr c18
         have c18b2 : (l0_2.length == l0_3.length) = true:=by first|simpa using c18|(simp at c18 ⊢;omega)
         clear c18
         obtain rfl:=Option.some.inj H
         have hcz19_0 : wr.cell? ⟨gb402,0,none⟩ = some (.int .i64 a0_0):=(bc_ BK402.out 0).trans rfl
         have hcz19_1 : wr.cell? ⟨gb402,1,none⟩ = some (.slice A0_1 l0_1.length c0_1):=(bc_ BK402.out 1).trans rfl
         have hcz19_2 : wr.cell? ⟨gb402,2,none⟩ = some (.slice A0_2 l0_2.length c0_2):=(bc_ BK402.out 2).trans rfl
         have hcz19_3 : wr.cell? ⟨gb402,3,none⟩ = some (.slice A0_3 l0_3.length c0_3):=(bc_ BK402.out 3).trans rfl
         have hfz19_0:=bf_ BK402.out 0
         have hfz19_1:=bf_ BK402.out 1
         have hfz19_2:=bf_ BK402.out 2
         have hfz19_3:=bf_ BK402.out 3
         go_wp2_with (first|(go_at_call 42;(with_reducible refine (spec_CablesValid.calls k2 a0_0 _ _ l0_1 true _ ?side1 ?side2 A16.out).mono ?_);(case side1 => repeat (first|exact (cb_ HR0_1.out HB.out)|(with_reducible refine ca_ ?_ _)|(with_reducible refine cn_ ?_ _)|(with_reducible refine cd_ ?_)));(case side2 => exact HC0_1.out);rintro e w20 ⟨rfl,hb⟩;have n0_:=mk_ (blk_below (g:=gb402) (o:=.cells #[.int .i64 a0_0,.slice A0_1 l0_1.length c0_1,.slice A0_2 l0_2.length c0_2,.slice A0_3 l0_3.length c0_3] 30 (0,0)) (by (with_reducible repeat (first|refine kn_ ?_ _|refine kd_ ?_|refine ka_ ?_ _));exact BK402.out) hb);have n1_:=mk_ (st_ (by repeat (first|(with_reducible first|exact HB.out|apply ba_|apply bn_|apply bd_|refine bs_ ?_ GE402.out)|exact HB.out)) hb);clear BK402;clear HB;have BK402:=n0_;have HB:=n1_;clear n0_ n1_;(try clear hb);(try clear hb2);(try clear hk);(try clear hi);have hcz21_0 : w20.cell? ⟨gb402,0,none⟩ = some (.int .i64 a0_0):=(bc_ BK402.out 0).trans rfl;have hcz21_1 : w20.cell? ⟨gb402,1,none⟩ = some (.slice A0_1 l0_1.length c0_1):=(bc_ BK402.out 1).trans rfl;have hcz21_2 : w20.cell? ⟨gb402,2,none⟩ = some (.slice A0_2 l0_2.length c0_2):=(bc_ BK402.out 2).trans rfl;have hcz21_3 : w20.cell? ⟨gb402,3,none⟩ = some (.slice A0_3 l0_3.length c0_3):=(bc_ BK402.out 3).trans rfl;have hfz21_0:=bf_ BK402.out 0;have hfz21_1:=bf_ BK402.out 1;have hfz21_2:=bf_ BK402.out 2;have hfz21_3:=bf_ BK402.out 3))
         repeat (go_quiet (first|(go_at_call 42;(with_reducible refine (spec_CablesValid.calls k2 a0_0 _ _ l0_1 true _ ?side1 ?side2 A16.out).mono ?_);(case side1 => repeat (first|exact (cb_ HR0_1.out HB.out)|(with_reducible refine ca_ ?_ _)|(with_reducible refine cn_ ?_ _)|(with_reducible refine cd_ ?_)));(case side2 => exact HC0_1.out);rintro e w20 ⟨rfl,hb⟩;have n0_:=mk_ (blk_below (g:=gb402) (o:=.cells #[.int .i64 a0_0,.slice A0_1 l0_1.length c0_1,.slice A0_2 l0_2.length c0_2,.slice A0_3 l0_3.length c0_3] 30 (0,0)) (by (with_reducible repeat (first|refine kn_ ?_ _|refine kd_ ?_|refine ka_ ?_ _));exact BK402.out) hb);have n1_:=mk_ (st_ (by repeat (first|(with_reducible first|exact HB.out|apply ba_|apply bn_|apply bd_|refine bs_ ?_ GE402.out)|exact HB.out)) hb);clear BK402;clear HB;have BK402:=n0_;have HB:=n1_;clear n0_ n1_;(try clear hb);(try clear hb2);(try clear hk);(try clear hi);have hcz21_0 : w20.cell? ⟨gb402,0,none⟩ = some (.int .i64 a0_0):=(bc_ BK402.out 0).trans rfl;have hcz21_1 : w20.cell? ⟨gb402,1,none⟩ = some (.slice A0_1 l0_1.length c0_1):=(bc_ BK402.out 1).trans rfl;have hcz21_2 : w20.cell? ⟨gb402,2,none⟩ = some (.slice A0_2 l0_2.length c0_2):=(bc_ BK402.out 2).trans rfl;have hcz21_3 : w20.cell? ⟨gb402,3,none⟩ = some (.slice A0_3 l0_3.length c0_3):=(bc_ BK402.out 3).trans rfl;have hfz21_0:=bf_ BK402.out 0;have hfz21_1:=bf_ BK402.out 1;have hfz21_2:=bf_ BK402.out 2;have hfz21_3:=bf_ BK402.out 3));try go_wp2_with (first|(go_at_call 42;(with_reducible refine (spec_CablesValid.calls k2 a0_0 _ _ l0_1 true _ ?side1 ?side2 A16.out).mono ?_);(case side1 => repeat (first|exact (cb_ HR0_1.out HB.out)|(with_reducible refine ca_ ?_ _)|(with_reducible refine cn_ ?_ _)|(with_reducible refine cd_ ?_)));(case side2 => exact HC0_1.out);rintro e w20 ⟨rfl,hb⟩;have n0_:=mk_ (blk_below (g:=gb402) (o:=.cells #[.int .i64 a0_0,.slice A0_1 l0_1.length c0_1,.slice A0_2 l0_2.length c0_2,.slice A0_3 l0_3.length c0_3] 30 (0,0)) (by (with_reducible repeat (first|refine kn_ ?_ _|refine kd_ ?_|refine ka_ ?_ _));exact BK402.out) hb);have n1_:=mk_ (st_ (by repeat (first|(with_reducible first|exact HB.out|apply ba_|apply bn_|apply bd_|refine bs_ ?_ GE402.out)|exact HB.out)) hb);clear BK402;clear HB;have BK402:=n0_;have HB:=n1_;clear n0_ n1_;(try clear hb);(try clear hb2);(try clear hk);(try clear hi);have hcz21_0 : w20.cell? ⟨gb402,0,none⟩ = some (.int .i64 a0_0):=(bc_ BK402.out 0).trans rfl;have hcz21_1 : w20.cell? ⟨gb402,1,none⟩ = some (.slice A0_1 l0_1.length c0_1):=(bc_ BK402.out 1).trans rfl;have hcz21_2 : w20.cell? ⟨gb402,2,none⟩ = some (.slice A0_2 l0_2.length c0_2):=(bc_ BK402.out 2).trans rfl;have hcz21_3 : w20.cell? ⟨gb402,3,none⟩ = some (.slice A0_3 l0_3.length c0_3):=(bc_ BK402.out 3).trans rfl;have hfz21_0:=bf_ BK402.out 0;have hfz21_1:=bf_ BK402.out 1;have hfz21_2:=bf_ BK402.out 2;have hfz21_3:=bf_ BK402.out 3)))
         go_ret
         exact ⟨by first|rfl|(simp [errW_none,errW_some] <;> rfl)|(simp [*,errW_none,errW_some] <;> rfl),by repeat (first|(with_reducible first|exact HB.out|apply ba_|apply bn_|apply bd_|refine bs_ ?_ GE402.out)|exact HB.out)⟩
        ·rw [if_neg c18] at H
         have c18b0 : ((l0_2.length : Int) == (l0_3.length : Int)) = false:=beq_eq_false_iff_ne.mpr c18
         have c18b1 : ((l0_2.length : Int) != (l0_3.length : Int)) = true:=bne_iff_ne.mpr c18
         have c18b2 : (l0_2.length == l0_3.length) = false:=by first|simpa using c18|(simp at c18 ⊢;omega)
         obtain rfl:=Option.some.inj H
         have hcz22_0 : wr.cell? ⟨gb402,0,none⟩ = some (.int .i64 a0_0):=(bc_ BK402.out 0).trans rfl
         have hcz22_1 : wr.cell? ⟨gb402,1,none⟩ = some (.slice A0_1 l0_1.length c0_1):=(bc_ BK402.out 1).trans rfl
         have hcz22_2 : wr.cell? ⟨gb402,2,none⟩ = some (.slice A0_2 l0_2.length c0_2):=(bc_ BK402.out 2).trans rfl
         have hcz22_3 : wr.cell? ⟨gb402,3,none⟩ = some (.slice A0_3 l0_3.length c0_3):=(bc_ BK402.out 3).trans rfl
         have hfz22_0:=bf_ BK402.out 0
         have hfz22_1:=bf_ BK402.out 1
         have hfz22_2:=bf_ BK402.out 2
         have hfz22_3:=bf_ BK402.out 3
         go_wp2_with (first|(go_at_call 42;(with_reducible refine (spec_CablesValid.calls k2 a0_0 _ _ l0_1 true _ ?side1 ?side2 A16.out).mono ?_);(case side1 => repeat (first|exact (cb_ HR0_1.out HB.out)|(with_reducible refine ca_ ?_ _)|(with_reducible refine cn_ ?_ _)|(with_reducible refine cd_ ?_)));(case side2 => exact HC0_1.out);rintro e w23 ⟨rfl,hb⟩;have n0_:=mk_ (blk_below (g:=gb402) (o:=.cells #[.int .i64 a0_0,.slice A0_1 l0_1.length c0_1,.slice A0_2 l0_2.length c0_2,.slice A0_3 l0_3.length c0_3] 30 (0,0)) (by (with_reducible repeat (first|refine kn_ ?_ _|refine kd_ ?_|refine ka_ ?_ _));exact BK402.out) hb);have n1_:=mk_ (st_ (by repeat (first|(with_reducible first|exact HB.out|apply ba_|apply bn_|apply bd_|refine bs_ ?_ GE402.out)|exact HB.out)) hb);clear BK402;clear HB;have BK402:=n0_;have HB:=n1_;clear n0_ n1_;(try clear hb);(try clear hb2);(try clear hk);(try clear hi);have hcz24_0 : w23.cell? ⟨gb402,0,none⟩ = some (.int .i64 a0_0):=(bc_ BK402.out 0).trans rfl;have hcz24_1 : w23.cell? ⟨gb402,1,none⟩ = some (.slice A0_1 l0_1.length c0_1):=(bc_ BK402.out 1).trans rfl;have hcz24_2 : w23.cell? ⟨gb402,2,none⟩ = some (.slice A0_2 l0_2.length c0_2):=(bc_ BK402.out 2).trans rfl;have hcz24_3 : w23.cell? ⟨gb402,3,none⟩ = some (.slice A0_3 l0_3.length c0_3):=(bc_ BK402.out 3).trans rfl;have hfz24_0:=bf_ BK402.out 0;have hfz24_1:=bf_ BK402.out 1;have hfz24_2:=bf_ BK402.out 2;have hfz24_3:=bf_ BK402.out 3))
         repeat (go_quiet (first|(go_at_call 42;(with_reducible refine (spec_CablesValid.calls k2 a0_0 _ _ l0_1 true _ ?side1 ?side2 A16.out).mono ?_);(case side1 => repeat (first|exact (cb_ HR0_1.out HB.out)|(with_reducible refine ca_ ?_ _)|(with_reducible refine cn_ ?_ _)|(with_reducible refine cd_ ?_)));(case side2 => exact HC0_1.out);rintro e w23 ⟨rfl,hb⟩;have n0_:=mk_ (blk_below (g:=gb402) (o:=.cells #[.int .i64 a0_0,.slice A0_1 l0_1.length c0_1,.slice A0_2 l0_2.length c0_2,.slice A0_3 l0_3.length c0_3] 30 (0,0)) (by (with_reducible repeat (first|refine kn_ ?_ _|refine kd_ ?_|refine ka_ ?_ _));exact BK402.out) hb);have n1_:=mk_ (st_ (by repeat (first|(with_reducible first|exact HB.out|apply ba_|apply bn_|apply bd_|refine bs_ ?_ GE402.out)|exact HB.out)) hb);clear BK402;clear HB;have BK402:=n0_;have HB:=n1_;clear n0_ n1_;(try clear hb);(try clear hb2);(try clear hk);(try clear hi);have hcz24_0 : w23.cell? ⟨gb402,0,none⟩ = some (.int .i64 a0_0):=(bc_ BK402.out 0).trans rfl;have hcz24_1 : w23.cell? ⟨gb402,1,none⟩ = some (.slice A0_1 l0_1.length c0_1):=(bc_ BK402.out 1).trans rfl;have hcz24_2 : w23.cell? ⟨gb402,2,none⟩ = some (.slice A0_2 l0_2.length c0_2):=(bc_ BK402.out 2).trans rfl;have hcz24_3 : w23.cell? ⟨gb402,3,none⟩ = some (.slice A0_3 l0_3.length c0_3):=(bc_ BK402.out 3).trans rfl;have hfz24_0:=bf_ BK402.out 0;have hfz24_1:=bf_ BK402.out 1;have hfz24_2:=bf_ BK402.out 2;have hfz24_3:=bf_ BK402.out 3));try go_wp2_with (first|(go_at_call 42;(with_reducible refine (spec_CablesValid.calls k2 a0_0 _ _ l0_1 true _ ?side1 ?side2 A16.out).mono ?_);(case side1 => repeat (first|exact (cb_ HR0_1.out HB.out)|(with_reducible refine ca_ ?_ _)|(with_reducible refine cn_ ?_ _)|(with_reducible refine cd_ ?_)));(case side2 => exact HC0_1.out);rintro e w23 ⟨rfl,hb⟩;have n0_:=mk_ (blk_below (g:=gb402) (o:=.cells #[.int .i64 a0_0,.slice A0_1 l0_1.length c0_1,.slice A0_2 l0_2.length c0_2,.slice A0_3 l0_3.length c0_3] 30 (0,0)) (by (with_reducible repeat (first|refine kn_ ?_ _|refine kd_ ?_|refine ka_ ?_ _));exact BK402.out) hb);have n1_:=mk_ (st_ (by repeat (first|(with_reducible first|exact HB.out|apply ba_|apply bn_|apply bd_|refine bs_ ?_ GE402.out)|exact HB.out)) hb);clear BK402;clear HB;have BK402:=n0_;have HB:=n1_;clear n0_ n1_;(try clear hb);(try clear hb2);(try clear hk);(try clear hi);have hcz24_0 : w23.cell? ⟨gb402,0,none⟩ = some (.int .i64 a0_0):=(bc_ BK402.out 0).trans rfl;have hcz24_1 : w23.cell? ⟨gb402,1,none⟩ = some (.slice A0_1 l0_1.length c0_1):=(bc_ BK402.out 1).trans rfl;have hcz24_2 : w23.cell? ⟨gb402,2,none⟩ = some (.slice A0_2 l0_2.length c0_2):=(bc_ BK402.out 2).trans rfl;have hcz24_3 : w23.cell? ⟨gb402,3,none⟩ = some (.slice A0_3 l0_3.length c0_3):=(bc_ BK402.out 3).trans rfl;have hfz24_0:=bf_ BK402.out 0;have hfz24_1:=bf_ BK402.out 1;have hfz24_2:=bf_ BK402.out 2;have hfz24_3:=bf_ BK402.out 3)))
         go_ret
         exact ⟨by first|rfl|(simp [errW_none,errW_some] <;> rfl)|(simp [*,errW_none,errW_some] <;> rfl),by repeat (first|(with_reducible first|exact HB.out|apply ba_|apply bn_|apply bd_|refine bs_ ?_ GE402.out)|exact HB.out)⟩
       ·replace c17:=Bool.eq_false_iff.mpr c17
        subst c17
        have H1 : (some false) = some r:=by rw [if_neg (show ¬ (false = true) by decide)] at H;exact H
        clear H
        have H:=H1
        clear H1
        obtain rfl:=Option.some.inj H
        have hcz25_0 : wr.cell? ⟨gb402,0,none⟩ = some (.int .i64 a0_0):=(bc_ BK402.out 0).trans rfl
        have hcz25_1 : wr.cell? ⟨gb402,1,none⟩ = some (.slice A0_1 l0_1.length c0_1):=(bc_ BK402.out 1).trans rfl
        have hcz25_2 : wr.cell? ⟨gb402,2,none⟩ = some (.slice A0_2 l0_2.length c0_2):=(bc_ BK402.out 2).trans rfl
        have hcz25_3 : wr.cell? ⟨gb402,3,none⟩ = some (.slice A0_3 l0_3.length c0_3):=(bc_ BK402.out 3).trans rfl
        have hfz25_0:=bf_ BK402.out 0
        have hfz25_1:=bf_ BK402.out 1
        have hfz25_2:=bf_ BK402.out 2
        have hfz25_3:=bf_ BK402.out 3
        go_wp2_with (first|(go_at_call 42;(with_reducible refine (spec_CablesValid.calls k2 a0_0 _ _ l0_1 false _ ?side1 ?side2 A16.out).mono ?_);(case side1 => repeat (first|exact (cb_ HR0_1.out HB.out)|(with_reducible refine ca_ ?_ _)|(with_reducible refine cn_ ?_ _)|(with_reducible refine cd_ ?_)));(case side2 => exact HC0_1.out);rintro e w26 ⟨rfl,hb⟩;have n0_:=mk_ (blk_below (g:=gb402) (o:=.cells #[.int .i64 a0_0,.slice A0_1 l0_1.length c0_1,.slice A0_2 l0_2.length c0_2,.slice A0_3 l0_3.length c0_3] 30 (0,0)) (by (with_reducible repeat (first|refine kn_ ?_ _|refine kd_ ?_|refine ka_ ?_ _));exact BK402.out) hb);have n1_:=mk_ (st_ (by repeat (first|(with_reducible first|exact HB.out|apply ba_|apply bn_|apply bd_|refine bs_ ?_ GE402.out)|exact HB.out)) hb);clear BK402;clear HB;have BK402:=n0_;have HB:=n1_;clear n0_ n1_;(try clear hb);(try clear hb2);(try clear hk);(try clear hi)))
        repeat (go_quiet (first|(go_at_call 42;(with_reducible refine (spec_CablesValid.calls k2 a0_0 _ _ l0_1 false _ ?side1 ?side2 A16.out).mono ?_);(case side1 => repeat (first|exact (cb_ HR0_1.out HB.out)|(with_reducible refine ca_ ?_ _)|(with_reducible refine cn_ ?_ _)|(with_reducible refine cd_ ?_)));(case side2 => exact HC0_1.out);rintro e w26 ⟨rfl,hb⟩;have n0_:=mk_ (blk_below (g:=gb402) (o:=.cells #[.int .i64 a0_0,.slice A0_1 l0_1.length c0_1,.slice A0_2 l0_2.length c0_2,.slice A0_3 l0_3.length c0_3] 30 (0,0)) (by (with_reducible repeat (first|refine kn_ ?_ _|refine kd_ ?_|refine ka_ ?_ _));exact BK402.out) hb);have n1_:=mk_ (st_ (by repeat (first|(with_reducible first|exact HB.out|apply ba_|apply bn_|apply bd_|refine bs_ ?_ GE402.out)|exact HB.out)) hb);clear BK402;clear HB;have BK402:=n0_;have HB:=n1_;clear n0_ n1_;(try clear hb);(try clear hb2);(try clear hk);(try clear hi)));try go_wp2_with (first|(go_at_call 42;(with_reducible refine (spec_CablesValid.calls k2 a0_0 _ _ l0_1 false _ ?side1 ?side2 A16.out).mono ?_);(case side1 => repeat (first|exact (cb_ HR0_1.out HB.out)|(with_reducible refine ca_ ?_ _)|(with_reducible refine cn_ ?_ _)|(with_reducible refine cd_ ?_)));(case side2 => exact HC0_1.out);rintro e w26 ⟨rfl,hb⟩;have n0_:=mk_ (blk_below (g:=gb402) (o:=.cells #[.int .i64 a0_0,.slice A0_1 l0_1.length c0_1,.slice A0_2 l0_2.length c0_2,.slice A0_3 l0_3.length c0_3] 30 (0,0)) (by (with_reducible repeat (first|refine kn_ ?_ _|refine kd_ ?_|refine ka_ ?_ _));exact BK402.out) hb);have n1_:=mk_ (st_ (by repeat (first|(with_reducible first|exact HB.out|apply ba_|apply bn_|apply bd_|refine bs_ ?_ GE402.out)|exact HB.out)) hb);clear BK402;clear HB;have BK402:=n0_;have HB:=n1_;clear n0_ n1_;(try clear hb);(try clear hb2);(try clear hk);(try clear hi))))
        go_ret
        exact ⟨by first|rfl|(simp [errW_none,errW_some] <;> rfl)|(simp [*,errW_none,errW_some] <;> rfl),by repeat (first|(with_reducible first|exact HB.out|apply ba_|apply bn_|apply bd_|refine bs_ ?_ GE402.out)|exact HB.out)⟩

/-! ### spec_l19Station: function 56 -/
def spec_l19Station.f (a0_0 : Int) (l0_1 : List (S51)) (l0_2 : List Int) (l0_3 : List Int) (a1 : Int) : Option (Bool):=(spec_l1In.f a1 0 (wrap64 ((l0_2.length : Int) - 1))).bind fun t409 => (some t409)
set_option maxHeartbeats 8000000 in
set_option maxRecDepth 100000 in
theorem spec_l19Station.calls (a0_0 : Int) (A0_1 : Option Addr) (c0_1 : Nat) (l0_1 : List (S51)) (A0_2 : Option Addr) (c0_2 : Nat) (l0_2 : List Int) (A0_3 : Option Addr) (c0_3 : Nat) (l0_3 : List Int) (a1 : Int) (r : Bool) (w : World) (hr0_1 : Kd.C k51 w A0_1 l0_1.length l0_1) (hc0_1 : l0_1.length ≤ c0_1) (hr0_2 : Kd.C (Kd.int .i64) w A0_2 l0_2.length l0_2) (hc0_2 : l0_2.length ≤ c0_2) (hr0_3 : Kd.C (Kd.int .i64) w A0_3 l0_3.length l0_3) (hc0_3 : l0_3.length ≤ c0_3) (h : spec_l19Station.f a0_0 l0_1 l0_2 l0_3 a1 = some r) :
  Calls Try.prog 56 #[.agg #[.int .i64 a0_0,.slice A0_1 l0_1.length c0_1,.slice A0_2 l0_2.length c0_2,.slice A0_3 l0_3.length c0_3],.int .i64 a1] w fun e w' => e = .returned (.bool r) ∧ Below w.heap.size w w':=by
 have hu30:=Try.underlying30
 have HR0_1:=mk_ hr0_1
 have HC0_1:=mk_ hc0_1
 clear hr0_1 hc0_1
 have HR0_2:=mk_ hr0_2
 have HC0_2:=mk_ hc0_2
 clear hr0_2 hc0_2
 have HR0_3:=mk_ hr0_3
 have HC0_3:=mk_ hc0_3
 clear hr0_3 hc0_3
 have HB:=mk_ (Below.refl w.heap.size w)
 have H : ((spec_l1In.f a1 0 (wrap64 ((l0_2.length : Int) - 1))).bind fun t409 => (some t409)) = some r:=h
 clear h
 replace H:=Option.bind_eq_some_iff.mp H
 obtain ⟨t409,A30,H⟩:=H
 replace H : (some t409) = some r:=H
 have A3:=mk_ A30
 clear A30
 obtain rfl:=Option.some.inj H
 go_enter Try.func56,Try.ntmps56
 go_wp2_with (first|((with_reducible refine gate_dst (N:=2) rfl ?_);refine box_event ?hg (N:=2) ?hd (cs:=#[.int .i64 a0_0,.slice A0_1 l0_1.length c0_1,.slice A0_2 l0_2.length c0_2,.slice A0_3 l0_3.length c0_3]) (t:=30) ?hr ?_;(case hd => rfl);(case hg => rfl);(case hr => first|(go_simp;done)|(go_simp;rfl));intro gb408 hg w4 hbox hb;have n0_:=mk_ (st_ (by repeat (first|(with_reducible first|exact HB.out|apply ba_|apply bn_|apply bd_)|exact HB.out)) hb);have n1_:=mk_ (hbox);have n2_:=mk_ ((by rw [hg];exact (bz_ (by repeat (first|(with_reducible first|exact HB.out|apply ba_|apply bn_|apply bd_)|exact HB.out))) : w.heap.size ≤ gb408));have n3_:=mk_ ((by rw [hg];exact (bz_ (by repeat (first|(with_reducible first|exact HB.out|apply ba_|apply bn_|apply bd_)|exact HB.out))) : w.heap.size ≤ gb408));clear HB;have HB:=n0_;have BK408:=n1_;have GW408:=n2_;have GE408:=n3_;clear n0_ n1_ n2_ n3_;clear hb hbox hg;have hcz5_0 : w4.cell? ⟨gb408,0,none⟩ = some (.int .i64 a0_0):=(bc_ BK408.out 0).trans rfl;have hcz5_1 : w4.cell? ⟨gb408,1,none⟩ = some (.slice A0_1 l0_1.length c0_1):=(bc_ BK408.out 1).trans rfl;have hcz5_2 : w4.cell? ⟨gb408,2,none⟩ = some (.slice A0_2 l0_2.length c0_2):=(bc_ BK408.out 2).trans rfl;have hcz5_3 : w4.cell? ⟨gb408,3,none⟩ = some (.slice A0_3 l0_3.length c0_3):=(bc_ BK408.out 3).trans rfl;have hfz5_0:=bf_ BK408.out 0;have hfz5_1:=bf_ BK408.out 1;have hfz5_2:=bf_ BK408.out 2;have hfz5_3:=bf_ BK408.out 3)|((with_reducible refine gate_callee (f:=40) rfl ?_);refine goesL_ (some 10) rfl rfl Try.func40 (by kernel_rfl) rfl #[.int .i64 a1,.int .i64 0,.int .i64 (wrap64 ((l0_2.length : Int) - 1))] rfl (by (try simp only [List.map_toArray,List.map_cons,List.map_nil]);first|done|rfl|(simp only [List.length_drop,List.length_take];rfl)) ?_;(with_reducible refine (spec_l1In.calls a1 0 (wrap64 ((l0_2.length : Int) - 1)) t409 _ A3.out).mono ?_);rintro e w' ⟨rfl,⟨nd,rfl⟩⟩;refine ⟨_,rfl,?_⟩))
 go_ret
 exact ⟨by first|rfl|(simp [errW_none,errW_some] <;> rfl)|(simp [*,errW_none,errW_some] <;> rfl),by repeat (first|(with_reducible first|exact HB.out|apply ba_|apply bn_|apply bd_|refine bs_ ?_ GE408.out)|exact HB.out)⟩

/-! ### spec_l7Joined: function 57 -/
mutual
def spec_l7Joined.l0 : Nat → List (S51) → List Bool → Int → Int → Option (List Bool)
 | 0,_,_,_,_ => none
 | k + 1,x1,x7,x14,x15 => if x15 < x14 then (spec_l7Joined.l1 k x1 x7 0 x14 x15) else (some x7)
def spec_l7Joined.l1 : Nat → List (S51) → List Bool → Int → Int → Int → Option (List Bool)
 | 0,_,_,_,_,_ => none
 | k + 1,x1,x7,x8,x14,x15 => if x8 < (x1.length : Int) then (if 0 ≤ x8 then (if 0 ≤ ((rd_T51 x1 x8).f0) then (if ((rd_T51 x1 x8).f0) < (x7.length : Int) then (if rdOf false x7 ((rd_T51 x1 x8).f0) = true then (if 0 ≤ ((rd_T51 x1 x8).f1) then (if ((rd_T51 x1 x8).f1) < (x7.length : Int) then (spec_l7Joined.l1 k x1 ((x7.set (((rd_T51 x1 x8).f0) : Int).toNat true).set (((rd_T51 x1 x8).f1) : Int).toNat true) (wrap64 (x8 + 1)) x14 x15) else (none)) else (none)) else (if 0 ≤ ((rd_T51 x1 x8).f1) then (if ((rd_T51 x1 x8).f1) < (x7.length : Int) then (if rdOf false x7 ((rd_T51 x1 x8).f1) = true then (spec_l7Joined.l1 k x1 ((x7.set (((rd_T51 x1 x8).f0) : Int).toNat true).set (((rd_T51 x1 x8).f1) : Int).toNat true) (wrap64 (x8 + 1)) x14 x15) else (spec_l7Joined.l1 k x1 x7 (wrap64 (x8 + 1)) x14 x15)) else (none)) else (none))) else (none)) else (none)) else (none)) else (spec_l7Joined.l0 k x1 x7 x14 (wrap64 (x15 + 1)))
end
def spec_l7Joined.f (k : Nat) (a0 : Int) (l1 : List (S51)) (a2 : Int) : Option (List Bool):=if 0 ≤ a0 then (if (a0 : Int).toNat ≤ 281474976710656 then ((some (List.replicate (a0 : Int).toNat false : List Bool)).bind fun y410 => (if 0 ≤ a2 then (if a2 < (y410.length : Int) then (spec_l7Joined.l0 k l1 (y410.set (a2 : Int).toNat true) a0 0) else (none)) else (none))) else (none)) else (none)
theorem spec_l7Joined.mono_l : ∀ k,(∀ y0 y1 y2 y3,LeO (spec_l7Joined.l0 k y0 y1 y2 y3) (spec_l7Joined.l0 (k + 1) y0 y1 y2 y3)) ∧ (∀ y0 y1 y2 y3 y4,LeO (spec_l7Joined.l1 k y0 y1 y2 y3 y4) (spec_l7Joined.l1 (k + 1) y0 y1 y2 y3 y4))
 | 0 => ⟨fun _ _ _ _ r h => by simp [spec_l7Joined.l0] at h,fun _ _ _ _ _ r h => by simp [spec_l7Joined.l1] at h⟩
 | k + 1 => by
  obtain ⟨ih0,ih1⟩:=spec_l7Joined.mono_l k
  refine ⟨?_,?_⟩
  ·intro y0 y1 y2 y3
   unfold spec_l7Joined.l0
   repeat' first
   | (with_reducible exact ih0 _ _ _ _)
   | (with_reducible exact ih1 _ _ _ _ _)
   | (with_reducible exact LeO.refl _)
   | (with_reducible exact LeO.none _)
   | (with_reducible refine LeO.ite ?_ ?_)
   | (with_reducible refine LeO.bind ?_ (fun _ => ?_))
   | exact ih0 _ _ _ _
   | exact ih1 _ _ _ _ _
   | exact LeO.none _
   | refine LeO.ite ?_ ?_
   | refine LeO.bind ?_ (fun _ => ?_)
  ·intro y0 y1 y2 y3 y4
   unfold spec_l7Joined.l1
   repeat' first
   | (with_reducible exact ih0 _ _ _ _)
   | (with_reducible exact ih1 _ _ _ _ _)
   | (with_reducible exact LeO.refl _)
   | (with_reducible exact LeO.none _)
   | (with_reducible refine LeO.ite ?_ ?_)
   | (with_reducible refine LeO.bind ?_ (fun _ => ?_))
   | exact ih0 _ _ _ _
   | exact ih1 _ _ _ _ _
   | exact LeO.none _
   | refine LeO.ite ?_ ?_
   | refine LeO.bind ?_ (fun _ => ?_)
theorem spec_l7Joined.mono : ∀ a0 a1 a2 k,LeO (spec_l7Joined.f k a0 a1 a2) (spec_l7Joined.f (k + 1) a0 a1 a2):=by
 intro a0 a1 a2 k
 obtain ⟨ih0,ih1⟩:=spec_l7Joined.mono_l k
 unfold spec_l7Joined.f
 repeat' first
   | (with_reducible exact ih0 _ _ _ _)
   | (with_reducible exact ih1 _ _ _ _ _)
   | (with_reducible exact LeO.refl _)
   | (with_reducible exact LeO.none _)
   | (with_reducible refine LeO.ite ?_ ?_)
   | (with_reducible refine LeO.bind ?_ (fun _ => ?_))
   | exact ih0 _ _ _ _
   | exact ih1 _ _ _ _ _
   | exact LeO.none _
   | refine LeO.ite ?_ ?_
   | refine LeO.bind ?_ (fun _ => ?_)
set_option maxHeartbeats 8000000 in
set_option maxRecDepth 100000 in
theorem spec_l7Joined.calls (k : Nat) (a0 : Int) (A1 : Option Addr) (c1 : Nat) (l1 : List (S51)) (a2 : Int) (r : List Bool) (w : World) (hr1 : Kd.C k51 w A1 l1.length l1) (hc1 : l1.length ≤ c1) (h : spec_l7Joined.f k a0 l1 a2 = some r) :
  Calls Try.prog 57 #[.int .i64 a0,.slice A1 l1.length c1,.int .i64 a2] w fun e w' => ∃ v0_ : Value,e = .returned (v0_) ∧ Kd.R Kd.bool 4 w' w.heap.size (fun _ => True) v0_ r ∧ Below w.heap.size w w':=by
 have HR1:=mk_ hr1
 have HC1:=mk_ hc1
 clear hr1 hc1
 have HB:=mk_ (Below.refl w.heap.size w)
 have H : (if 0 ≤ a0 then (if (a0 : Int).toNat ≤ 281474976710656 then ((some (List.replicate (a0 : Int).toNat false : List Bool)).bind fun y410 => (if 0 ≤ a2 then (if a2 < (y410.length : Int) then (spec_l7Joined.l0 k l1 (y410.set (a2 : Int).toNat true) a0 0) else (none)) else (none))) else (none)) else (none)) = some r:=h
 clear h
 by_cases c4 : 0 ≤ a0
 ·rw [if_pos c4] at H
  have c4b0:=eq_true c4
  have c4b1 : decide (0 ≤ a0) = true:=decide_eq_true c4
  clear c4
  by_cases c5 : (a0 : Int).toNat ≤ 281474976710656
  ·rw [if_pos c5] at H
   have c5b0:=eq_true c5
   have c5b1 : decide ((a0 : Int).toNat ≤ 281474976710656) = true:=decide_eq_true c5
   clear c5
   obtain ⟨y410,hy410⟩ : ∃ y_ : List Bool,y_ = (List.replicate (a0 : Int).toNat false):=⟨_,rfl⟩
   replace H : (if 0 ≤ a2 then (if a2 < (y410.length : Int) then (spec_l7Joined.l0 k l1 (y410.set (a2 : Int).toNat true) a0 0) else (none)) else (none)) = some r:=by first|(rw [hy410];with_reducible exact H)|(have H2_:=(Option.bind_some _ _).symm.trans H;rw [hy410];with_reducible exact H2_)|(have H2_:=(Option.bind_some _ _).symm.trans H;with_reducible exact H2_)|with_reducible exact H|(rw [hy410];exact H)|exact H
   have Ny410:=mk_ hy410
   clear hy410
   by_cases c6 : 0 ≤ a2
   ·rw [if_pos c6] at H
    have c6b0 : decide (0 ≤ a2) = true:=decide_eq_true c6
    clear c6
    by_cases c7 : a2 < (y410.length : Int)
    ·rw [if_pos c7] at H
     have c7b0 : decide (a2 < (y410.length : Int)) = true:=decide_eq_true c7
     clear c7
     obtain ⟨y413,hy413⟩ : ∃ y_ : List Bool,y_ = (y410.set (a2 : Int).toNat true):=⟨_,rfl⟩
     replace H : (spec_l7Joined.l0 k l1 y413 a0 0) = some r:=by first|(rw [hy413];with_reducible exact H)|(have H2_:=(Option.bind_some _ _).symm.trans H;rw [hy413];with_reducible exact H2_)|(have H2_:=(Option.bind_some _ _).symm.trans H;with_reducible exact H2_)|with_reducible exact H|(rw [hy413];exact H)|exact H
     have Ny413:=mk_ hy413
     clear hy413
     have H':=mk_ H
     clear H
     go_enter Try.func57,Try.ntmps57
     go_wp2_with (first|((with_reducible refine gate_dst (N:=10) rfl ?_);refine Kd.R_make Kd.bool _ 4 rfl (N:=10) rfl 67 _ _ rfl a0 rfl rfl Try.underlying67 (.bool false) 1 info4 rfl (by decide) (by omega) false (ok:=fun _ => True) (okp:=fun _ => True) rfl (fun _ hk => hk) trivial (od_ (by first|(with_reducible assumption)|assumption)) (Nat.le_trans (Nat.mul_le_mul_right _ (od_ (by first|(with_reducible assumption)|assumption) : a0.toNat ≤ 281474976710656)) (by omega)) (Below.refl _ _) (Nat.le_refl _) ?_;intro v411 w9 ho10 hb hg_ hnew_;clear hg_ hnew_;(first|rw [← Ny410.out] at ho10|(simp only [Int.reduceToNat] at ho10;rw [← Ny410.out] at ho10));have n0_:=mk_ (Kd.R_lower ho10 (bz_ (by repeat (first|(with_reducible first|exact HB.out|apply ba_|apply bn_|apply bd_)|exact HB.out))));have n1_:=mk_ (st_ (by repeat (first|(with_reducible first|exact HB.out|apply ba_|apply bn_|apply bd_)|exact HB.out)) hb);clear HB;have HO412:=n0_;have HB:=n1_;clear n0_ n1_;clear hb ho10;have p8 : 0 ≤ (a2 : Int):=od_ (by first|(with_reducible assumption)|assumption);have q8 : (a2 : Int) < ((y410.length : Int) : Int):=od_ (by first|(with_reducible assumption)|assumption);obtain ⟨go8,co8,eo8,gb8,gl8,cl8,HG8⟩:=Kd.R_form HO412.out (by omega);(first|cases eo8|(injection eo8 with ea_ en_ ec_;(first|subst ea_|(injection ea_ with ea_;subst ea_));subst ec_;clear en_));have GB8:=mk_ gb8;have GG8:=mk_ HG8;clear gb8 gl8 HG8;obtain ⟨hx8_0,hf8_0⟩:=Kd.R_celln false HO412.out (a2 : Int) p8 q8;replace p8:=eq_true p8;replace q8:=eq_true q8;obtain ⟨hy11_,hz11_⟩:=Kd.R_celln false HO412.out (a2 : Int) (od_ (by first|(with_reducible assumption)|assumption)) (od_ (by first|(with_reducible assumption)|assumption));have HP11:=Kd.R_putg HO412.out (a2 : Int) true)|((with_reducible refine gate_store (t:=4) (p:=13) rfl ?_);refine store_event (t:=4) (p:=13) (v:=?vo_w12) (w1:=(w9.setCell ⟨go8,(a2 : Int).toNat,none⟩ (.bool true))) ?hg ?ho ?hn ?hr ?_;(case ho => rfl);(case hg => rfl);(case hn => rfl);(case hr => first|(go_simp;done)|(go_simp;rfl));intro w12 hw;have hg : w9.grownBy w12 (some go8):=(by rw [hw];exact HP11.2);have hp_ : Kd.R Kd.bool 4 w12 w.heap.size (fun _ => True) (.slice (some ⟨go8,0,none⟩) y410.length co8) y413:=(by rw [hw,Ny413.out];exact HP11.1);clear HP11;have n0_:=mk_ (hp_);have n1_:=mk_ ((by rw [hw];exact bs_ (HB.out) GB8.out : Below w.heap.size w w12));clear HO412;clear HB;have HO412:=n0_;have HB:=n1_;clear n0_ n1_;clear hg hw hp_))
     go_loopg [15] k (fun kq v15 w' => ∃ (x7_1 : List Bool) (x15_1 : Int),v15 = .int .i64 x15_1 ∧ Aside0 (spec_l7Joined.l0 kq l1 x7_1 a0 x15_1 = some r) ∧ Aside0 (kq ≤ k) ∧ Aside0 (Kd.R Kd.bool 4 w' w.heap.size (fun _ => True) (.slice (some ⟨go8,0,none⟩) y410.length co8) x7_1) ∧ Aside0 (Below w.heap.size w w'))
     case atStart => exact ⟨(y413),(0),(by first|rfl|(simp;done)|(simp [*];done)),H',⟨Nat.le_refl _⟩,⟨by (with_reducible repeat (first|apply ra_|apply rn_|apply rd_));exact HO412.out⟩,⟨by repeat (first|(with_reducible first|exact HB.out|apply ba_|apply bn_|apply bd_)|exact HB.out)⟩⟩
     case round =>
      clear H'
      try clear c1
      try clear p2
      try clear c4
      try clear c4b0
      try clear c4b1
      try clear c5
      try clear c5b0
      try clear c5b1
      try clear c6
      try clear c6b0
      try clear c7
      try clear c7b0
      try clear p8
      try clear q8
      try clear hx8
      try clear hf8
      try clear hx8_0
      try clear p8
      try clear q8
      obtain ⟨x7_1,x15_1,rfl,HA,HK1,HO_7,HB⟩:=hrel
      have hl7_1:=(rr_ HO_7.out).1
      rw [hl7_1] at HO_7
      (try simp only [hl7_1])
      cases gk with
      | zero => exact absurd HA.out (by simp [spec_l7Joined.l0])
      | succ k1 =>
       have H:=HA.out
       clear HA
       simp only [spec_l7Joined.l0] at H
       by_cases c13 : x15_1 < a0
       ·rw [if_pos c13] at H
        have c13b0 : decide (x15_1 < a0) = true:=decide_eq_true c13
        clear c13
        have H':=mk_ H
        clear H
        go_wp2
        go_loopg [8] k1 (fun kq v8 w' => ∃ (x7_2 : List Bool) (x8_2 : Int),v8 = .int .i64 x8_2 ∧ Aside0 (spec_l7Joined.l1 kq l1 x7_2 x8_2 a0 x15_1 = some r) ∧ Aside0 (kq ≤ k1) ∧ Aside0 (Kd.R Kd.bool 4 w' w.heap.size (fun _ => True) (.slice (some ⟨go8,0,none⟩) x7_1.length co8) x7_2) ∧ Aside0 (Below w.heap.size w w'))
        case atStart => exact ⟨(x7_1),(0),(by first|rfl|(simp;done)|(simp [*];done)),H',⟨Nat.le_refl _⟩,⟨by (try simp only [hl7_1]);(with_reducible repeat (first|apply ra_|apply rn_|apply rd_));exact HO_7.out⟩,⟨by repeat (first|(with_reducible first|exact HB.out|apply ba_|apply bn_|apply bd_)|exact HB.out)⟩⟩
        case round =>
         clear H'
         try clear c1
         try clear p2
         try clear c4
         try clear c4b0
         try clear c4b1
         try clear c5
         try clear c5b0
         try clear c5b1
         try clear c6
         try clear c6b0
         try clear c7
         try clear c7b0
         try clear p8
         try clear q8
         try clear hx8
         try clear hf8
         try clear c13
         try clear c13b0
         try clear hx8_0
         try clear p2
         try clear p8
         try clear q8
         obtain ⟨x7_2,x8_2,rfl,HA,HK2,HO_7,HB⟩:=hrel
         have hl7_2:=(rr_ HO_7.out).1
         rw [hl7_2] at HO_7
         (try simp only [hl7_2])
         cases gk with
         | zero => exact absurd HA.out (by simp [spec_l7Joined.l1])
         | succ k2 =>
          have H:=HA.out
          clear HA
          simp only [spec_l7Joined.l1] at H
          by_cases c14 : x8_2 < (l1.length : Int)
          ·rw [if_pos c14] at H
           have c14b0 : decide (x8_2 < (l1.length : Int)) = true:=decide_eq_true c14
           clear c14
           by_cases c15 : 0 ≤ x8_2
           ·rw [if_pos c15] at H
            have c15b0 : decide (0 ≤ x8_2) = true:=decide_eq_true c15
            clear c15
            by_cases c16 : 0 ≤ ((rd_T51 l1 x8_2).f0)
            ·rw [if_pos c16] at H
             have c16b0 : decide (0 ≤ ((rd_T51 l1 x8_2).f0)) = true:=decide_eq_true c16
             clear c16
             by_cases c17 : ((rd_T51 l1 x8_2).f0) < (x7_2.length : Int)
             ·rw [if_pos c17] at H
              have c17b0 : decide (((rd_T51 l1 x8_2).f0) < (x7_2.length : Int)) = true:=decide_eq_true c17
              clear c17
              obtain ⟨bq18,hbq18⟩ : ∃ b_ : Bool,b_ = (rdOf false x7_2 ((rd_T51 l1 x8_2).f0)):=⟨_,rfl⟩
              replace H : (if bq18 = true then (if 0 ≤ ((rd_T51 l1 x8_2).f1) then (if ((rd_T51 l1 x8_2).f1) < (x7_2.length : Int) then (spec_l7Joined.l1 k2 l1 ((x7_2.set (((rd_T51 l1 x8_2).f0) : Int).toNat true).set (((rd_T51 l1 x8_2).f1) : Int).toNat true) (wrap64 (x8_2 + 1)) a0 x15_1) else (none)) else (none)) else (if 0 ≤ ((rd_T51 l1 x8_2).f1) then (if ((rd_T51 l1 x8_2).f1) < (x7_2.length : Int) then (if rdOf false x7_2 ((rd_T51 l1 x8_2).f1) = true then (spec_l7Joined.l1 k2 l1 ((x7_2.set (((rd_T51 l1 x8_2).f0) : Int).toNat true).set (((rd_T51 l1 x8_2).f1) : Int).toNat true) (wrap64 (x8_2 + 1)) a0 x15_1) else (spec_l7Joined.l1 k2 l1 x7_2 (wrap64 (x8_2 + 1)) a0 x15_1)) else (none)) else (none))) = some r:=by rw [← hbq18] at H;exact H
              have Nbq18:=mk_ hbq18
              clear hbq18
              by_cases c19 : bq18 = true
              ·subst c19
               have H1 : (if 0 ≤ ((rd_T51 l1 x8_2).f1) then (if ((rd_T51 l1 x8_2).f1) < (x7_2.length : Int) then (spec_l7Joined.l1 k2 l1 ((x7_2.set (((rd_T51 l1 x8_2).f0) : Int).toNat true).set (((rd_T51 l1 x8_2).f1) : Int).toNat true) (wrap64 (x8_2 + 1)) a0 x15_1) else (none)) else (none)) = some r:=by rw [if_pos rfl] at H;exact H
               clear H
               have H:=H1
               clear H1
               obtain ⟨y417,hy417⟩ : ∃ y_ : List Bool,y_ = (x7_2.set (((rd_T51 l1 x8_2).f0) : Int).toNat true):=⟨_,rfl⟩
               replace H : (if 0 ≤ ((rd_T51 l1 x8_2).f1) then (if ((rd_T51 l1 x8_2).f1) < (x7_2.length : Int) then (spec_l7Joined.l1 k2 l1 (y417.set (((rd_T51 l1 x8_2).f1) : Int).toNat true) (wrap64 (x8_2 + 1)) a0 x15_1) else (none)) else (none)) = some r:=by first|(rw [hy417];with_reducible exact H)|(have H2_:=(Option.bind_some _ _).symm.trans H;rw [hy417];with_reducible exact H2_)|(have H2_:=(Option.bind_some _ _).symm.trans H;with_reducible exact H2_)|with_reducible exact H|(rw [hy417];exact H)|exact H
               have Ny417:=mk_ hy417
               clear hy417
               by_cases c21 : 0 ≤ ((rd_T51 l1 x8_2).f1)
               ·rw [if_pos c21] at H
                have c21b0 : decide (0 ≤ ((rd_T51 l1 x8_2).f1)) = true:=decide_eq_true c21
                clear c21
                by_cases c22 : ((rd_T51 l1 x8_2).f1) < (x7_2.length : Int)
                ·rw [if_pos c22] at H
                 have c22b0 : decide (((rd_T51 l1 x8_2).f1) < (x7_2.length : Int)) = true:=decide_eq_true c22
                 clear c22
                 obtain ⟨y419,hy419⟩ : ∃ y_ : List Bool,y_ = (y417.set (((rd_T51 l1 x8_2).f1) : Int).toNat true):=⟨_,rfl⟩
                 replace H : (spec_l7Joined.l1 k2 l1 y419 (wrap64 (x8_2 + 1)) a0 x15_1) = some r:=by first|(rw [hy419];with_reducible exact H)|(have H2_:=(Option.bind_some _ _).symm.trans H;rw [hy419];with_reducible exact H2_)|(have H2_:=(Option.bind_some _ _).symm.trans H;with_reducible exact H2_)|with_reducible exact H|(rw [hy419];exact H)|exact H
                 have Ny419:=mk_ hy419
                 clear hy419
                 have H':=mk_ H
                 clear H
                 have p414 : 0 ≤ (x8_2 : Int):=od_ (by first|(with_reducible assumption)|assumption)
                 have q414 : x8_2 < (l1.length : Int):=od_ (by first|(with_reducible assumption)|assumption)
                 obtain ⟨ad414,e414,hx414_0,hx414_1,hx414_2⟩:=at_T51 HR1.out x8_2 p414 q414
                 cases e414
                 replace hx414_0:=(HB.out.cell (wl_ w _ hx414_0)).trans hx414_0
                 replace hx414_1:=(HB.out.cell (wl_ w _ hx414_1)).trans hx414_1
                 replace hx414_2:=(HB.out.cell (wl_ w _ hx414_2)).trans hx414_2
                 replace p414:=eq_true p414
                 replace q414:=eq_true q414
                 have p415 : 0 ≤ (((rd_T51 l1 x8_2).f0) : Int):=od_ (by first|(with_reducible assumption)|assumption)
                 have q415 : ((rd_T51 l1 x8_2).f0) < (x7_2.length : Int):=od_ (by first|(with_reducible assumption)|assumption)
                 obtain ⟨ad415,e415,hx415_0⟩:=Kd.at_bool (rr_ HO_7.out).2.2 ((rd_T51 l1 x8_2).f0) p415 q415
                 (try rw [← Nbq18.out] at hx415_0)
                 obtain rfl : (⟨go8,0,none⟩ : Addr) = ad415:=(by injection e415)
                 (first|simp only [add_plain] at hx415_0|simp only [add_at] at hx415_0|simp only [Addr.add,Nat.zero_add] at hx415_0|skip)
                 replace p415:=eq_true p415
                 replace q415:=eq_true q415
                 have p416 : 0 ≤ (x8_2 : Int):=od_ (by first|(with_reducible assumption)|assumption)
                 have q416 : x8_2 < (l1.length : Int):=od_ (by first|(with_reducible assumption)|assumption)
                 obtain ⟨ad416,e416,hx416_0,hx416_1,hx416_2⟩:=at_T51 HR1.out x8_2 p416 q416
                 obtain rfl : ad414 = ad416:=(by injection e416)
                 replace hx416_0:=(HB.out.cell (wl_ w _ hx416_0)).trans hx416_0
                 replace hx416_1:=(HB.out.cell (wl_ w _ hx416_1)).trans hx416_1
                 replace hx416_2:=(HB.out.cell (wl_ w _ hx416_2)).trans hx416_2
                 replace p416:=eq_true p416
                 replace q416:=eq_true q416
                 have p20 : 0 ≤ (((rd_T51 l1 x8_2).f0) : Int):=od_ (by first|(with_reducible assumption)|assumption)
                 have q20 : (((rd_T51 l1 x8_2).f0) : Int) < ((x7_2.length : Int) : Int):=od_ (by first|(with_reducible assumption)|assumption)
                 obtain ⟨hx20_0,hf20_0⟩:=Kd.R_celln false HO_7.out (((rd_T51 l1 x8_2).f0) : Int) p20 q20
                 replace p20:=eq_true p20
                 replace q20:=eq_true q20
                 have HP24:=Kd.R_putg HO_7.out (((rd_T51 l1 x8_2).f0) : Int) true
                 go_wp2_with (first|((with_reducible refine gate_store (t:=4) (p:=47) rfl ?_);refine store_event (t:=4) (p:=47) (v:=?vo_w25) (w1:=(wr.setCell ⟨go8,(((rd_T51 l1 x8_2).f0) : Int).toNat,none⟩ (.bool true))) ?hg ?ho ?hn ?hr ?_;(case ho => rfl);(case hg => rfl);(case hn => rfl);(case hr => first|(go_simp;done)|(go_simp;rfl));intro w25 hw;have hg : wr.grownBy w25 (some go8):=(by rw [hw];exact HP24.2);have hp_ : Kd.R Kd.bool 4 w25 w.heap.size (fun _ => True) (.slice (some ⟨go8,0,none⟩) x7_2.length co8) y417:=(by rw [hw,Ny417.out];exact HP24.1);clear HP24;have n0_:=mk_ (hp_);have n1_:=mk_ ((by rw [hw];exact bs_ (HB.out) GB8.out : Below w.heap.size w w25));clear HO_7;clear HB;have HO_7:=n0_;have HB:=n1_;clear n0_ n1_;clear hg hw hp_;have p418 : 0 ≤ (x8_2 : Int):=od_ (by first|(with_reducible assumption)|assumption);have q418 : x8_2 < (l1.length : Int):=od_ (by first|(with_reducible assumption)|assumption);obtain ⟨ad418,e418,hx418_0,hx418_1,hx418_2⟩:=at_T51 HR1.out x8_2 p418 q418;obtain rfl : ad414 = ad418:=(by injection e418);replace hx418_0:=(HB.out.cell (wl_ w _ hx418_0)).trans hx418_0;replace hx418_1:=(HB.out.cell (wl_ w _ hx418_1)).trans hx418_1;replace hx418_2:=(HB.out.cell (wl_ w _ hx418_2)).trans hx418_2;replace p418:=eq_true p418;replace q418:=eq_true q418;have p23 : 0 ≤ (((rd_T51 l1 x8_2).f1) : Int):=od_ (by first|(with_reducible assumption)|assumption);have q23 : (((rd_T51 l1 x8_2).f1) : Int) < ((x7_2.length : Int) : Int):=od_ (by first|(with_reducible assumption)|assumption);obtain ⟨hx23_0,hf23_0⟩:=Kd.R_celln false HO_7.out (((rd_T51 l1 x8_2).f1) : Int) p23 q23;replace p23:=eq_true p23;replace q23:=eq_true q23;obtain ⟨hy26_,hz26_⟩:=Kd.R_celln false HO_7.out (((rd_T51 l1 x8_2).f1) : Int) (od_ (by first|(with_reducible assumption)|assumption)) (od_ (by first|(with_reducible assumption)|assumption));have HP26:=Kd.R_putg HO_7.out (((rd_T51 l1 x8_2).f1) : Int) true)|((with_reducible refine gate_store (t:=4) (p:=54) rfl ?_);refine store_event (t:=4) (p:=54) (v:=?vo_w27) (w1:=(w25.setCell ⟨go8,(((rd_T51 l1 x8_2).f1) : Int).toNat,none⟩ (.bool true))) ?hg ?ho ?hn ?hr ?_;(case ho => rfl);(case hg => rfl);(case hn => rfl);(case hr => first|(go_simp;done)|(go_simp;rfl));intro w27 hw;have hg : w25.grownBy w27 (some go8):=(by rw [hw];exact HP26.2);have hp_ : Kd.R Kd.bool 4 w27 w.heap.size (fun _ => True) (.slice (some ⟨go8,0,none⟩) x7_2.length co8) y419:=(by rw [hw,Ny419.out];exact HP26.1);clear HP26;have n0_:=mk_ (hp_);have n1_:=mk_ ((by rw [hw];exact bs_ (HB.out) GB8.out : Below w.heap.size w w27));clear HO_7;clear HB;have HO_7:=n0_;have HB:=n1_;clear n0_ n1_;clear hg hw hp_))
                 (try simp only [← hl7_2])
                 go_roundg k2
                 case measure => have:=HK1.out;have:=HK2.out;omega
                 case rel => exact ⟨(y419),(wrap64 (x8_2 + 1)),(by first|rfl|(simp;done)|(simp [*];done)),H',⟨by have:=HK1.out;have:=HK2.out;omega⟩,⟨by (try simp only [hl7_1]);(try simp only [hl7_2]);(with_reducible repeat (first|apply ra_|apply rn_|apply rd_));exact HO_7.out⟩,⟨by repeat (first|(with_reducible first|exact HB.out|apply ba_|apply bn_|apply bd_)|exact HB.out)⟩⟩
                ·rw [if_neg c22] at H
                 exact absurd H (by simp)
               ·rw [if_neg c21] at H
                exact absurd H (by simp)
              ·replace c19:=Bool.eq_false_iff.mpr c19
               subst c19
               have H1 : (if 0 ≤ ((rd_T51 l1 x8_2).f1) then (if ((rd_T51 l1 x8_2).f1) < (x7_2.length : Int) then (if rdOf false x7_2 ((rd_T51 l1 x8_2).f1) = true then (spec_l7Joined.l1 k2 l1 ((x7_2.set (((rd_T51 l1 x8_2).f0) : Int).toNat true).set (((rd_T51 l1 x8_2).f1) : Int).toNat true) (wrap64 (x8_2 + 1)) a0 x15_1) else (spec_l7Joined.l1 k2 l1 x7_2 (wrap64 (x8_2 + 1)) a0 x15_1)) else (none)) else (none)) = some r:=by rw [if_neg (show ¬ (false = true) by decide)] at H;exact H
               clear H
               have H:=H1
               clear H1
               by_cases c28 : 0 ≤ ((rd_T51 l1 x8_2).f1)
               ·rw [if_pos c28] at H
                have c28b0 : decide (0 ≤ ((rd_T51 l1 x8_2).f1)) = true:=decide_eq_true c28
                clear c28
                by_cases c29 : ((rd_T51 l1 x8_2).f1) < (x7_2.length : Int)
                ·rw [if_pos c29] at H
                 have c29b0 : decide (((rd_T51 l1 x8_2).f1) < (x7_2.length : Int)) = true:=decide_eq_true c29
                 clear c29
                 obtain ⟨bq30,hbq30⟩ : ∃ b_ : Bool,b_ = (rdOf false x7_2 ((rd_T51 l1 x8_2).f1)):=⟨_,rfl⟩
                 replace H : (if bq30 = true then (spec_l7Joined.l1 k2 l1 ((x7_2.set (((rd_T51 l1 x8_2).f0) : Int).toNat true).set (((rd_T51 l1 x8_2).f1) : Int).toNat true) (wrap64 (x8_2 + 1)) a0 x15_1) else (spec_l7Joined.l1 k2 l1 x7_2 (wrap64 (x8_2 + 1)) a0 x15_1)) = some r:=by rw [← hbq30] at H;exact H
                 have Nbq30:=mk_ hbq30
                 clear hbq30
                 by_cases c31 : bq30 = true
                 ·subst c31
                  have H1 : (spec_l7Joined.l1 k2 l1 ((x7_2.set (((rd_T51 l1 x8_2).f0) : Int).toNat true).set (((rd_T51 l1 x8_2).f1) : Int).toNat true) (wrap64 (x8_2 + 1)) a0 x15_1) = some r:=by rw [if_pos rfl] at H;exact H
                  clear H
                  have H:=H1
                  clear H1
                  obtain ⟨y423,hy423⟩ : ∃ y_ : List Bool,y_ = (x7_2.set (((rd_T51 l1 x8_2).f0) : Int).toNat true):=⟨_,rfl⟩
                  replace H : (spec_l7Joined.l1 k2 l1 (y423.set (((rd_T51 l1 x8_2).f1) : Int).toNat true) (wrap64 (x8_2 + 1)) a0 x15_1) = some r:=by first|(rw [hy423];with_reducible exact H)|(have H2_:=(Option.bind_some _ _).symm.trans H;rw [hy423];with_reducible exact H2_)|(have H2_:=(Option.bind_some _ _).symm.trans H;with_reducible exact H2_)|with_reducible exact H|(rw [hy423];exact H)|exact H
                  have Ny423:=mk_ hy423
                  clear hy423
                  obtain ⟨y425,hy425⟩ : ∃ y_ : List Bool,y_ = (y423.set (((rd_T51 l1 x8_2).f1) : Int).toNat true):=⟨_,rfl⟩
                  replace H : (spec_l7Joined.l1 k2 l1 y425 (wrap64 (x8_2 + 1)) a0 x15_1) = some r:=by first|(rw [hy425];with_reducible exact H)|(have H2_:=(Option.bind_some _ _).symm.trans H;rw [hy425];with_reducible exact H2_)|(have H2_:=(Option.bind_some _ _).symm.trans H;with_reducible exact H2_)|with_reducible exact H|(rw [hy425];exact H)|exact H
                  have Ny425:=mk_ hy425
                  clear hy425
                  have H':=mk_ H
                  clear H
                  have p414 : 0 ≤ (x8_2 : Int):=od_ (by first|(with_reducible assumption)|assumption)
                  have q414 : x8_2 < (l1.length : Int):=od_ (by first|(with_reducible assumption)|assumption)
                  obtain ⟨ad414,e414,hx414_0,hx414_1,hx414_2⟩:=at_T51 HR1.out x8_2 p414 q414
                  cases e414
                  replace hx414_0:=(HB.out.cell (wl_ w _ hx414_0)).trans hx414_0
                  replace hx414_1:=(HB.out.cell (wl_ w _ hx414_1)).trans hx414_1
                  replace hx414_2:=(HB.out.cell (wl_ w _ hx414_2)).trans hx414_2
                  replace p414:=eq_true p414
                  replace q414:=eq_true q414
                  have p415 : 0 ≤ (((rd_T51 l1 x8_2).f0) : Int):=od_ (by first|(with_reducible assumption)|assumption)
                  have q415 : ((rd_T51 l1 x8_2).f0) < (x7_2.length : Int):=od_ (by first|(with_reducible assumption)|assumption)
                  obtain ⟨ad415,e415,hx415_0⟩:=Kd.at_bool (rr_ HO_7.out).2.2 ((rd_T51 l1 x8_2).f0) p415 q415
                  (try rw [← Nbq18.out] at hx415_0)
                  (try rw [← Nbq30.out] at hx415_0)
                  obtain rfl : (⟨go8,0,none⟩ : Addr) = ad415:=(by injection e415)
                  (first|simp only [add_plain] at hx415_0|simp only [add_at] at hx415_0|simp only [Addr.add,Nat.zero_add] at hx415_0|skip)
                  replace p415:=eq_true p415
                  replace q415:=eq_true q415
                  have p420 : 0 ≤ (x8_2 : Int):=od_ (by first|(with_reducible assumption)|assumption)
                  have q420 : x8_2 < (l1.length : Int):=od_ (by first|(with_reducible assumption)|assumption)
                  obtain ⟨ad420,e420,hx420_0,hx420_1,hx420_2⟩:=at_T51 HR1.out x8_2 p420 q420
                  obtain rfl : ad414 = ad420:=(by injection e420)
                  replace hx420_0:=(HB.out.cell (wl_ w _ hx420_0)).trans hx420_0
                  replace hx420_1:=(HB.out.cell (wl_ w _ hx420_1)).trans hx420_1
                  replace hx420_2:=(HB.out.cell (wl_ w _ hx420_2)).trans hx420_2
                  replace p420:=eq_true p420
                  replace q420:=eq_true q420
                  have p421 : 0 ≤ (((rd_T51 l1 x8_2).f1) : Int):=od_ (by first|(with_reducible assumption)|assumption)
                  have q421 : ((rd_T51 l1 x8_2).f1) < (x7_2.length : Int):=od_ (by first|(with_reducible assumption)|assumption)
                  obtain ⟨ad421,e421,hx421_0⟩:=Kd.at_bool (rr_ HO_7.out).2.2 ((rd_T51 l1 x8_2).f1) p421 q421
                  (try rw [← Nbq18.out] at hx421_0)
                  (try rw [← Nbq30.out] at hx421_0)
                  obtain rfl : (⟨go8,0,none⟩ : Addr) = ad421:=(by injection e421)
                  (first|simp only [add_plain] at hx421_0|simp only [add_at] at hx421_0|simp only [Addr.add,Nat.zero_add] at hx421_0|skip)
                  replace p421:=eq_true p421
                  replace q421:=eq_true q421
                  have p422 : 0 ≤ (x8_2 : Int):=od_ (by first|(with_reducible assumption)|assumption)
                  have q422 : x8_2 < (l1.length : Int):=od_ (by first|(with_reducible assumption)|assumption)
                  obtain ⟨ad422,e422,hx422_0,hx422_1,hx422_2⟩:=at_T51 HR1.out x8_2 p422 q422
                  obtain rfl : ad414 = ad422:=(by injection e422)
                  replace hx422_0:=(HB.out.cell (wl_ w _ hx422_0)).trans hx422_0
                  replace hx422_1:=(HB.out.cell (wl_ w _ hx422_1)).trans hx422_1
                  replace hx422_2:=(HB.out.cell (wl_ w _ hx422_2)).trans hx422_2
                  replace p422:=eq_true p422
                  replace q422:=eq_true q422
                  have p32 : 0 ≤ (((rd_T51 l1 x8_2).f0) : Int):=od_ (by first|(with_reducible assumption)|assumption)
                  have q32 : (((rd_T51 l1 x8_2).f0) : Int) < ((x7_2.length : Int) : Int):=od_ (by first|(with_reducible assumption)|assumption)
                  obtain ⟨hx32_0,hf32_0⟩:=Kd.R_celln false HO_7.out (((rd_T51 l1 x8_2).f0) : Int) p32 q32
                  replace p32:=eq_true p32
                  replace q32:=eq_true q32
                  have HP34:=Kd.R_putg HO_7.out (((rd_T51 l1 x8_2).f0) : Int) true
                  go_wp2_with (first|((with_reducible refine gate_store (t:=4) (p:=47) rfl ?_);refine store_event (t:=4) (p:=47) (v:=?vo_w35) (w1:=(wr.setCell ⟨go8,(((rd_T51 l1 x8_2).f0) : Int).toNat,none⟩ (.bool true))) ?hg ?ho ?hn ?hr ?_;(case ho => rfl);(case hg => rfl);(case hn => rfl);(case hr => first|(go_simp;done)|(go_simp;rfl));intro w35 hw;have hg : wr.grownBy w35 (some go8):=(by rw [hw];exact HP34.2);have hp_ : Kd.R Kd.bool 4 w35 w.heap.size (fun _ => True) (.slice (some ⟨go8,0,none⟩) x7_2.length co8) y423:=(by rw [hw,Ny423.out];exact HP34.1);clear HP34;have n0_:=mk_ (hp_);have n1_:=mk_ ((by rw [hw];exact bs_ (HB.out) GB8.out : Below w.heap.size w w35));clear HO_7;clear HB;have HO_7:=n0_;have HB:=n1_;clear n0_ n1_;clear hg hw hp_;have p424 : 0 ≤ (x8_2 : Int):=od_ (by first|(with_reducible assumption)|assumption);have q424 : x8_2 < (l1.length : Int):=od_ (by first|(with_reducible assumption)|assumption);obtain ⟨ad424,e424,hx424_0,hx424_1,hx424_2⟩:=at_T51 HR1.out x8_2 p424 q424;obtain rfl : ad414 = ad424:=(by injection e424);replace hx424_0:=(HB.out.cell (wl_ w _ hx424_0)).trans hx424_0;replace hx424_1:=(HB.out.cell (wl_ w _ hx424_1)).trans hx424_1;replace hx424_2:=(HB.out.cell (wl_ w _ hx424_2)).trans hx424_2;replace p424:=eq_true p424;replace q424:=eq_true q424;have p33 : 0 ≤ (((rd_T51 l1 x8_2).f1) : Int):=od_ (by first|(with_reducible assumption)|assumption);have q33 : (((rd_T51 l1 x8_2).f1) : Int) < ((x7_2.length : Int) : Int):=od_ (by first|(with_reducible assumption)|assumption);obtain ⟨hx33_0,hf33_0⟩:=Kd.R_celln false HO_7.out (((rd_T51 l1 x8_2).f1) : Int) p33 q33;replace p33:=eq_true p33;replace q33:=eq_true q33;obtain ⟨hy36_,hz36_⟩:=Kd.R_celln false HO_7.out (((rd_T51 l1 x8_2).f1) : Int) (od_ (by first|(with_reducible assumption)|assumption)) (od_ (by first|(with_reducible assumption)|assumption));have HP36:=Kd.R_putg HO_7.out (((rd_T51 l1 x8_2).f1) : Int) true)|((with_reducible refine gate_store (t:=4) (p:=54) rfl ?_);refine store_event (t:=4) (p:=54) (v:=?vo_w37) (w1:=(w35.setCell ⟨go8,(((rd_T51 l1 x8_2).f1) : Int).toNat,none⟩ (.bool true))) ?hg ?ho ?hn ?hr ?_;(case ho => rfl);(case hg => rfl);(case hn => rfl);(case hr => first|(go_simp;done)|(go_simp;rfl));intro w37 hw;have hg : w35.grownBy w37 (some go8):=(by rw [hw];exact HP36.2);have hp_ : Kd.R Kd.bool 4 w37 w.heap.size (fun _ => True) (.slice (some ⟨go8,0,none⟩) x7_2.length co8) y425:=(by rw [hw,Ny425.out];exact HP36.1);clear HP36;have n0_:=mk_ (hp_);have n1_:=mk_ ((by rw [hw];exact bs_ (HB.out) GB8.out : Below w.heap.size w w37));clear HO_7;clear HB;have HO_7:=n0_;have HB:=n1_;clear n0_ n1_;clear hg hw hp_))
                  (try simp only [← hl7_2])
                  go_roundg k2
                  case measure => have:=HK1.out;have:=HK2.out;omega
                  case rel => exact ⟨(y425),(wrap64 (x8_2 + 1)),(by first|rfl|(simp;done)|(simp [*];done)),H',⟨by have:=HK1.out;have:=HK2.out;omega⟩,⟨by (try simp only [hl7_1]);(try simp only [hl7_2]);(with_reducible repeat (first|apply ra_|apply rn_|apply rd_));exact HO_7.out⟩,⟨by repeat (first|(with_reducible first|exact HB.out|apply ba_|apply bn_|apply bd_)|exact HB.out)⟩⟩
                 ·replace c31:=Bool.eq_false_iff.mpr c31
                  subst c31
                  have H1 : (spec_l7Joined.l1 k2 l1 x7_2 (wrap64 (x8_2 + 1)) a0 x15_1) = some r:=by rw [if_neg (show ¬ (false = true) by decide)] at H;exact H
                  clear H
                  have H:=H1
                  clear H1
                  have H':=mk_ H
                  clear H
                  have p414 : 0 ≤ (x8_2 : Int):=od_ (by first|(with_reducible assumption)|assumption)
                  have q414 : x8_2 < (l1.length : Int):=od_ (by first|(with_reducible assumption)|assumption)
                  obtain ⟨ad414,e414,hx414_0,hx414_1,hx414_2⟩:=at_T51 HR1.out x8_2 p414 q414
                  cases e414
                  replace hx414_0:=(HB.out.cell (wl_ w _ hx414_0)).trans hx414_0
                  replace hx414_1:=(HB.out.cell (wl_ w _ hx414_1)).trans hx414_1
                  replace hx414_2:=(HB.out.cell (wl_ w _ hx414_2)).trans hx414_2
                  replace p414:=eq_true p414
                  replace q414:=eq_true q414
                  have p415 : 0 ≤ (((rd_T51 l1 x8_2).f0) : Int):=od_ (by first|(with_reducible assumption)|assumption)
                  have q415 : ((rd_T51 l1 x8_2).f0) < (x7_2.length : Int):=od_ (by first|(with_reducible assumption)|assumption)
                  obtain ⟨ad415,e415,hx415_0⟩:=Kd.at_bool (rr_ HO_7.out).2.2 ((rd_T51 l1 x8_2).f0) p415 q415
                  (try rw [← Nbq18.out] at hx415_0)
                  (try rw [← Nbq30.out] at hx415_0)
                  obtain rfl : (⟨go8,0,none⟩ : Addr) = ad415:=(by injection e415)
                  (first|simp only [add_plain] at hx415_0|simp only [add_at] at hx415_0|simp only [Addr.add,Nat.zero_add] at hx415_0|skip)
                  replace p415:=eq_true p415
                  replace q415:=eq_true q415
                  have p420 : 0 ≤ (x8_2 : Int):=od_ (by first|(with_reducible assumption)|assumption)
                  have q420 : x8_2 < (l1.length : Int):=od_ (by first|(with_reducible assumption)|assumption)
                  obtain ⟨ad420,e420,hx420_0,hx420_1,hx420_2⟩:=at_T51 HR1.out x8_2 p420 q420
                  obtain rfl : ad414 = ad420:=(by injection e420)
                  replace hx420_0:=(HB.out.cell (wl_ w _ hx420_0)).trans hx420_0
                  replace hx420_1:=(HB.out.cell (wl_ w _ hx420_1)).trans hx420_1
                  replace hx420_2:=(HB.out.cell (wl_ w _ hx420_2)).trans hx420_2
                  replace p420:=eq_true p420
                  replace q420:=eq_true q420
                  have p421 : 0 ≤ (((rd_T51 l1 x8_2).f1) : Int):=od_ (by first|(with_reducible assumption)|assumption)
                  have q421 : ((rd_T51 l1 x8_2).f1) < (x7_2.length : Int):=od_ (by first|(with_reducible assumption)|assumption)
                  obtain ⟨ad421,e421,hx421_0⟩:=Kd.at_bool (rr_ HO_7.out).2.2 ((rd_T51 l1 x8_2).f1) p421 q421
                  (try rw [← Nbq18.out] at hx421_0)
                  (try rw [← Nbq30.out] at hx421_0)
                  obtain rfl : (⟨go8,0,none⟩ : Addr) = ad421:=(by injection e421)
                  (first|simp only [add_plain] at hx421_0|simp only [add_at] at hx421_0|simp only [Addr.add,Nat.zero_add] at hx421_0|skip)
                  replace p421:=eq_true p421
                  replace q421:=eq_true q421
                  go_wp2
                  (try simp only [← hl7_2])
                  go_roundg k2
                  case measure => have:=HK1.out;have:=HK2.out;omega
                  case rel => exact ⟨(x7_2),(wrap64 (x8_2 + 1)),(by first|rfl|(simp;done)|(simp [*];done)),H',⟨by have:=HK1.out;have:=HK2.out;omega⟩,⟨by (try simp only [hl7_1]);(try simp only [hl7_2]);(with_reducible repeat (first|apply ra_|apply rn_|apply rd_));exact HO_7.out⟩,⟨by repeat (first|(with_reducible first|exact HB.out|apply ba_|apply bn_|apply bd_)|exact HB.out)⟩⟩
                ·rw [if_neg c29] at H
                 exact absurd H (by simp)
               ·rw [if_neg c28] at H
                exact absurd H (by simp)
             ·rw [if_neg c17] at H
              exact absurd H (by simp)
            ·rw [if_neg c16] at H
             exact absurd H (by simp)
           ·rw [if_neg c15] at H
            exact absurd H (by simp)
          ·rw [if_neg c14] at H
           have c14b0 : decide (x8_2 < (l1.length : Int)) = false:=decide_eq_false c14
           clear c14
           have H':=mk_ H
           clear H
           go_wp2
           (try simp only [← hl7_1,← hl7_2])
           go_roundg k2
           case measure => have:=HK1.out;have:=HK2.out;omega
           case rel => exact ⟨(x7_2),(wrap64 (x15_1 + 1)),(by first|rfl|(simp;done)|(simp [*];done)),H',⟨by have:=HK1.out;have:=HK2.out;omega⟩,⟨by (try simp only [hl7_1]);(try simp only [hl7_2]);(with_reducible repeat (first|apply ra_|apply rn_|apply rd_));exact HO_7.out⟩,⟨by repeat (first|(with_reducible first|exact HB.out|apply ba_|apply bn_|apply bd_)|exact HB.out)⟩⟩
       ·rw [if_neg c13] at H
        have c13b0 : decide (x15_1 < a0) = false:=decide_eq_false c13
        clear c13
        obtain rfl:=Option.some.inj H
        go_wp2
        go_ret
        exact ⟨_,by first|rfl|(simp [errW_none,errW_some] <;> rfl)|(simp [*,errW_none,errW_some] <;> rfl),by (with_reducible repeat (first|apply ra_|apply rn_|apply rd_));exact HO_7.out,by repeat (first|(with_reducible first|exact HB.out|apply ba_|apply bn_|apply bd_)|exact HB.out)⟩
    ·rw [if_neg c7] at H
     exact absurd H (by simp)
   ·rw [if_neg c6] at H
    exact absurd H (by simp)
  ·rw [if_neg c5] at H
   exact absurd H (by simp)
 ·rw [if_neg c4] at H
  exact absurd H (by simp)

end Go.Proofs.Ytdamdcdjodmemaa.PAll
