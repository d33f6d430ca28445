/- Proved here: contracts of functions of the given program, or lemmas on them, for the laws of this seat. Written by xprint.py, a program of this session, on the ground of the kit's print; parts by hand: wip/x/ext. -/
import Derived.Test.YtdamdcdjodmemaaPAllx0
import Derived.Test.YtdamdcdjodmemaaPAllx2
import Derived.Test.YtdamdcdjodmemaaPAllx4
import Derived.Test.YtdamdcdjodmemaaPAllx5
namespace Go.Proofs.Ytdamdcdjodmemaa.PAll
open Go.RowKit Go.Proofs.YtdamdcdjodmemaaW.PrintWords Go.Proofs.YtdamdcdjodmemaaW.PrintLast Go.Proofs.YtdamdcdjodmemaaW.PrintMore
attribute [local go_sem] max2_int min2_int max_two min_two max_three min_three max_four min_four   -- for this text's walks alone
set_option linter.unusedVariables false
set_option linter.unusedSimpArgs false

/-! ### spec_FloodOver: function 33 -/
mutual
def spec_FloodOver.j0 : Nat → Int → List Int → Bool → Int → List (S51) → List Int → List Int → Option (List Int)
 | 0,_,_,_,_,_,_,_ => none
 | k + 1,x1,x5,x18,x408000,x408001,x408002,x408003 => if x18 = true then (some x5) else (if 0 ≤ x1 then (if x1 < (x408002.length : Int) then ((spec_l7Joined.f k x408000 x408001 (rd x408002 x1)).bind fun t414 => ((spec_TreeOf.f k x408000 x408001).bind fun t417 => (spec_FloodOver.l0 k x5 t414 t417 0 x408000 x408001 x408002 x408003))) else (none)) else (none))
def spec_FloodOver.l0 : Nat → List Int → List Bool → List Int → Int → Int → List (S51) → List Int → List Int → Option (List Int)
 | 0,_,_,_,_,_,_,_,_ => none
 | k + 1,x5,x6,x7,x8,x408000,x408001,x408002,x408003 => if x8 < (x7.length : Int) then (if 0 ≤ x8 then (if 0 ≤ (rd x7 x8) then (if (rd x7 x8) < (x408001.length : Int) then (if 0 ≤ ((rd_T51 x408001 (rd x7 x8)).f0) then (if ((rd_T51 x408001 (rd x7 x8)).f0) < (x6.length : Int) then (if rdOf false x6 ((rd_T51 x408001 (rd x7 x8)).f0) = true then (if x5.length < 17592186044416 then (spec_FloodOver.l0 k (x5 ++ [rd x7 x8]) x6 x7 (wrap64 (x8 + 1)) x408000 x408001 x408002 x408003) else (none)) else (spec_FloodOver.l0 k x5 x6 x7 (wrap64 (x8 + 1)) x408000 x408001 x408002 x408003)) else (none)) else (none)) else (none)) else (none)) else (none)) else (some x5)
end
def spec_FloodOver.f (k : Nat) (a0_0 : Int) (l0_1 : List (S51)) (l0_2 : List Int) (l0_3 : List Int) (a1 : Int) : Option (List Int):=(some (([] : List Int) : List Int)).bind fun y408 => ((spec_NetValid.f k a0_0 l0_1 l0_2 l0_3).bind fun t411 => (if t411 = true then ((spec_l19Station.f a0_0 l0_1 l0_2 l0_3 a1).bind fun t412 => (spec_FloodOver.j0 k a1 y408 (!t412) a0_0 l0_1 l0_2 l0_3)) else (spec_FloodOver.j0 k a1 y408 true a0_0 l0_1 l0_2 l0_3)))
theorem spec_FloodOver.mono_l : ∀ k,(∀ y0 y1 y2 y3 y4 y5 y6,LeO (spec_FloodOver.j0 k y0 y1 y2 y3 y4 y5 y6) (spec_FloodOver.j0 (k + 1) y0 y1 y2 y3 y4 y5 y6)) ∧ (∀ y0 y1 y2 y3 y4 y5 y6 y7,LeO (spec_FloodOver.l0 k y0 y1 y2 y3 y4 y5 y6 y7) (spec_FloodOver.l0 (k + 1) y0 y1 y2 y3 y4 y5 y6 y7))
 | 0 => ⟨fun _ _ _ _ _ _ _ r h => by simp [spec_FloodOver.j0] at h,fun _ _ _ _ _ _ _ _ r h => by simp [spec_FloodOver.l0] at h⟩
 | k + 1 => by
  obtain ⟨ih0,ih1⟩:=spec_FloodOver.mono_l k
  refine ⟨?_,?_⟩
  ·intro y0 y1 y2 y3 y4 y5 y6
   unfold spec_FloodOver.j0
   repeat' first
   | (with_reducible exact ih0 _ _ _ _ _ _ _)
   | (with_reducible exact ih1 _ _ _ _ _ _ _ _)
   | (with_reducible exact spec_NetValid.mono _ _ _ _ _)
   | (with_reducible exact spec_TreeOf.mono _ _ _)
   | (with_reducible exact spec_l7Joined.mono _ _ _ _)
   | (with_reducible exact LeO.refl _)
   | (with_reducible exact LeO.none _)
   | (with_reducible refine LeO.ite ?_ ?_)
   | (with_reducible refine LeO.bind ?_ (fun _ => ?_))
   | exact ih0 _ _ _ _ _ _ _
   | exact ih1 _ _ _ _ _ _ _ _
   | exact spec_NetValid.mono _ _ _ _ _
   | exact spec_TreeOf.mono _ _ _
   | exact spec_l7Joined.mono _ _ _ _
   | exact LeO.none _
   | refine LeO.ite ?_ ?_
   | refine LeO.bind ?_ (fun _ => ?_)
  ·intro y0 y1 y2 y3 y4 y5 y6 y7
   unfold spec_FloodOver.l0
   repeat' first
   | (with_reducible exact ih0 _ _ _ _ _ _ _)
   | (with_reducible exact ih1 _ _ _ _ _ _ _ _)
   | (with_reducible exact spec_NetValid.mono _ _ _ _ _)
   | (with_reducible exact spec_TreeOf.mono _ _ _)
   | (with_reducible exact spec_l7Joined.mono _ _ _ _)
   | (with_reducible exact LeO.refl _)
   | (with_reducible exact LeO.none _)
   | (with_reducible refine LeO.ite ?_ ?_)
   | (with_reducible refine LeO.bind ?_ (fun _ => ?_))
   | exact ih0 _ _ _ _ _ _ _
   | exact ih1 _ _ _ _ _ _ _ _
   | exact spec_NetValid.mono _ _ _ _ _
   | exact spec_TreeOf.mono _ _ _
   | exact spec_l7Joined.mono _ _ _ _
   | exact LeO.none _
   | refine LeO.ite ?_ ?_
   | refine LeO.bind ?_ (fun _ => ?_)
theorem spec_FloodOver.mono : ∀ a0 a1 a2 a3 a4 k,LeO (spec_FloodOver.f k a0 a1 a2 a3 a4) (spec_FloodOver.f (k + 1) a0 a1 a2 a3 a4):=by
 intro a0 a1 a2 a3 a4 k
 obtain ⟨ih0,ih1⟩:=spec_FloodOver.mono_l k
 unfold spec_FloodOver.f
 repeat' first
   | (with_reducible exact ih0 _ _ _ _ _ _ _)
   | (with_reducible exact ih1 _ _ _ _ _ _ _ _)
   | (with_reducible exact spec_NetValid.mono _ _ _ _ _)
   | (with_reducible exact spec_TreeOf.mono _ _ _)
   | (with_reducible exact spec_l7Joined.mono _ _ _ _)
   | (with_reducible exact LeO.refl _)
   | (with_reducible exact LeO.none _)
   | (with_reducible refine LeO.ite ?_ ?_)
   | (with_reducible refine LeO.bind ?_ (fun _ => ?_))
   | exact ih0 _ _ _ _ _ _ _
   | exact ih1 _ _ _ _ _ _ _ _
   | exact spec_NetValid.mono _ _ _ _ _
   | exact spec_TreeOf.mono _ _ _
   | exact spec_l7Joined.mono _ _ _ _
   | exact LeO.none _
   | refine LeO.ite ?_ ?_
   | refine LeO.bind ?_ (fun _ => ?_)
def spec_FloodOver.T4 : Bool × List (List Nat × List Nat):=(true,[([],[]),([0],[0]),([],[]),([2],[2]),([],[]),([4],[4]),([],[]),([5,6],[5,6]),([7],[7]),([1,3,8],[1,3,8]),([9,9,0,1,2,3,4,5,6,7,8,9],[9])])
def spec_FloodOver.B4 : List Nat:=[0,1,0,4,0,16,0,112,240,511,1023]
theorem spec_FloodOver.tab4 : rtab .any (opsOf Try.f33 4) = spec_FloodOver.T4:=by kernel_rfl
theorem spec_FloodOver.bits4 : waitsOk spec_FloodOver.T4.2 spec_FloodOver.B4 = true:=by kernel_rfl
def spec_FloodOver.T9 : Bool × List (List Nat × List Nat):=(true,[([],[]),([],[]),([1],[1]),([],[]),([],[]),([3,4],[3,4]),([5],[5]),([2,6],[2,6]),([7],[7]),([8],[8]),([0,9],[0,9]),([10],[10])])
def spec_FloodOver.B9 : List Nat:=[0,0,2,0,0,24,56,126,254,510,1023,2047]
theorem spec_FloodOver.tab9 : rtab .any (opsOf Try.f33 9) = spec_FloodOver.T9:=by kernel_rfl
theorem spec_FloodOver.bits9 : waitsOk spec_FloodOver.T9.2 spec_FloodOver.B9 = true:=by kernel_rfl
set_option maxHeartbeats 8000000 in
set_option maxRecDepth 100000 in
theorem spec_FloodOver.calls (k : Nat) (a0_0 : Int) (A0_1 : Option Addr) (c0_1 : Nat) (l0_1 : List (S51)) (A0_2 : Option Addr) (c0_2 : Nat) (l0_2 : List Int) (A0_3 : Option Addr) (c0_3 : Nat) (l0_3 : List Int) (a1 : Int) (r : List Int) (w : World) (hr0_1 : Kd.C k51 w A0_1 l0_1.length l0_1) (hc0_1 : l0_1.length ≤ c0_1) (hr0_2 : Kd.C (Kd.int .i64) w A0_2 l0_2.length l0_2) (hc0_2 : l0_2.length ≤ c0_2) (hr0_3 : Kd.C (Kd.int .i64) w A0_3 l0_3.length l0_3) (hc0_3 : l0_3.length ≤ c0_3) (h : spec_FloodOver.f k a0_0 l0_1 l0_2 l0_3 a1 = some r) :
  Calls Try.prog 33 #[.agg #[.int .i64 a0_0,.slice A0_1 l0_1.length c0_1,.slice A0_2 l0_2.length c0_2,.slice A0_3 l0_3.length c0_3],.int .i64 a1] w fun e w' => ∃ v0_ : Value,e = .returned (v0_) ∧ Kd.R (Kd.int .i64) 3 w' w.heap.size (fun _ => True) v0_ r ∧ Below w.heap.size w w':=by
 have hu30:=Try.underlying30
 have HR0_1:=mk_ hr0_1
 have HC0_1:=mk_ hc0_1
 clear hr0_1 hc0_1
 have HR0_2:=mk_ hr0_2
 have HC0_2:=mk_ hc0_2
 clear hr0_2 hc0_2
 have HR0_3:=mk_ hr0_3
 have HC0_3:=mk_ hc0_3
 clear hr0_3 hc0_3
 have HB:=mk_ (Below.refl w.heap.size w)
 have H : ((some (([] : List Int) : List Int)).bind fun y408 => ((spec_NetValid.f k a0_0 l0_1 l0_2 l0_3).bind fun t411 => (if t411 = true then ((spec_l19Station.f a0_0 l0_1 l0_2 l0_3 a1).bind fun t412 => (spec_FloodOver.j0 k a1 y408 (!t412) a0_0 l0_1 l0_2 l0_3)) else (spec_FloodOver.j0 k a1 y408 true a0_0 l0_1 l0_2 l0_3)))) = some r:=h
 clear h
 obtain ⟨y408,hy408⟩ : ∃ y_ : List Int,y_ = (([] : List Int)):=⟨_,rfl⟩
 replace H : ((spec_NetValid.f k a0_0 l0_1 l0_2 l0_3).bind fun t411 => (if t411 = true then ((spec_l19Station.f a0_0 l0_1 l0_2 l0_3 a1).bind fun t412 => (spec_FloodOver.j0 k a1 y408 (!t412) a0_0 l0_1 l0_2 l0_3)) else (spec_FloodOver.j0 k a1 y408 true a0_0 l0_1 l0_2 l0_3))) = some r:=by first|(rw [hy408];with_reducible exact H)|(have H2_:=(Option.bind_some _ _).symm.trans H;rw [hy408];with_reducible exact H2_)|(have H2_:=(Option.bind_some _ _).symm.trans H;with_reducible exact H2_)|with_reducible exact H|(rw [hy408];exact H)|exact H
 have Ny408:=mk_ hy408
 clear hy408
 have HC3:=mk_ H
 clear H
 go_enter Try.func33,Try.ntmps33
 go_upto_region 2 with (first|((with_reducible refine gate_dst (N:=2) rfl ?_);refine box_event ?hg (N:=2) ?hd (cs:=#[.int .i64 a0_0,.slice A0_1 l0_1.length c0_1,.slice A0_2 l0_2.length c0_2,.slice A0_3 l0_3.length c0_3]) (t:=30) ?hr ?_;(case hd => rfl);(case hg => rfl);(case hr => first|(go_simp;done)|(go_simp;rfl));intro gb407 hg w4 hbox hb;have n0_:=mk_ (st_ (by repeat (first|(with_reducible first|exact HB.out|apply ba_|apply bn_|apply bd_)|exact HB.out)) hb);have n1_:=mk_ (hbox);have n2_:=mk_ ((by rw [hg];exact (bz_ (by repeat (first|(with_reducible first|exact HB.out|apply ba_|apply bn_|apply bd_)|exact HB.out))) : w.heap.size ≤ gb407));have n3_:=mk_ ((by rw [hg];exact (bz_ (by repeat (first|(with_reducible first|exact HB.out|apply ba_|apply bn_|apply bd_)|exact HB.out))) : w.heap.size ≤ gb407));clear HB;have HB:=n0_;have BK407:=n1_;have GW407:=n2_;have GE407:=n3_;clear n0_ n1_ n2_ n3_;clear hb hbox hg)|((with_reducible refine gate_dst (N:=9) rfl ?_);refine Kd.R_lit (Kd.int .i64) _ 3 ?hg (N:=9) ?hd (xs:=([] : List Int)) (inner:=[]) (ok:=fun _ => True) (okp:=fun _ => True) ?hr ?hp (fun _ hk => hk) trivial (Below.refl _ _) (Nat.le_refl _) (by simp) ?_;(case hd => rfl);(case hg => rfl);(case hr => first|(go_simp;done)|(go_simp;rfl));(case hp => exact (Reps.none _ _));intro v409 w5 ho6 hb hg_ hnew_;clear hg_ hnew_;(first|rw [← Ny408.out] at ho6|(simp only [Int.reduceToNat] at ho6;rw [← Ny408.out] at ho6));have n0_:=mk_ (Kd.R_lower ho6 (bz_ (by repeat (first|(with_reducible first|exact HB.out|apply ba_|apply bn_|apply bd_|refine bs_ ?_ GE407.out)|exact HB.out))));have n1_:=mk_ (blk_below (g:=gb407) (o:=.cells #[.int .i64 a0_0,.slice A0_1 l0_1.length c0_1,.slice A0_2 l0_2.length c0_2,.slice A0_3 l0_3.length c0_3] 30 (0,0)) (by (with_reducible repeat (first|refine kn_ ?_ _|refine kd_ ?_|refine ka_ ?_ _));exact BK407.out) hb);have n2_:=mk_ (st_ (by repeat (first|(with_reducible first|exact HB.out|apply ba_|apply bn_|apply bd_|refine bs_ ?_ GE407.out)|exact HB.out)) hb);clear BK407;clear HB;have HO410:=n0_;have BK407:=n1_;have HB:=n2_;clear n0_ n1_ n2_;clear hb ho6))
 (try simp only [Act.put,List.setIfInBounds_toArray,List.set_cons_zero,List.set_cons_succ])
 go_cut [18] (fun v18 wc => ∃ (kq : Nat) (x18_2 : Bool),v18 = .bool x18_2 ∧ Aside0 (spec_FloodOver.j0 kq a1 y408 x18_2 a0_0 l0_1 l0_2 l0_3 = some r) ∧ Aside0 (kq ≤ k) ∧ Aside0 (Kd.R (Kd.int .i64) 3 wc w.heap.size (fun _ => True) v409 y408) ∧ Aside0 (wc.heap[gb407]? = some (.cells #[.int .i64 a0_0,(.slice A0_1 l0_1.length c0_1),(.slice A0_2 l0_2.length c0_2),(.slice A0_3 l0_3.length c0_3)] 30 (0,0))) ∧ Aside0 (Below w.heap.size w wc))
 case first =>
  have H:=HC3.out
  clear HC3
  replace H:=Option.bind_eq_some_iff.mp H
  obtain ⟨t411,A70,H⟩:=H
  replace H : (if t411 = true then ((spec_l19Station.f a0_0 l0_1 l0_2 l0_3 a1).bind fun t412 => (spec_FloodOver.j0 k a1 y408 (!t412) a0_0 l0_1 l0_2 l0_3)) else (spec_FloodOver.j0 k a1 y408 true a0_0 l0_1 l0_2 l0_3)) = some r:=H
  have A7:=mk_ A70
  clear A70
  by_cases c8 : t411 = true
  ·subst c8
   have H1 : ((spec_l19Station.f a0_0 l0_1 l0_2 l0_3 a1).bind fun t412 => (spec_FloodOver.j0 k a1 y408 (!t412) a0_0 l0_1 l0_2 l0_3)) = some r:=by rw [if_pos rfl] at H;exact H
   clear H
   have H:=H1
   clear H1
   replace H:=Option.bind_eq_some_iff.mp H
   obtain ⟨t412,A90,H⟩:=H
   replace H : (spec_FloodOver.j0 k a1 y408 (!t412) a0_0 l0_1 l0_2 l0_3) = some r:=H
   have A9:=mk_ A90
   clear A90
   have H':=mk_ H
   clear H
   have hcz10_0 : w5.cell? ⟨gb407,0,none⟩ = some (.int .i64 a0_0):=(bc_ BK407.out 0).trans rfl
   have hcz10_1 : w5.cell? ⟨gb407,1,none⟩ = some (.slice A0_1 l0_1.length c0_1):=(bc_ BK407.out 1).trans rfl
   have hcz10_2 : w5.cell? ⟨gb407,2,none⟩ = some (.slice A0_2 l0_2.length c0_2):=(bc_ BK407.out 2).trans rfl
   have hcz10_3 : w5.cell? ⟨gb407,3,none⟩ = some (.slice A0_3 l0_3.length c0_3):=(bc_ BK407.out 3).trans rfl
   have hfz10_0:=bf_ BK407.out 0
   have hfz10_1:=bf_ BK407.out 1
   have hfz10_2:=bf_ BK407.out 2
   have hfz10_3:=bf_ BK407.out 3
   go_wp2_with (first|((with_reducible refine gate_callee (f:=13) rfl ?_);refine goesL_ (some 11) rfl rfl Try.func13 (by kernel_rfl) rfl #[.agg #[.int .i64 a0_0,.slice A0_1 l0_1.length c0_1,.slice A0_2 l0_2.length c0_2,.slice A0_3 l0_3.length c0_3]] rfl (by (try simp only [List.map_toArray,List.map_cons,List.map_nil]);first|done|rfl|(simp only [List.length_drop,List.length_take];rfl)) ?_;(with_reducible refine (spec_NetValid.calls k a0_0 _ _ l0_1 _ _ l0_2 _ _ l0_3 true _ ?side1 ?side2 ?side3 ?side4 ?side5 ?side6 A7.out).mono ?_);(case side1 => repeat (first|exact (cb_ HR0_1.out HB.out)|(with_reducible refine ca_ ?_ _)|(with_reducible refine cn_ ?_ _)|(with_reducible refine cd_ ?_)));(case side2 => exact HC0_1.out);(case side3 => repeat (first|exact (cb_ HR0_2.out HB.out)|(with_reducible refine ca_ ?_ _)|(with_reducible refine cn_ ?_ _)|(with_reducible refine cd_ ?_)));(case side4 => exact HC0_2.out);(case side5 => repeat (first|exact (cb_ HR0_3.out HB.out)|(with_reducible refine ca_ ?_ _)|(with_reducible refine cn_ ?_ _)|(with_reducible refine cd_ ?_)));(case side6 => exact HC0_3.out);rintro e w11 ⟨rfl,hb⟩;refine ⟨_,rfl,?_⟩;have n0_:=mk_ (rb_ (by (with_reducible repeat (first|apply ra_|apply rn_|apply rd_));exact HO410.out) hb);have n1_:=mk_ (blk_below (g:=gb407) (o:=.cells #[.int .i64 a0_0,.slice A0_1 l0_1.length c0_1,.slice A0_2 l0_2.length c0_2,.slice A0_3 l0_3.length c0_3] 30 (0,0)) (by (with_reducible repeat (first|refine kn_ ?_ _|refine kd_ ?_|refine ka_ ?_ _));exact BK407.out) hb);have n2_:=mk_ (st_ (by repeat (first|(with_reducible first|exact HB.out|apply ba_|apply bn_|apply bd_|refine bs_ ?_ GE407.out)|exact HB.out)) hb);clear HO410;clear BK407;clear HB;have HO410:=n0_;have BK407:=n1_;have HB:=n2_;clear n0_ n1_ n2_;(try clear hb);(try clear hb2);(try clear hk);(try clear hi);have hcz12_0 : w11.cell? ⟨gb407,0,none⟩ = some (.int .i64 a0_0):=(bc_ BK407.out 0).trans rfl;have hcz12_1 : w11.cell? ⟨gb407,1,none⟩ = some (.slice A0_1 l0_1.length c0_1):=(bc_ BK407.out 1).trans rfl;have hcz12_2 : w11.cell? ⟨gb407,2,none⟩ = some (.slice A0_2 l0_2.length c0_2):=(bc_ BK407.out 2).trans rfl;have hcz12_3 : w11.cell? ⟨gb407,3,none⟩ = some (.slice A0_3 l0_3.length c0_3):=(bc_ BK407.out 3).trans rfl;have hfz12_0:=bf_ BK407.out 0;have hfz12_1:=bf_ BK407.out 1;have hfz12_2:=bf_ BK407.out 2;have hfz12_3:=bf_ BK407.out 3)|(go_at_call 56;(with_reducible refine (spec_l19Station.calls a0_0 _ _ l0_1 _ _ l0_2 _ _ l0_3 a1 t412 _ ?side1 ?side2 ?side3 ?side4 ?side5 ?side6 A9.out).mono ?_);(case side1 => repeat (first|exact (cb_ HR0_1.out HB.out)|(with_reducible refine ca_ ?_ _)|(with_reducible refine cn_ ?_ _)|(with_reducible refine cd_ ?_)));(case side2 => exact HC0_1.out);(case side3 => repeat (first|exact (cb_ HR0_2.out HB.out)|(with_reducible refine ca_ ?_ _)|(with_reducible refine cn_ ?_ _)|(with_reducible refine cd_ ?_)));(case side4 => exact HC0_2.out);(case side5 => repeat (first|exact (cb_ HR0_3.out HB.out)|(with_reducible refine ca_ ?_ _)|(with_reducible refine cn_ ?_ _)|(with_reducible refine cd_ ?_)));(case side6 => exact HC0_3.out);rintro e w13 ⟨rfl,hb⟩;have n0_:=mk_ (rb_ (by (with_reducible repeat (first|apply ra_|apply rn_|apply rd_));exact HO410.out) hb);have n1_:=mk_ (blk_below (g:=gb407) (o:=.cells #[.int .i64 a0_0,.slice A0_1 l0_1.length c0_1,.slice A0_2 l0_2.length c0_2,.slice A0_3 l0_3.length c0_3] 30 (0,0)) (by (with_reducible repeat (first|refine kn_ ?_ _|refine kd_ ?_|refine ka_ ?_ _));exact BK407.out) hb);have n2_:=mk_ (st_ (by repeat (first|(with_reducible first|exact HB.out|apply ba_|apply bn_|apply bd_|refine bs_ ?_ GE407.out)|exact HB.out)) hb);clear HO410;clear BK407;clear HB;have HO410:=n0_;have BK407:=n1_;have HB:=n2_;clear n0_ n1_ n2_;(try clear hb);(try clear hb2);(try clear hk);(try clear hi)))
   go_meet
   case rel => exact ⟨_,(!t412),(by first|rfl|(simp;done)|(simp [*];done)),H',⟨by first|omega|exact Nat.le_refl _⟩,⟨by (with_reducible repeat (first|apply ra_|apply rn_|apply rd_));exact HO410.out⟩,⟨by (with_reducible repeat (first|refine kn_ ?_ _|refine kd_ ?_|refine ka_ ?_ _));exact BK407.out⟩,⟨by repeat (first|(with_reducible first|exact HB.out|apply ba_|apply bn_|apply bd_|refine bs_ ?_ GE407.out)|exact HB.out)⟩⟩
  ·replace c8:=Bool.eq_false_iff.mpr c8
   subst c8
   have H1 : (spec_FloodOver.j0 k a1 y408 true a0_0 l0_1 l0_2 l0_3) = some r:=by rw [if_neg (show ¬ (false = true) by decide)] at H;exact H
   clear H
   have H:=H1
   clear H1
   have H':=mk_ H
   clear H
   have hcz14_0 : w5.cell? ⟨gb407,0,none⟩ = some (.int .i64 a0_0):=(bc_ BK407.out 0).trans rfl
   have hcz14_1 : w5.cell? ⟨gb407,1,none⟩ = some (.slice A0_1 l0_1.length c0_1):=(bc_ BK407.out 1).trans rfl
   have hcz14_2 : w5.cell? ⟨gb407,2,none⟩ = some (.slice A0_2 l0_2.length c0_2):=(bc_ BK407.out 2).trans rfl
   have hcz14_3 : w5.cell? ⟨gb407,3,none⟩ = some (.slice A0_3 l0_3.length c0_3):=(bc_ BK407.out 3).trans rfl
   have hfz14_0:=bf_ BK407.out 0
   have hfz14_1:=bf_ BK407.out 1
   have hfz14_2:=bf_ BK407.out 2
   have hfz14_3:=bf_ BK407.out 3
   go_wp2_with (first|((with_reducible refine gate_callee (f:=13) rfl ?_);refine goesL_ (some 11) rfl rfl Try.func13 (by kernel_rfl) rfl #[.agg #[.int .i64 a0_0,.slice A0_1 l0_1.length c0_1,.slice A0_2 l0_2.length c0_2,.slice A0_3 l0_3.length c0_3]] rfl (by (try simp only [List.map_toArray,List.map_cons,List.map_nil]);first|done|rfl|(simp only [List.length_drop,List.length_take];rfl)) ?_;(with_reducible refine (spec_NetValid.calls k a0_0 _ _ l0_1 _ _ l0_2 _ _ l0_3 false _ ?side1 ?side2 ?side3 ?side4 ?side5 ?side6 A7.out).mono ?_);(case side1 => repeat (first|exact (cb_ HR0_1.out HB.out)|(with_reducible refine ca_ ?_ _)|(with_reducible refine cn_ ?_ _)|(with_reducible refine cd_ ?_)));(case side2 => exact HC0_1.out);(case side3 => repeat (first|exact (cb_ HR0_2.out HB.out)|(with_reducible refine ca_ ?_ _)|(with_reducible refine cn_ ?_ _)|(with_reducible refine cd_ ?_)));(case side4 => exact HC0_2.out);(case side5 => repeat (first|exact (cb_ HR0_3.out HB.out)|(with_reducible refine ca_ ?_ _)|(with_reducible refine cn_ ?_ _)|(with_reducible refine cd_ ?_)));(case side6 => exact HC0_3.out);rintro e w15 ⟨rfl,hb⟩;refine ⟨_,rfl,?_⟩;have n0_:=mk_ (rb_ (by (with_reducible repeat (first|apply ra_|apply rn_|apply rd_));exact HO410.out) hb);have n1_:=mk_ (blk_below (g:=gb407) (o:=.cells #[.int .i64 a0_0,.slice A0_1 l0_1.length c0_1,.slice A0_2 l0_2.length c0_2,.slice A0_3 l0_3.length c0_3] 30 (0,0)) (by (with_reducible repeat (first|refine kn_ ?_ _|refine kd_ ?_|refine ka_ ?_ _));exact BK407.out) hb);have n2_:=mk_ (st_ (by repeat (first|(with_reducible first|exact HB.out|apply ba_|apply bn_|apply bd_|refine bs_ ?_ GE407.out)|exact HB.out)) hb);clear HO410;clear BK407;clear HB;have HO410:=n0_;have BK407:=n1_;have HB:=n2_;clear n0_ n1_ n2_;(try clear hb);(try clear hb2);(try clear hk);(try clear hi)))
   go_meet
   case rel => exact ⟨_,(true),(by first|rfl|(simp;done)|(simp [*];done)),H',⟨by first|omega|exact Nat.le_refl _⟩,⟨by (with_reducible repeat (first|apply ra_|apply rn_|apply rd_));exact HO410.out⟩,⟨by (with_reducible repeat (first|refine kn_ ?_ _|refine kd_ ?_|refine ka_ ?_ _));exact BK407.out⟩,⟨by repeat (first|(with_reducible first|exact HB.out|apply ba_|apply bn_|apply bd_|refine bs_ ?_ GE407.out)|exact HB.out)⟩⟩
 case rest =>
  clear HC3
  try clear c1
  try clear p2
  try clear c3
  try clear c8
  try clear c13
  try clear hcz10_0
  try clear hcz10_1
  try clear hcz10_2
  try clear hcz10_3
  try clear hcz12_0
  try clear hcz12_1
  try clear hcz12_2
  try clear hcz12_3
  try clear hcz14_0
  try clear hcz14_1
  try clear hcz14_2
  try clear hcz14_3
  try clear hfz10_0
  try clear hfz10_1
  try clear hfz10_2
  try clear hfz10_3
  try clear hfz12_0
  try clear hfz12_1
  try clear hfz12_2
  try clear hfz12_3
  try clear hfz14_0
  try clear hfz14_1
  try clear hfz14_2
  try clear hfz14_3
  obtain ⟨kq,x18_2,rfl,HA,HJ2,HO_5,BK407,HB⟩:=hcut
  cases kq with
  | zero => exact absurd HA.out (by simp [spec_FloodOver.j0])
  | succ kj2 =>
   have H:=HA.out
   clear HA
   simp only [spec_FloodOver.j0] at H
   by_cases c16 : x18_2 = true
   ·subst c16
    have H1 : (some y408) = some r:=by rw [if_pos rfl] at H;exact H
    clear H
    have H:=H1
    clear H1
    obtain rfl:=Option.some.inj H
    go_wp2
    go_ret
    exact ⟨_,by first|rfl|(simp [errW_none,errW_some] <;> rfl)|(simp [*,errW_none,errW_some] <;> rfl),by (with_reducible repeat (first|apply ra_|apply rn_|apply rd_));exact HO_5.out,by repeat (first|(with_reducible first|exact HB.out|apply ba_|apply bn_|apply bd_|refine bs_ ?_ GE407.out)|exact HB.out)⟩
   ·replace c16:=Bool.eq_false_iff.mpr c16
    subst c16
    have H1 : (if 0 ≤ a1 then (if a1 < (l0_2.length : Int) then ((spec_l7Joined.f kj2 a0_0 l0_1 (rd l0_2 a1)).bind fun t414 => ((spec_TreeOf.f kj2 a0_0 l0_1).bind fun t417 => (spec_FloodOver.l0 kj2 y408 t414 t417 0 a0_0 l0_1 l0_2 l0_3))) else (none)) else (none)) = some r:=by rw [if_neg (show ¬ (false = true) by decide)] at H;exact H
    clear H
    have H:=H1
    clear H1
    by_cases c17 : 0 ≤ a1
    ·rw [if_pos c17] at H
     have c17b0 : decide (0 ≤ a1) = true:=decide_eq_true c17
     clear c17
     by_cases c18 : a1 < (l0_2.length : Int)
     ·rw [if_pos c18] at H
      have c18b0 : decide (a1 < (l0_2.length : Int)) = true:=decide_eq_true c18
      clear c18
      replace H:=Option.bind_eq_some_iff.mp H
      obtain ⟨t414,A190,H⟩:=H
      replace H : ((spec_TreeOf.f kj2 a0_0 l0_1).bind fun t417 => (spec_FloodOver.l0 kj2 y408 t414 t417 0 a0_0 l0_1 l0_2 l0_3)) = some r:=H
      have A19:=mk_ A190
      clear A190
      replace H:=Option.bind_eq_some_iff.mp H
      obtain ⟨t417,A200,H⟩:=H
      replace H : (spec_FloodOver.l0 kj2 y408 t414 t417 0 a0_0 l0_1 l0_2 l0_3) = some r:=H
      have A20:=mk_ A200
      clear A200
      have H':=mk_ H
      clear H
      try go_wp2
      have n0_:=mk_ (rd_ HO_5.out)
      have n1_:=mk_ (kd_ BK407.out)
      have n2_:=mk_ (bd_ HB.out)
      clear HO_5
      clear BK407
      clear HB
      have HO_5:=n0_
      have BK407:=n1_
      have HB:=n2_
      clear n0_ n1_ n2_
      have p413 : 0 ≤ (a1 : Int):=od_ (by first|(with_reducible assumption)|assumption)
      have q413 : a1 < (l0_2.length : Int):=od_ (by first|(with_reducible assumption)|assumption)
      obtain ⟨ad413,e413,hx413_0⟩:=Kd.at_int HR0_2.out a1 p413 q413
      have hw413_0:=hx413_0
      cases e413
      replace hx413_0:=(HB.out.cell (wl_ w _ hx413_0)).trans hx413_0
      replace p413:=eq_true p413
      replace q413:=eq_true q413
      refine start_ (n:=11) (S:=fun w' => w'.cell? ⟨gb407,0,none⟩ = some (.int .i64 a0_0) ∧ w'.cell? ⟨gb407,1,none⟩ = some (.slice A0_1 l0_1.length c0_1) ∧ w'.cell? ⟨gb407,2,none⟩ = some (.slice (some ad413) l0_2.length c0_2) ∧ w'.cell? ⟨gb407,3,none⟩ = some (.slice A0_3 l0_3.length c0_3) ∧ w'.cell? (ad413.add (a1).toNat) = some (.int .i64 (rd l0_2 a1))) (ds:=[]) #[false,false,false,false,false,false,false,false,false,false,false] (by kernel_rfl) rfl rfl ⟨(bc_ BK407.out 0).trans rfl,(bc_ BK407.out 1).trans rfl,(bc_ BK407.out 2).trans rfl,(bc_ BK407.out 3).trans rfl,((HB.out.cell (wl_ w _ hw413_0)).trans hw413_0)⟩ (fun hHeld => ?_);refine with_tabW spec_FloodOver.tab4 spec_FloodOver.bits4 (fun HT_ HW_ => ?_)
      generalize wc.drew = w21 at HO_5 BK407 HB hx413_0 hHeld ⊢
      refine pure_ (i:=0) (N:=some 20) (v:=?_) (a':=?_) #[true,false,false,false,false,false,false,false,false,false,false] rfl rfl (any_of HT_.out (by kernel_rfl)) (fun _ _ _ h => h) (Or.inl ⟨by rfl,?_⟩) ?_ ?_
      rotate_left
      ·intro w'
       go_simp
       with_reducible rfl
      rotate_left
      ·simp only [Act.put,List.setIfInBounds_toArray,List.set_cons_zero,List.set_cons_succ,i64_w,i32_w]
       rfl
      refine pure_ (i:=2) (N:=some 22) (v:=?_) (a':=?_) #[true,false,true,false,false,false,false,false,false,false,false] rfl rfl (any_of HT_.out (by kernel_rfl)) (fun _ _ _ h => h) (Or.inl ⟨by rfl,?_⟩) ?_ ?_
      rotate_left
      ·intro w'
       go_simp
       with_reducible rfl
      rotate_left
      ·simp only [Act.put,List.setIfInBounds_toArray,List.set_cons_zero,List.set_cons_succ,i64_w,i32_w]
       rfl
      refine pure_ (i:=4) (N:=some 24) (v:=?_) (a':=?_) #[true,false,true,false,true,false,false,false,false,false,false] rfl rfl (any_of HT_.out (by kernel_rfl)) (fun _ _ _ h => h) (Or.inl ⟨by rfl,?_⟩) ?_ ?_
      rotate_left
      ·intro w'
       go_simp
       with_reducible rfl
      rotate_left
      ·simp only [Act.put,List.setIfInBounds_toArray,List.set_cons_zero,List.set_cons_succ,i64_w,i32_w]
       rfl
      refine pure_ (i:=6) (N:=some 26) (v:=?_) (a':=?_) #[true,false,true,false,true,false,true,false,false,false,false] rfl rfl (any_of HT_.out (by kernel_rfl)) (fun _ _ _ h => h) (Or.inl ⟨by rfl,?_⟩) ?_ ?_
      rotate_left
      ·intro w'
       go_simp
       with_reducible rfl
      rotate_left
      ·simp only [Act.put,List.setIfInBounds_toArray,List.set_cons_zero,List.set_cons_succ,i64_w,i32_w]
       rfl
      refine take_ (i:=1) (N:=some 21) (v:=?_) (a':=?_) #[true,true,true,false,true,false,true,false,false,false,false] rfl rfl (take_ofW HT_.out HW_.out (by kernel_rfl)) (fun _ _ _ h => h) (Or.inl ⟨by rfl,?_⟩) hHeld ?_ ?_
      rotate_left
      ·rintro w' ⟨s0,s1,s2,s3,s4⟩
       go_simp
       with_reducible rfl
      rotate_left
      ·simp only [Act.put,List.setIfInBounds_toArray,List.set_cons_zero,List.set_cons_succ,i64_w,i32_w]
       rfl
      refine take_ (i:=3) (N:=some 23) (v:=?_) (a':=?_) #[true,true,true,true,true,false,true,false,false,false,false] rfl rfl (take_ofW HT_.out HW_.out (by kernel_rfl)) (fun _ _ _ h => h) (Or.inl ⟨by rfl,?_⟩) hHeld ?_ ?_
      rotate_left
      ·rintro w' ⟨s0,s1,s2,s3,s4⟩
       go_simp
       with_reducible rfl
      rotate_left
      ·simp only [Act.put,List.setIfInBounds_toArray,List.set_cons_zero,List.set_cons_succ,i64_w,i32_w]
       rfl
      refine take_ (i:=5) (N:=some 25) (v:=?_) (a':=?_) #[true,true,true,true,true,true,true,false,false,false,false] rfl rfl (take_ofW HT_.out HW_.out (by kernel_rfl)) (fun _ _ _ h => h) (Or.inl ⟨by rfl,?_⟩) hHeld ?_ ?_
      rotate_left
      ·rintro w' ⟨s0,s1,s2,s3,s4⟩
       go_simp
       with_reducible rfl
      rotate_left
      ·simp only [Act.put,List.setIfInBounds_toArray,List.set_cons_zero,List.set_cons_succ,i64_w,i32_w]
       rfl
      refine pure_ (i:=7) (N:=some 27) (v:=?_) (a':=?_) #[true,true,true,true,true,true,true,true,false,false,false] rfl rfl (any_of HT_.out (by kernel_rfl)) (fun _ _ _ h => h) (Or.inl ⟨by rfl,?_⟩) ?_ ?_
      rotate_left
      ·intro w'
       go_simp
       with_reducible rfl
      rotate_left
      ·simp only [Act.put,List.setIfInBounds_toArray,List.set_cons_zero,List.set_cons_succ,i64_w,i32_w]
       rfl
      refine take_ (i:=8) (N:=some 28) (v:=?_) (a':=?_) #[true,true,true,true,true,true,true,true,true,false,false] rfl rfl (take_ofW HT_.out HW_.out (by kernel_rfl)) (fun _ _ _ h => h) (Or.inl ⟨by rfl,?_⟩) hHeld ?_ ?_
      rotate_left
      ·rintro w' ⟨s0,s1,s2,s3,s4⟩
       go_simp
       with_reducible rfl
      rotate_left
      ·simp only [Act.put,List.setIfInBounds_toArray,List.set_cons_zero,List.set_cons_succ,i64_w,i32_w]
       rfl
      refine one_ (i:=9) (N:=some 29) #[true,true,true,true,true,true,true,true,true,true,false] rfl rfl (one_of HT_.out (by kernel_rfl)) (by decide) (fun K hK => ?_)
      refine goes_ Try.func57 (by kernel_rfl) rfl #[.int .i64 a0_0,.slice A0_1 l0_1.length c0_1,.int .i64 (rd l0_2 a1)] (by rfl) rfl rfl (by (try simp only [List.map_toArray,List.map_cons,List.map_nil]);first|done|rfl|(simp only [List.length_drop,List.length_take];rfl)) ?_
      with_reducible refine (spec_l7Joined.calls kj2 a0_0 _ _ l0_1 (rd l0_2 a1) t414 _ ?side1 ?side2 A19.out).mono ?_
      (case side1 => repeat (first|exact (cb_ HR0_1.out HB.out)|(with_reducible refine ca_ ?_ _)|(with_reducible refine cn_ ?_ _)|(with_reducible refine cd_ ?_)))
      (case side2 => exact HC0_1.out)
      rintro e w22 ⟨v415,rfl,ho0,hb⟩
      refine ⟨_,rfl,?_⟩
      have n0_:=mk_ (rb_ (by (with_reducible repeat (first|apply ra_|apply rn_|apply rd_));exact HO_5.out) hb)
      have n1_:=mk_ (Kd.R_lower ho0 (bz_ (by repeat (first|(with_reducible first|exact HB.out|apply ba_|apply bn_|apply bd_|refine bs_ ?_ GE407.out)|exact HB.out))))
      have n2_:=mk_ (blk_below (g:=gb407) (o:=.cells #[.int .i64 a0_0,.slice A0_1 l0_1.length c0_1,.slice (some ad413) l0_2.length c0_2,.slice A0_3 l0_3.length c0_3] 30 (0,0)) (by (with_reducible repeat (first|refine kn_ ?_ _|refine kd_ ?_|refine ka_ ?_ _));exact BK407.out) hb)
      have n3_:=mk_ (st_ (by repeat (first|(with_reducible first|exact HB.out|apply ba_|apply bn_|apply bd_|refine bs_ ?_ GE407.out)|exact HB.out)) hb)
      clear HO_5
      clear BK407
      clear HB
      have HO_5:=n0_
      have HO416:=n1_
      have BK407:=n2_
      have HB:=n3_
      clear n0_ n1_ n2_ n3_
      (try clear hb)
      (try clear hb2)
      (try clear hk)
      (try clear hi)
      (try clear ho0)
      refine hK.out _ _ ⟨(bc_ BK407.out 0).trans rfl,(bc_ BK407.out 1).trans rfl,(bc_ BK407.out 2).trans rfl,(bc_ BK407.out 3).trans rfl,((HB.out.cell (wl_ w _ hw413_0)).trans hw413_0)⟩ (fun hHeld => ?_)
      clear hK K
      refine norm_ (a':=?_) ?_ ?_
      rotate_left
      ·show Act.put _ (some 29) _ = _
       simp only [Act.put,List.setIfInBounds_toArray,List.set_cons_zero,List.set_cons_succ,i64_w,i32_w]
       rfl
      refine pure_ (i:=10) (N:=some 6) (v:=?_) (a':=?_) #[true,true,true,true,true,true,true,true,true,true,true] rfl rfl (any_of HT_.out (by kernel_rfl)) (fun _ _ _ h => h) (Or.inl ⟨by rfl,?_⟩) ?_ ?_
      rotate_left
      ·intro w'
       go_simp
       with_reducible rfl
      rotate_left
      ·simp only [Act.put,List.setIfInBounds_toArray,List.set_cons_zero,List.set_cons_succ,i64_w,i32_w]
       rfl
      refine done_ (done_of HT_.out (by kernel_rfl)) ?_
      have hcz23_0 : w22.cell? ⟨gb407,0,none⟩ = some (.int .i64 a0_0):=(bc_ BK407.out 0).trans rfl
      have hcz23_1 : w22.cell? ⟨gb407,1,none⟩ = some (.slice A0_1 l0_1.length c0_1):=(bc_ BK407.out 1).trans rfl
      have hcz23_2 : w22.cell? ⟨gb407,2,none⟩ = some (.slice (some ad413) l0_2.length c0_2):=(bc_ BK407.out 2).trans rfl
      have hcz23_3 : w22.cell? ⟨gb407,3,none⟩ = some (.slice A0_3 l0_3.length c0_3):=(bc_ BK407.out 3).trans rfl
      have hfz23_0:=bf_ BK407.out 0
      have hfz23_1:=bf_ BK407.out 1
      have hfz23_2:=bf_ BK407.out 2
      have hfz23_3:=bf_ BK407.out 3
      try go_wp2_with (first|((with_reducible refine gate_callee (f:=65) rfl ?_);refine goesL_ (some 34) rfl rfl Try.func65 (by kernel_rfl) rfl #[.int .i64 a0_0,.slice A0_1 l0_1.length c0_1] rfl (by (try simp only [List.map_toArray,List.map_cons,List.map_nil]);first|done|rfl|(simp only [List.length_drop,List.length_take];rfl)) ?_;(with_reducible refine (spec_TreeOf.calls kj2 a0_0 _ _ l0_1 t417 _ ?side1 ?side2 A20.out).mono ?_);(case side1 => repeat (first|exact (cb_ HR0_1.out HB.out)|(with_reducible refine ca_ ?_ _)|(with_reducible refine cn_ ?_ _)|(with_reducible refine cd_ ?_)));(case side2 => exact HC0_1.out);rintro e w24 ⟨v418,rfl,ho0,hb⟩;refine ⟨_,rfl,?_⟩;have n0_:=mk_ (re_ (by (with_reducible repeat (first|apply ra_|apply rn_|apply rd_));exact HO_5.out) (Kd.R_base ho0) hb);have n1_:=mk_ (rb_ (by (with_reducible repeat (first|apply ra_|apply rn_|apply rd_));exact HO416.out) hb);have n2_:=mk_ (Kd.R_lower (Kd.R_new' ho0 (Kd.R_lt (by (with_reducible repeat (first|apply ra_|apply rn_|apply rd_));exact HO_5.out))) (bz_ (by repeat (first|(with_reducible first|exact HB.out|apply ba_|apply bn_|apply bd_|refine bs_ ?_ GE407.out)|exact HB.out))));have n3_:=mk_ (blk_below (g:=gb407) (o:=.cells #[.int .i64 a0_0,.slice A0_1 l0_1.length c0_1,.slice (some ad413) l0_2.length c0_2,.slice A0_3 l0_3.length c0_3] 30 (0,0)) (by (with_reducible repeat (first|refine kn_ ?_ _|refine kd_ ?_|refine ka_ ?_ _));exact BK407.out) hb);have n4_:=mk_ (st_ (by repeat (first|(with_reducible first|exact HB.out|apply ba_|apply bn_|apply bd_|refine bs_ ?_ GE407.out)|exact HB.out)) hb);clear HO_5;clear HO416;clear BK407;clear HB;have HO_5:=n0_;have HO416:=n1_;have HO419:=n2_;have BK407:=n3_;have HB:=n4_;clear n0_ n1_ n2_ n3_ n4_;(try clear hb);(try clear hb2);(try clear hk);(try clear hi);(try clear ho0)))
      go_loopg [5,8] kj2 (fun kq v5 v8 w' => ∃ (x5_2 : List Int) (x8_2 : Int),v8 = .int .i64 x8_2 ∧ Aside0 (spec_FloodOver.l0 kq x5_2 t414 t417 x8_2 a0_0 l0_1 l0_2 l0_3 = some r) ∧ Aside0 (kq ≤ kj2) ∧ Aside0 (Kd.R (Kd.int .i64) 3 w' w.heap.size (fun k_ => some k_ ≠ (v418 : Value).ownBlock) v5 x5_2) ∧ Aside0 (Kd.R Kd.bool 4 w' w.heap.size (fun _ => True) v415 t414) ∧ Aside0 (Kd.R (Kd.int .i64) 3 w' w.heap.size (fun k_ => some k_ ≠ (v5 : Value).ownBlock) v418 t417) ∧ Aside0 (w'.heap[gb407]? = some (.cells #[.int .i64 a0_0,(.slice A0_1 l0_1.length c0_1),(.slice (some ad413) l0_2.length c0_2),(.slice A0_3 l0_3.length c0_3)] 30 (0,0))) ∧ Aside0 (Below w.heap.size w w'))
      case atStart => exact ⟨(y408),(0),(by first|rfl|(simp;done)|(simp [*];done)),H',⟨Nat.le_refl _⟩,⟨by (with_reducible repeat (first|apply ra_|apply rn_|apply rd_));exact rm_ HO_5.out (fun _ hk => hk.2)⟩,⟨by (with_reducible repeat (first|apply ra_|apply rn_|apply rd_));exact HO416.out⟩,⟨by (with_reducible repeat (first|apply ra_|apply rn_|apply rd_));exact rm_ HO419.out (fun _ hk => hk.2)⟩,⟨by (with_reducible repeat (first|refine kn_ ?_ _|refine kd_ ?_|refine ka_ ?_ _));exact BK407.out⟩,⟨by repeat (first|(with_reducible first|exact HB.out|apply ba_|apply bn_|apply bd_|refine bs_ ?_ GE407.out)|exact HB.out)⟩⟩
      case round =>
       clear H'
       try clear c1
       try clear p2
       try clear c3
       try clear p4
       try clear q4
       try clear hx4
       try clear c5
       try clear c6
       try clear c8
       try clear c13
       try clear c16
       try clear c17
       try clear c17b0
       try clear c18
       try clear c18b0
       try clear hcz10_0
       try clear hcz10_1
       try clear hcz10_2
       try clear hcz10_3
       try clear hcz12_0
       try clear hcz12_1
       try clear hcz12_2
       try clear hcz12_3
       try clear hcz14_0
       try clear hcz14_1
       try clear hcz14_2
       try clear hcz14_3
       try clear hcz23_0
       try clear hcz23_1
       try clear hcz23_2
       try clear hcz23_3
       try clear hfz10_0
       try clear hfz10_1
       try clear hfz10_2
       try clear hfz10_3
       try clear hfz12_0
       try clear hfz12_1
       try clear hfz12_2
       try clear hfz12_3
       try clear hfz14_0
       try clear hfz14_1
       try clear hfz14_2
       try clear hfz14_3
       try clear hfz23_0
       try clear hfz23_1
       try clear hfz23_2
       try clear hfz23_3
       try clear hx413_0
       try clear p2
       try clear p413
       try clear q413
       obtain ⟨x5_2,x8_2,rfl,HA,HK2,HO_5,HO_6,HO_7,BK407,HB⟩:=hrel
       cases gk with
       | zero => exact absurd HA.out (by simp [spec_FloodOver.l0])
       | succ k2 =>
        have H:=HA.out
        clear HA
        simp only [spec_FloodOver.l0] at H
        by_cases c25 : x8_2 < (t417.length : Int)
        ·rw [if_pos c25] at H
         have c25b0 : decide (x8_2 < (t417.length : Int)) = true:=decide_eq_true c25
         clear c25
         by_cases c26 : 0 ≤ x8_2
         ·rw [if_pos c26] at H
          have c26b0 : decide (0 ≤ x8_2) = true:=decide_eq_true c26
          clear c26
          by_cases c27 : 0 ≤ (rd t417 x8_2)
          ·rw [if_pos c27] at H
           have c27b0 : decide (0 ≤ (rd t417 x8_2)) = true:=decide_eq_true c27
           clear c27
           by_cases c28 : (rd t417 x8_2) < (l0_1.length : Int)
           ·rw [if_pos c28] at H
            have c28b0 : decide ((rd t417 x8_2) < (l0_1.length : Int)) = true:=decide_eq_true c28
            clear c28
            by_cases c29 : 0 ≤ ((rd_T51 l0_1 (rd t417 x8_2)).f0)
            ·rw [if_pos c29] at H
             have c29b0 : decide (0 ≤ ((rd_T51 l0_1 (rd t417 x8_2)).f0)) = true:=decide_eq_true c29
             clear c29
             by_cases c30 : ((rd_T51 l0_1 (rd t417 x8_2)).f0) < (t414.length : Int)
             ·rw [if_pos c30] at H
              have c30b0 : decide (((rd_T51 l0_1 (rd t417 x8_2)).f0) < (t414.length : Int)) = true:=decide_eq_true c30
              clear c30
              obtain ⟨bq31,hbq31⟩ : ∃ b_ : Bool,b_ = (rdOf false t414 ((rd_T51 l0_1 (rd t417 x8_2)).f0)):=⟨_,rfl⟩
              replace H : (if bq31 = true then (if x5_2.length < 17592186044416 then (spec_FloodOver.l0 k2 (x5_2 ++ [rd t417 x8_2]) t414 t417 (wrap64 (x8_2 + 1)) a0_0 l0_1 l0_2 l0_3) else (none)) else (spec_FloodOver.l0 k2 x5_2 t414 t417 (wrap64 (x8_2 + 1)) a0_0 l0_1 l0_2 l0_3)) = some r:=by rw [← hbq31] at H;exact H
              have Nbq31:=mk_ hbq31
              clear hbq31
              by_cases c32 : bq31 = true
              ·subst c32
               have H1 : (if x5_2.length < 17592186044416 then (spec_FloodOver.l0 k2 (x5_2 ++ [rd t417 x8_2]) t414 t417 (wrap64 (x8_2 + 1)) a0_0 l0_1 l0_2 l0_3) else (none)) = some r:=by rw [if_pos rfl] at H;exact H
               clear H
               have H:=H1
               clear H1
               by_cases c33 : x5_2.length < 17592186044416
               ·rw [if_pos c33] at H
                have LMc33:=mk_ c33
                clear c33
                obtain ⟨y424,hy424⟩ : ∃ y_ : List Int,y_ = (x5_2 ++ [rd t417 x8_2]):=⟨_,rfl⟩
                replace H : (spec_FloodOver.l0 k2 y424 t414 t417 (wrap64 (x8_2 + 1)) a0_0 l0_1 l0_2 l0_3) = some r:=by first|(rw [hy424];with_reducible exact H)|(have H2_:=(Option.bind_some _ _).symm.trans H;rw [hy424];with_reducible exact H2_)|(have H2_:=(Option.bind_some _ _).symm.trans H;with_reducible exact H2_)|with_reducible exact H|(rw [hy424];exact H)|exact H
                have Ny424:=mk_ hy424
                clear hy424
                have H':=mk_ H
                clear H
                obtain ⟨Ao34,co34,eo34⟩:=Kd.R_slice HO_7.out
                subst eo34
                try go_wp2
                have n0_:=mk_ (rd_ HO_5.out)
                have n1_:=mk_ (rd_ HO_6.out)
                have n2_:=mk_ (rd_ HO_7.out)
                have n3_:=mk_ (kd_ BK407.out)
                have n4_:=mk_ (bd_ HB.out)
                clear HO_5
                clear HO_6
                clear HO_7
                clear BK407
                clear HB
                have HO_5:=n0_
                have HO_6:=n1_
                have HO_7:=n2_
                have BK407:=n3_
                have HB:=n4_
                clear n0_ n1_ n2_ n3_ n4_
                have p420 : 0 ≤ (x8_2 : Int):=od_ (by first|(with_reducible assumption)|assumption)
                have q420 : x8_2 < (t417.length : Int):=od_ (by first|(with_reducible assumption)|assumption)
                obtain ⟨ad420,e420,hx420_0⟩:=Kd.at_int (rr_ HO_7.out).2.2 x8_2 p420 q420
                cases e420
                replace p420:=eq_true p420
                replace q420:=eq_true q420
                have p421 : 0 ≤ ((rd t417 x8_2) : Int):=od_ (by first|(with_reducible assumption)|assumption)
                have q421 : (rd t417 x8_2) < (l0_1.length : Int):=od_ (by first|(with_reducible assumption)|assumption)
                obtain ⟨ad421,e421,hx421_0,hx421_1,hx421_2⟩:=at_T51 HR0_1.out (rd t417 x8_2) p421 q421
                have hw421_2:=hx421_2
                have hw421_1:=hx421_1
                have hw421_0:=hx421_0
                cases e421
                replace hx421_0:=(HB.out.cell (wl_ w _ hx421_0)).trans hx421_0
                replace hx421_1:=(HB.out.cell (wl_ w _ hx421_1)).trans hx421_1
                replace hx421_2:=(HB.out.cell (wl_ w _ hx421_2)).trans hx421_2
                replace p421:=eq_true p421
                replace q421:=eq_true q421
                obtain ⟨Ao36,co36,eo36⟩:=Kd.R_slice HO_6.out
                (first|subst eo36|(injection eo36 with f1_ f2_ f3_;have f4_:=f1_.symm;have f5_:=f3_.symm;clear f1_ f2_ f3_;subst f4_;subst f5_))
                have p422 : 0 ≤ (((rd_T51 l0_1 (rd t417 x8_2)).f0) : Int):=od_ (by first|(with_reducible assumption)|assumption)
                have q422 : ((rd_T51 l0_1 (rd t417 x8_2)).f0) < (t414.length : Int):=od_ (by first|(with_reducible assumption)|assumption)
                obtain ⟨ad422,e422,hx422_0⟩:=Kd.at_bool (rr_ HO_6.out).2.2 ((rd_T51 l0_1 (rd t417 x8_2)).f0) p422 q422
                (try rw [← Nbq31.out] at hx422_0)
                cases e422
                replace p422:=eq_true p422
                replace q422:=eq_true q422
                refine start_ (n:=12) (S:=fun w' => w'.cell? ⟨gb407,0,none⟩ = some (.int .i64 a0_0) ∧ w'.cell? ⟨gb407,1,none⟩ = some (.slice (some ad421) l0_1.length c0_1) ∧ w'.cell? ⟨gb407,2,none⟩ = some (.slice (some ad413) l0_2.length c0_2) ∧ w'.cell? ⟨gb407,3,none⟩ = some (.slice A0_3 l0_3.length c0_3) ∧ w'.cell? (ad420.add (x8_2).toNat) = some (.int .i64 (rd t417 x8_2)) ∧ w'.cell? (ad421.add (((rd t417 x8_2)).toNat * 3)) = some (.int .i64 ((rd_T51 l0_1 (rd t417 x8_2)).f0)) ∧ w'.cell? ⟨(ad421.add (((rd t417 x8_2)).toNat * 3)).block,(ad421.add (((rd t417 x8_2)).toNat * 3)).off + 1,none⟩ = some (.int .i64 ((rd_T51 l0_1 (rd t417 x8_2)).f1)) ∧ w'.cell? ⟨(ad421.add (((rd t417 x8_2)).toNat * 3)).block,(ad421.add (((rd t417 x8_2)).toNat * 3)).off + 2,none⟩ = some (.int .i64 ((rd_T51 l0_1 (rd t417 x8_2)).f2)) ∧ w'.cell? (ad422.add (((rd_T51 l0_1 (rd t417 x8_2)).f0)).toNat) = some (.bool true)) (ds:=[]) #[false,false,false,false,false,false,false,false,false,false,false,false] (by kernel_rfl) rfl rfl ⟨(bc_ BK407.out 0).trans rfl,(bc_ BK407.out 1).trans rfl,(bc_ BK407.out 2).trans rfl,(bc_ BK407.out 3).trans rfl,hx420_0,((HB.out.cell (wl_ w _ hw421_0)).trans hw421_0),((HB.out.cell (wl_ w _ hw421_1)).trans hw421_1),((HB.out.cell (wl_ w _ hw421_2)).trans hw421_2),hx422_0⟩ (fun hHeld => ?_);refine with_tabW spec_FloodOver.tab9 spec_FloodOver.bits9 (fun HT_ HW_ => ?_)
                generalize wr.drew = w35 at HO_5 HO_6 HO_7 BK407 HB hx420_0 hx421_0 hx421_1 hx421_2 hx422_0 hHeld ⊢
                refine pure_ (i:=0) (N:=some 41) (v:=?_) (a':=?_) #[true,false,false,false,false,false,false,false,false,false,false,false] rfl rfl (any_of HT_.out (by kernel_rfl)) (fun _ _ _ h => h) (Or.inl ⟨by rfl,?_⟩) ?_ ?_
                rotate_left
                ·intro w'
                 go_simp
                 with_reducible rfl
                rotate_left
                ·simp only [Act.put,List.setIfInBounds_toArray,List.set_cons_zero,List.set_cons_succ,i64_w,i32_w]
                 rfl
                refine pure_ (i:=1) (N:=some 42) (v:=?_) (a':=?_) #[true,true,false,false,false,false,false,false,false,false,false,false] rfl rfl (any_of HT_.out (by kernel_rfl)) (fun _ _ _ h => h) (Or.inl ⟨by rfl,?_⟩) ?_ ?_
                rotate_left
                ·intro w'
                 go_simp
                 with_reducible rfl
                rotate_left
                ·simp only [Act.put,List.setIfInBounds_toArray,List.set_cons_zero,List.set_cons_succ,i64_w,i32_w]
                 rfl
                refine pure_ (i:=3) (N:=some 44) (v:=?_) (a':=?_) #[true,true,false,true,false,false,false,false,false,false,false,false] rfl rfl (any_of HT_.out (by kernel_rfl)) (fun _ _ _ h => h) (Or.inl ⟨by rfl,?_⟩) ?_ ?_
                rotate_left
                ·intro w'
                 go_simp
                 with_reducible rfl
                rotate_left
                ·simp only [Act.put,List.setIfInBounds_toArray,List.set_cons_zero,List.set_cons_succ,i64_w,i32_w]
                 rfl
                refine pure_ (i:=4) (N:=some 45) (v:=?_) (a':=?_) #[true,true,false,true,true,false,false,false,false,false,false,false] rfl rfl (any_of HT_.out (by kernel_rfl)) (fun _ _ _ h => h) (Or.inl ⟨by rfl,?_⟩) ?_ ?_
                rotate_left
                ·intro w'
                 go_simp
                 with_reducible rfl
                rotate_left
                ·simp only [Act.put,List.setIfInBounds_toArray,List.set_cons_zero,List.set_cons_succ,i64_w,i32_w]
                 rfl
                refine pure_ (i:=5) (N:=some 46) (v:=?_) (a':=?_) #[true,true,false,true,true,true,false,false,false,false,false,false] rfl rfl (any_of HT_.out (by kernel_rfl)) (fun _ _ _ h => h) (Or.inl ⟨by rfl,?_⟩) ?_ ?_
                rotate_left
                ·intro w'
                 go_simp
                 with_reducible rfl
                rotate_left
                ·simp only [Act.put,List.setIfInBounds_toArray,List.set_cons_zero,List.set_cons_succ,i64_w,i32_w]
                 rfl
                refine take_ (i:=2) (N:=some 43) (v:=?_) (a':=?_) #[true,true,true,true,true,true,false,false,false,false,false,false] rfl rfl (take_ofW HT_.out HW_.out (by kernel_rfl)) (fun _ _ _ h => h) (Or.inl ⟨by rfl,?_⟩) hHeld ?_ ?_
                rotate_left
                ·rintro w' ⟨s0,s1,s2,s3,s4,s5,s6,s7,s8⟩
                 go_simp
                 with_reducible rfl
                rotate_left
                ·simp only [Act.put,List.setIfInBounds_toArray,List.set_cons_zero,List.set_cons_succ,i64_w,i32_w]
                 rfl
                refine take_ (i:=6) (N:=some 47) (v:=?_) (a':=?_) #[true,true,true,true,true,true,true,false,false,false,false,false] rfl rfl (take_ofW HT_.out HW_.out (by kernel_rfl)) (fun _ _ _ h => h) (Or.inl ⟨by rfl,?_⟩) hHeld ?_ ?_
                rotate_left
                ·rintro w' ⟨s0,s1,s2,s3,s4,s5,s6,s7,s8⟩
                 go_simp
                 with_reducible rfl
                rotate_left
                ·simp only [Act.put,List.setIfInBounds_toArray,List.set_cons_zero,List.set_cons_succ,i64_w,i32_w]
                 rfl
                refine pure_ (i:=7) (N:=some 48) (v:=?_) (a':=?_) #[true,true,true,true,true,true,true,true,false,false,false,false] rfl rfl (any_of HT_.out (by kernel_rfl)) (fun _ _ _ h => h) (Or.inl ⟨by rfl,?_⟩) ?_ ?_
                rotate_left
                ·intro w'
                 go_simp
                 with_reducible rfl
                rotate_left
                ·simp only [Act.put,List.setIfInBounds_toArray,List.set_cons_zero,List.set_cons_succ,i64_w,i32_w]
                 rfl
                refine pure_ (i:=8) (N:=some 49) (v:=?_) (a':=?_) #[true,true,true,true,true,true,true,true,true,false,false,false] rfl rfl (any_of HT_.out (by kernel_rfl)) (fun _ _ _ h => h) (Or.inl ⟨by rfl,?_⟩) ?_ ?_
                rotate_left
                ·intro w'
                 go_simp
                 with_reducible rfl
                rotate_left
                ·simp only [Act.put,List.setIfInBounds_toArray,List.set_cons_zero,List.set_cons_succ,i64_w,i32_w]
                 rfl
                refine take_ (i:=9) (N:=some 50) (v:=?_) (a':=?_) #[true,true,true,true,true,true,true,true,true,true,false,false] rfl rfl (take_ofW HT_.out HW_.out (by kernel_rfl)) (fun _ _ _ h => h) (Or.inl ⟨by rfl,?_⟩) hHeld ?_ ?_
                rotate_left
                ·rintro w' ⟨s0,s1,s2,s3,s4,s5,s6,s7,s8⟩
                 go_simp
                 with_reducible rfl
                rotate_left
                ·simp only [Act.put,List.setIfInBounds_toArray,List.set_cons_zero,List.set_cons_succ,i64_w,i32_w]
                 rfl
                refine pure_ (i:=10) (N:=some 51) (v:=?_) (a':=?_) #[true,true,true,true,true,true,true,true,true,true,true,false] rfl rfl (any_of HT_.out (by kernel_rfl)) (fun _ _ _ h => h) (Or.inl ⟨by rfl,?_⟩) ?_ ?_
                rotate_left
                ·intro w'
                 go_simp
                 with_reducible rfl
                rotate_left
                ·simp only [Act.put,List.setIfInBounds_toArray,List.set_cons_zero,List.set_cons_succ,i64_w,i32_w]
                 rfl
                refine take_ (i:=11) (N:=some 52) (v:=?_) (a':=?_) #[true,true,true,true,true,true,true,true,true,true,true,true] rfl rfl (take_ofW HT_.out HW_.out (by kernel_rfl)) (fun _ _ _ h => h) (Or.inl ⟨by rfl,?_⟩) hHeld ?_ ?_
                rotate_left
                ·rintro w' ⟨s0,s1,s2,s3,s4,s5,s6,s7,s8⟩
                 go_simp
                 with_reducible rfl
                rotate_left
                ·simp only [Act.put,List.setIfInBounds_toArray,List.set_cons_zero,List.set_cons_succ,i64_w,i32_w]
                 rfl
                refine done_ (done_of HT_.out (by kernel_rfl)) ?_
                have p423 : 0 ≤ (x8_2 : Int):=od_ (by first|(with_reducible assumption)|assumption)
                have q423 : x8_2 < (t417.length : Int):=od_ (by first|(with_reducible assumption)|assumption)
                obtain ⟨ad423,e423,hx423_0⟩:=Kd.at_int (rr_ HO_7.out).2.2 x8_2 p423 q423
                obtain rfl : ad420 = ad423:=(by injection e423)
                replace p423:=eq_true p423
                replace q423:=eq_true q423
                try go_wp2_with (first|((with_reducible refine gate_builtin (b:=.append) (xs:=#[.tmp 53,.tmp 58]) rfl ?_);at_builtin;refine Kd.R_append (Kd.int .i64) (w0:=w) w.heap.size rfl (.tmp 53) (.tmp 58) 23 3 (.int .i64 0) 8 rfl Try.underlying23 info3 rfl (by decide) (by omega) u5 x5_2 (rd t417 x8_2) [.int .i64 (rd t417 x8_2)] (fun k_ => some k_ ≠ (.slice (some ad420) t417.length co34 : Value).ownBlock) (fun _ => False) rfl rfl ?aP (fun _ hk => hk.elim) ?aF ?aO ?aB ?aS ?aL ?_;(case aP => exact rfl);(case aB => exact (by repeat (first|(with_reducible first|exact HB.out|apply ba_|apply bn_|apply bd_|refine bs_ ?_ GE407.out)|exact HB.out)));(case aF => exact (fun k_ hk => Kd.fresh' (Kd.R_lt (by (with_reducible repeat (first|apply ra_|apply rn_|apply rd_));exact HO_7.out)) k_ hk));(case aO => exact (by (with_reducible repeat (first|apply ra_|apply rn_|apply rd_));exact HO_5.out));(case aS => exact (bz_ (by repeat (first|(with_reducible first|exact HB.out|apply ba_|apply bn_|apply bd_|refine bs_ ?_ GE407.out)|exact HB.out))));(case aL => have:=LMc33.out;omega);intro v425 w37 ho hb hg hat;rw [← Ny424.out] at ho;have n0_:=mk_ (Kd.R_over' (by (with_reducible repeat (first|apply ra_|apply rn_|apply rd_));exact HO_6.out) (Kd.R_typed (by (with_reducible repeat (first|apply ra_|apply rn_|apply rd_));exact HO_5.out)) (by decide) hg);have n1_:=mk_ (Kd.R_after (ok:=(fun _ => True)) (by (with_reducible repeat (first|apply ra_|apply rn_|apply rd_));exact rm_ HO_7.out (fun _ hk => ⟨trivial,hk⟩)) hg hat);have n2_:=mk_ (blk_grown (g:=gb407) (o:=.cells #[.int .i64 a0_0,.slice (some ad421) l0_1.length c0_1,.slice (some ad413) l0_2.length c0_2,.slice A0_3 l0_3.length c0_3] 30 (0,0)) (by (with_reducible repeat (first|refine kn_ ?_ _|refine kd_ ?_|refine ka_ ?_ _));exact BK407.out) hg (Kd.R_ne HO_5.out BK407.out (by decide)));have n3_:=mk_ (hb);have n4_:=mk_ (ho);clear HO_6;clear HO_7;clear BK407;clear HB;clear HO_5;have HO_6:=n0_;have HO_7:=n1_;have BK407:=n2_;have HB:=n3_;have HO426:=n4_;clear n0_ n1_ n2_ n3_ n4_;clear ho hb hg hat))
                go_roundg k2
                case measure => have:=HJ2.out;have:=HK2.out;omega
                case rel => exact ⟨(y424),(wrap64 (x8_2 + 1)),(by first|rfl|(simp;done)|(simp [*];done)),H',⟨by have:=HJ2.out;have:=HK2.out;omega⟩,⟨by (with_reducible repeat (first|apply ra_|apply rn_|apply rd_));exact HO426.out⟩,⟨by (with_reducible repeat (first|apply ra_|apply rn_|apply rd_));exact HO_6.out⟩,⟨by (with_reducible repeat (first|apply ra_|apply rn_|apply rd_));exact rm_ HO_7.out (fun _ hk => hk.2)⟩,⟨by (with_reducible repeat (first|refine kn_ ?_ _|refine kd_ ?_|refine ka_ ?_ _));exact BK407.out⟩,⟨by repeat (first|(with_reducible first|exact HB.out|apply ba_|apply bn_|apply bd_|refine bs_ ?_ GE407.out)|exact HB.out)⟩⟩
               ·rw [if_neg c33] at H
                exact absurd H (by simp)
              ·replace c32:=Bool.eq_false_iff.mpr c32
               subst c32
               have H1 : (spec_FloodOver.l0 k2 x5_2 t414 t417 (wrap64 (x8_2 + 1)) a0_0 l0_1 l0_2 l0_3) = some r:=by rw [if_neg (show ¬ (false = true) by decide)] at H;exact H
               clear H
               have H:=H1
               clear H1
               have H':=mk_ H
               clear H
               obtain ⟨Ao38,co38,eo38⟩:=Kd.R_slice HO_7.out
               subst eo38
               try go_wp2
               have n0_:=mk_ (rd_ HO_5.out)
               have n1_:=mk_ (rd_ HO_6.out)
               have n2_:=mk_ (rd_ HO_7.out)
               have n3_:=mk_ (kd_ BK407.out)
               have n4_:=mk_ (bd_ HB.out)
               clear HO_5
               clear HO_6
               clear HO_7
               clear BK407
               clear HB
               have HO_5:=n0_
               have HO_6:=n1_
               have HO_7:=n2_
               have BK407:=n3_
               have HB:=n4_
               clear n0_ n1_ n2_ n3_ n4_
               have p420 : 0 ≤ (x8_2 : Int):=od_ (by first|(with_reducible assumption)|assumption)
               have q420 : x8_2 < (t417.length : Int):=od_ (by first|(with_reducible assumption)|assumption)
               obtain ⟨ad420,e420,hx420_0⟩:=Kd.at_int (rr_ HO_7.out).2.2 x8_2 p420 q420
               cases e420
               replace p420:=eq_true p420
               replace q420:=eq_true q420
               have p421 : 0 ≤ ((rd t417 x8_2) : Int):=od_ (by first|(with_reducible assumption)|assumption)
               have q421 : (rd t417 x8_2) < (l0_1.length : Int):=od_ (by first|(with_reducible assumption)|assumption)
               obtain ⟨ad421,e421,hx421_0,hx421_1,hx421_2⟩:=at_T51 HR0_1.out (rd t417 x8_2) p421 q421
               have hw421_2:=hx421_2
               have hw421_1:=hx421_1
               have hw421_0:=hx421_0
               cases e421
               replace hx421_0:=(HB.out.cell (wl_ w _ hx421_0)).trans hx421_0
               replace hx421_1:=(HB.out.cell (wl_ w _ hx421_1)).trans hx421_1
               replace hx421_2:=(HB.out.cell (wl_ w _ hx421_2)).trans hx421_2
               replace p421:=eq_true p421
               replace q421:=eq_true q421
               obtain ⟨Ao40,co40,eo40⟩:=Kd.R_slice HO_6.out
               (first|subst eo40|(injection eo40 with f1_ f2_ f3_;have f4_:=f1_.symm;have f5_:=f3_.symm;clear f1_ f2_ f3_;subst f4_;subst f5_))
               have p422 : 0 ≤ (((rd_T51 l0_1 (rd t417 x8_2)).f0) : Int):=od_ (by first|(with_reducible assumption)|assumption)
               have q422 : ((rd_T51 l0_1 (rd t417 x8_2)).f0) < (t414.length : Int):=od_ (by first|(with_reducible assumption)|assumption)
               obtain ⟨ad422,e422,hx422_0⟩:=Kd.at_bool (rr_ HO_6.out).2.2 ((rd_T51 l0_1 (rd t417 x8_2)).f0) p422 q422
               (try rw [← Nbq31.out] at hx422_0)
               cases e422
               replace p422:=eq_true p422
               replace q422:=eq_true q422
               refine start_ (n:=12) (S:=fun w' => w'.cell? ⟨gb407,0,none⟩ = some (.int .i64 a0_0) ∧ w'.cell? ⟨gb407,1,none⟩ = some (.slice (some ad421) l0_1.length c0_1) ∧ w'.cell? ⟨gb407,2,none⟩ = some (.slice (some ad413) l0_2.length c0_2) ∧ w'.cell? ⟨gb407,3,none⟩ = some (.slice A0_3 l0_3.length c0_3) ∧ w'.cell? (ad420.add (x8_2).toNat) = some (.int .i64 (rd t417 x8_2)) ∧ w'.cell? (ad421.add (((rd t417 x8_2)).toNat * 3)) = some (.int .i64 ((rd_T51 l0_1 (rd t417 x8_2)).f0)) ∧ w'.cell? ⟨(ad421.add (((rd t417 x8_2)).toNat * 3)).block,(ad421.add (((rd t417 x8_2)).toNat * 3)).off + 1,none⟩ = some (.int .i64 ((rd_T51 l0_1 (rd t417 x8_2)).f1)) ∧ w'.cell? ⟨(ad421.add (((rd t417 x8_2)).toNat * 3)).block,(ad421.add (((rd t417 x8_2)).toNat * 3)).off + 2,none⟩ = some (.int .i64 ((rd_T51 l0_1 (rd t417 x8_2)).f2)) ∧ w'.cell? (ad422.add (((rd_T51 l0_1 (rd t417 x8_2)).f0)).toNat) = some (.bool false)) (ds:=[]) #[false,false,false,false,false,false,false,false,false,false,false,false] (by kernel_rfl) rfl rfl ⟨(bc_ BK407.out 0).trans rfl,(bc_ BK407.out 1).trans rfl,(bc_ BK407.out 2).trans rfl,(bc_ BK407.out 3).trans rfl,hx420_0,((HB.out.cell (wl_ w _ hw421_0)).trans hw421_0),((HB.out.cell (wl_ w _ hw421_1)).trans hw421_1),((HB.out.cell (wl_ w _ hw421_2)).trans hw421_2),hx422_0⟩ (fun hHeld => ?_);refine with_tabW spec_FloodOver.tab9 spec_FloodOver.bits9 (fun HT_ HW_ => ?_)
               generalize wr.drew = w39 at HO_5 HO_6 HO_7 BK407 HB hx420_0 hx421_0 hx421_1 hx421_2 hx422_0 hHeld ⊢
               refine pure_ (i:=0) (N:=some 41) (v:=?_) (a':=?_) #[true,false,false,false,false,false,false,false,false,false,false,false] rfl rfl (any_of HT_.out (by kernel_rfl)) (fun _ _ _ h => h) (Or.inl ⟨by rfl,?_⟩) ?_ ?_
               rotate_left
               ·intro w'
                go_simp
                with_reducible rfl
               rotate_left
               ·simp only [Act.put,List.setIfInBounds_toArray,List.set_cons_zero,List.set_cons_succ,i64_w,i32_w]
                rfl
               refine pure_ (i:=1) (N:=some 42) (v:=?_) (a':=?_) #[true,true,false,false,false,false,false,false,false,false,false,false] rfl rfl (any_of HT_.out (by kernel_rfl)) (fun _ _ _ h => h) (Or.inl ⟨by rfl,?_⟩) ?_ ?_
               rotate_left
               ·intro w'
                go_simp
                with_reducible rfl
               rotate_left
               ·simp only [Act.put,List.setIfInBounds_toArray,List.set_cons_zero,List.set_cons_succ,i64_w,i32_w]
                rfl
               refine pure_ (i:=3) (N:=some 44) (v:=?_) (a':=?_) #[true,true,false,true,false,false,false,false,false,false,false,false] rfl rfl (any_of HT_.out (by kernel_rfl)) (fun _ _ _ h => h) (Or.inl ⟨by rfl,?_⟩) ?_ ?_
               rotate_left
               ·intro w'
                go_simp
                with_reducible rfl
               rotate_left
               ·simp only [Act.put,List.setIfInBounds_toArray,List.set_cons_zero,List.set_cons_succ,i64_w,i32_w]
                rfl
               refine pure_ (i:=4) (N:=some 45) (v:=?_) (a':=?_) #[true,true,false,true,true,false,false,false,false,false,false,false] rfl rfl (any_of HT_.out (by kernel_rfl)) (fun _ _ _ h => h) (Or.inl ⟨by rfl,?_⟩) ?_ ?_
               rotate_left
               ·intro w'
                go_simp
                with_reducible rfl
               rotate_left
               ·simp only [Act.put,List.setIfInBounds_toArray,List.set_cons_zero,List.set_cons_succ,i64_w,i32_w]
                rfl
               refine pure_ (i:=5) (N:=some 46) (v:=?_) (a':=?_) #[true,true,false,true,true,true,false,false,false,false,false,false] rfl rfl (any_of HT_.out (by kernel_rfl)) (fun _ _ _ h => h) (Or.inl ⟨by rfl,?_⟩) ?_ ?_
               rotate_left
               ·intro w'
                go_simp
                with_reducible rfl
               rotate_left
               ·simp only [Act.put,List.setIfInBounds_toArray,List.set_cons_zero,List.set_cons_succ,i64_w,i32_w]
                rfl
               refine take_ (i:=2) (N:=some 43) (v:=?_) (a':=?_) #[true,true,true,true,true,true,false,false,false,false,false,false] rfl rfl (take_ofW HT_.out HW_.out (by kernel_rfl)) (fun _ _ _ h => h) (Or.inl ⟨by rfl,?_⟩) hHeld ?_ ?_
               rotate_left
               ·rintro w' ⟨s0,s1,s2,s3,s4,s5,s6,s7,s8⟩
                go_simp
                with_reducible rfl
               rotate_left
               ·simp only [Act.put,List.setIfInBounds_toArray,List.set_cons_zero,List.set_cons_succ,i64_w,i32_w]
                rfl
               refine take_ (i:=6) (N:=some 47) (v:=?_) (a':=?_) #[true,true,true,true,true,true,true,false,false,false,false,false] rfl rfl (take_ofW HT_.out HW_.out (by kernel_rfl)) (fun _ _ _ h => h) (Or.inl ⟨by rfl,?_⟩) hHeld ?_ ?_
               rotate_left
               ·rintro w' ⟨s0,s1,s2,s3,s4,s5,s6,s7,s8⟩
                go_simp
                with_reducible rfl
               rotate_left
               ·simp only [Act.put,List.setIfInBounds_toArray,List.set_cons_zero,List.set_cons_succ,i64_w,i32_w]
                rfl
               refine pure_ (i:=7) (N:=some 48) (v:=?_) (a':=?_) #[true,true,true,true,true,true,true,true,false,false,false,false] rfl rfl (any_of HT_.out (by kernel_rfl)) (fun _ _ _ h => h) (Or.inl ⟨by rfl,?_⟩) ?_ ?_
               rotate_left
               ·intro w'
                go_simp
                with_reducible rfl
               rotate_left
               ·simp only [Act.put,List.setIfInBounds_toArray,List.set_cons_zero,List.set_cons_succ,i64_w,i32_w]
                rfl
               refine pure_ (i:=8) (N:=some 49) (v:=?_) (a':=?_) #[true,true,true,true,true,true,true,true,true,false,false,false] rfl rfl (any_of HT_.out (by kernel_rfl)) (fun _ _ _ h => h) (Or.inl ⟨by rfl,?_⟩) ?_ ?_
               rotate_left
               ·intro w'
                go_simp
                with_reducible rfl
               rotate_left
               ·simp only [Act.put,List.setIfInBounds_toArray,List.set_cons_zero,List.set_cons_succ,i64_w,i32_w]
                rfl
               refine take_ (i:=9) (N:=some 50) (v:=?_) (a':=?_) #[true,true,true,true,true,true,true,true,true,true,false,false] rfl rfl (take_ofW HT_.out HW_.out (by kernel_rfl)) (fun _ _ _ h => h) (Or.inl ⟨by rfl,?_⟩) hHeld ?_ ?_
               rotate_left
               ·rintro w' ⟨s0,s1,s2,s3,s4,s5,s6,s7,s8⟩
                go_simp
                with_reducible rfl
               rotate_left
               ·simp only [Act.put,List.setIfInBounds_toArray,List.set_cons_zero,List.set_cons_succ,i64_w,i32_w]
                rfl
               refine pure_ (i:=10) (N:=some 51) (v:=?_) (a':=?_) #[true,true,true,true,true,true,true,true,true,true,true,false] rfl rfl (any_of HT_.out (by kernel_rfl)) (fun _ _ _ h => h) (Or.inl ⟨by rfl,?_⟩) ?_ ?_
               rotate_left
               ·intro w'
                go_simp
                with_reducible rfl
               rotate_left
               ·simp only [Act.put,List.setIfInBounds_toArray,List.set_cons_zero,List.set_cons_succ,i64_w,i32_w]
                rfl
               refine take_ (i:=11) (N:=some 52) (v:=?_) (a':=?_) #[true,true,true,true,true,true,true,true,true,true,true,true] rfl rfl (take_ofW HT_.out HW_.out (by kernel_rfl)) (fun _ _ _ h => h) (Or.inl ⟨by rfl,?_⟩) hHeld ?_ ?_
               rotate_left
               ·rintro w' ⟨s0,s1,s2,s3,s4,s5,s6,s7,s8⟩
                go_simp
                with_reducible rfl
               rotate_left
               ·simp only [Act.put,List.setIfInBounds_toArray,List.set_cons_zero,List.set_cons_succ,i64_w,i32_w]
                rfl
               refine done_ (done_of HT_.out (by kernel_rfl)) ?_
               try go_wp2
               go_roundg k2
               case measure => have:=HJ2.out;have:=HK2.out;omega
               case rel => exact ⟨(x5_2),(wrap64 (x8_2 + 1)),(by first|rfl|(simp;done)|(simp [*];done)),H',⟨by have:=HJ2.out;have:=HK2.out;omega⟩,⟨by (with_reducible repeat (first|apply ra_|apply rn_|apply rd_));exact HO_5.out⟩,⟨by (with_reducible repeat (first|apply ra_|apply rn_|apply rd_));exact HO_6.out⟩,⟨by (with_reducible repeat (first|apply ra_|apply rn_|apply rd_));exact HO_7.out⟩,⟨by (with_reducible repeat (first|refine kn_ ?_ _|refine kd_ ?_|refine ka_ ?_ _));exact BK407.out⟩,⟨by repeat (first|(with_reducible first|exact HB.out|apply ba_|apply bn_|apply bd_|refine bs_ ?_ GE407.out)|exact HB.out)⟩⟩
             ·rw [if_neg c30] at H
              exact absurd H (by simp)
            ·rw [if_neg c29] at H
             exact absurd H (by simp)
           ·rw [if_neg c28] at H
            exact absurd H (by simp)
          ·rw [if_neg c27] at H
           exact absurd H (by simp)
         ·rw [if_neg c26] at H
          exact absurd H (by simp)
        ·rw [if_neg c25] at H
         have c25b0 : decide (x8_2 < (t417.length : Int)) = false:=decide_eq_false c25
         clear c25
         obtain rfl:=Option.some.inj H
         obtain ⟨Ao41,co41,eo41⟩:=Kd.R_slice HO_7.out
         subst eo41
         go_wp2
         go_ret
         exact ⟨_,by first|rfl|(simp [errW_none,errW_some] <;> rfl)|(simp [*,errW_none,errW_some] <;> rfl),by (with_reducible repeat (first|apply ra_|apply rn_|apply rd_));exact rm_ HO_5.out (fun _ hk => trivial),by repeat (first|(with_reducible first|exact HB.out|apply ba_|apply bn_|apply bd_|refine bs_ ?_ GE407.out)|exact HB.out)⟩
     ·rw [if_neg c18] at H
      exact absurd H (by simp)
    ·rw [if_neg c17] at H
     exact absurd H (by simp)

-- LIB rowopen
/-- What reads as data of a type is of a kind; its lengths are a slice's, its numbers are of their kinds. -/
structure Opn {α : Type} (P : Program) (d : Kd α) (t : TypeId) (wf : α → Prop) : Prop where
  out : ∀ {H : Type} (enc : TypeId × Value → H) (w : World) (fuel : Nat) (cs : List Value) (x : DataW H × List MemPlace), DataW.trod enc P w 0 (fun _ => true) true fuel t cs = some x → ∃ a, d.K w a cs ∧ wf a
/-- The same of a struct's field, or of some fields in line, from a cell on. -/
structure OpnF {α : Type} (P : Program) (d : Kd α) (fs : Array Field) (off : Nat) (wf : α → Prop) : Prop where
  out : ∀ {H : Type} (enc : TypeId × Value → H) (w : World) (n : Nat) (cs : List Value) (xs : List (DataW H × List MemPlace)), xs.length = fs.size →
    (∀ (i : Nat) (f : Field), fs[i]? = some f → DataW.trod enc P w 0 (fun _ => true) true n f.type ((cs.drop f.offset).take (P.cellsOf f.type)) = xs[i]?) → ∃ a, d.K w a ((cs.drop off).take d.sz) ∧ wf a
theorem opn_int {P : Program} {t : TypeId} {k : IntKind} (ht : P.underlying t = some (.int k)) : Opn P (Kd.int k) t (fun n => (Lit.int k n).wf = true) := by
  constructor
  intro H enc w fuel cs x h
  obtain ⟨n, rfl, _, hw⟩ := DataW.trod_int ht h
  exact ⟨n, rfl, hw⟩
theorem opn_bool {P : Program} {t : TypeId} (ht : P.underlying t = some .bool) : Opn P Kd.bool t (fun _ => True) := by
  constructor
  intro H enc w fuel cs x h
  obtain ⟨b, rfl, _⟩ := DataW.trod_bool ht h
  exact ⟨b, rfl, trivial⟩
theorem opn_slice {α : Type} {P : Program} {d : Kd α} {t e : TypeId} {wf : α → Prop} (ht : P.underlying t = some (.slice e)) (hc : P.cellsOf e = d.sz) (h : Opn P d e wf) : Opn P (Kd.slice e d) t (fun l => l.length ≤ maxLen ∧ ∀ x ∈ l, wf x) := by
  constructor
  intro H enc w fuel cs x hx
  rcases Go.Deep.open_slice ht hx with ⟨rfl, _⟩ | ⟨a, len, cap, m, n, D, Pl, rfl, _, hl, hm, hmm, _, hel⟩
  · exact ⟨[], ⟨none, 0, rfl, Nat.le_refl _, Kd.C_nil d w⟩, by simp, by simp⟩
  · have hlm : len ≤ m := by rw [hmm]; simp; exact hl
    have hch : ∀ i : Fin len, ∃ p : α, ∃ c, w.cells? 0 (a.add (i.1 * d.sz)) d.sz = some c ∧ d.K w p c ∧ wf p := by
      intro i
      obtain ⟨c, h1, h2⟩ := hel i.1 (by omega)
      obtain ⟨p, h3, h4⟩ := h.out enc w n c _ h2
      rw [hc] at h1
      exact ⟨p, c, h1, h3, h4⟩
    obtain ⟨f, hf⟩ : ∃ f : Fin len → α, ∀ i : Fin len, ∃ c, w.cells? 0 (a.add (i.1 * d.sz)) d.sz = some c ∧ d.K w (f i) c ∧ wf (f i) := ⟨fun i => Classical.choose (hch i), fun i => Classical.choose_spec (hch i)⟩
    have hlen : (List.ofFn f).length = len := List.length_ofFn
    refine ⟨List.ofFn f, ⟨some a, cap, by rw [hlen], by omega, hlen.symm ▸ rfl, ?_, fun hn => ⟨a, rfl, ?_⟩⟩, by rw [hlen]; omega, ?_⟩
    · rw [hlen]; unfold maxLen at hm; omega
    · intro j p hj
      have hjl : j < len := by rw [← hlen]; exact (List.getElem?_eq_some_iff.1 hj).1
      obtain ⟨c, h1, h2, _⟩ := hf ⟨j, hjl⟩
      obtain ⟨_, h3, h4⟩ := World.cells?_some h1
      rw [List.getElem?_ofFn, dif_pos hjl] at hj
      injection hj with hj
      rw [← hj]
      refine ⟨c, h3, h2, fun i u hu => ?_⟩
      have hi : i < d.sz := by rw [← h3]; exact (List.getElem?_eq_some_iff.1 hu).1
      have := h4 i hi
      rw [hu] at this
      rw [← this, Addr.add_add]
    · intro p hp
      obtain ⟨i, rfl⟩ := (List.mem_ofFn).1 hp
      obtain ⟨_, _, _, hw⟩ := hf i
      exact hw
theorem opnF_field {α : Type} {P : Program} {d : Kd α} {fs : Array Field} {wf : α → Prop} {off : Nat} (j : Nat) (f : Field) (hf : fs[j]? = some f) (ho : f.offset = off) (hc : P.cellsOf f.type = d.sz) (h : Opn P d f.type wf) : OpnF P d fs off wf := by
  subst ho
  constructor
  intro H enc w n cs xs hl hx
  have hj : j < fs.size := (Array.getElem?_eq_some_iff.1 hf).1
  have h1 := hx j f hf
  rw [List.getElem?_eq_getElem (by omega), hc] at h1
  exact h.out enc w n _ _ h1
theorem opnF_pair {α β : Type} {P : Program} {a : Kd α} {b : Kd β} {fs : Array Field} {off : Nat} {wa : α → Prop} {wb : β → Prop} (ha : OpnF P a fs off wa) (hb : OpnF P b fs (off + a.sz) wb) : OpnF P (Kd.pair a b) fs off (fun p => wa p.1 ∧ wb p.2) := by
  constructor
  intro H enc w n cs xs hl hx
  obtain ⟨p, h1, h2⟩ := ha.out enc w n cs xs hl hx
  obtain ⟨q, h3, h4⟩ := hb.out enc w n cs xs hl hx
  refine ⟨(p, q), ⟨_, _, ?_, h1, h3⟩, h2, h4⟩
  show (cs.drop off).take (a.sz + b.sz) = _
  rw [List.take_add, List.drop_drop]
theorem opn_struct {α β : Type} {P : Program} {d : Kd α} {t : TypeId} {fs : Array Field} {wf : α → Prop} (f : β → α) (g : α → β) (hg : ∀ a, f (g a) = a) (ht : P.underlying t = some (.struct fs)) (hc : P.cellsOf t = d.sz) (h : OpnF P d fs 0 wf) : Opn P (Kd.iso d f) t (fun x => wf (f x)) := by
  constructor
  intro H enc w fuel cs x hx
  obtain ⟨xs, n, _, _, hl, hlen, hf⟩ := DataW.trod_struct ht hx
  obtain ⟨a, h1, h2⟩ := h.out enc w n cs xs hlen hf
  rw [List.drop_zero, List.take_of_length_le (by omega)] at h1
  refine ⟨g a, ?_, ?_⟩
  · show d.K w (f (g a)) cs
    rw [hg]; exact h1
  · show wf (f (g a))
    rw [hg]; exact h2
/-- A parameter that is a slice. -/
theorem open_rowC {α : Type} {P : Program} {d : Kd α} {t e : TypeId} {wf : List α → Prop} {H : Type} {enc : TypeId × Value → H} {w : World} {a : Option Addr} {len cap : Nat} {dd : DataW H} {p : List MemPlace} (h : Opn P (Kd.slice e d) t wf) (hx : DataW.Trod enc P w 0 (fun _ => true) true t (.slice a len cap) dd p) :
    ∃ l : List α, len = l.length ∧ l.length ≤ cap ∧ d.C w a l.length l ∧ wf l := by
  obtain ⟨fuel, hf⟩ := hx
  obtain ⟨l, ⟨A, c, hcs, h1, h2⟩, h3⟩ := h.out enc w fuel _ _ hf
  simp only [Value.cells] at hcs
  have e := List.singleton_inj.1 hcs
  cases e
  exact ⟨l, rfl, h1, h2, h3⟩
/-- A parameter that is a struct. -/
theorem open_aggK {α : Type} {P : Program} {d : Kd α} {t : TypeId} {wf : α → Prop} {H : Type} {enc : TypeId × Value → H} {w : World} {cs : Array Value} {dd : DataW H} {p : List MemPlace} (h : Opn P d t wf) (hx : DataW.Trod enc P w 0 (fun _ => true) true t (.agg cs) dd p) : ∃ x : α, d.K w x cs.toList ∧ wf x := by
  obtain ⟨fuel, hf⟩ := hx
  exact h.out enc w fuel _ _ hf

-- LIB opnT79
theorem opnT79 : Opn Try.prog k79 79 (fun x => ((Lit.int .i64 x.f0).wf = true ∧ ((Lit.int .i64 x.f1).wf = true ∧ (Lit.int .i64 x.f2).wf = true))) := by
  have h := opn_struct (P := Try.prog) (d := (Kd.pair (Kd.int .i64) (Kd.pair (Kd.int .i64) (Kd.int .i64)))) (t := 79) (fun x : S79 => (x.f0, x.f1, x.f2)) (fun p => ⟨p.1, p.2.1, p.2.2⟩) (fun _ => rfl) Try.underlying79 (by kernel_rfl) (opnF_pair (opnF_field 0 _ rfl rfl (by kernel_rfl) (opn_int (P := Try.prog) (t := 3) (k := .i64) (by kernel_rfl))) (opnF_pair (opnF_field 1 _ rfl rfl (by kernel_rfl) (opn_int (P := Try.prog) (t := 3) (k := .i64) (by kernel_rfl))) (opnF_field 2 _ rfl rfl (by kernel_rfl) (opn_int (P := Try.prog) (t := 3) (k := .i64) (by kernel_rfl)))))
  exact h


-- LIB opnT25
theorem opnT25 : Opn Try.prog k25 25 (fun x => ((Lit.int .i64 x.f0).wf = true ∧ ((x.f1.length ≤ maxLen ∧ ∀ y0 ∈ x.f1, ((Lit.int .i64 y0.f0).wf = true ∧ ((Lit.int .i64 y0.f1).wf = true ∧ (Lit.int .i64 y0.f2).wf = true))) ∧ ((x.f2.length ≤ maxLen ∧ ∀ y0 ∈ x.f2, (Lit.int .i64 y0).wf = true) ∧ (x.f3.length ≤ maxLen ∧ ∀ y0 ∈ x.f3, (Lit.int .i64 y0).wf = true))))) := by
  have h := opn_struct (P := Try.prog) (d := (Kd.pair (Kd.int .i64) (Kd.pair (Kd.slice 79 k79) (Kd.pair (Kd.slice 3 (Kd.int .i64)) (Kd.slice 3 (Kd.int .i64)))))) (t := 25) (fun x : S25 => (x.f0, x.f1, x.f2, x.f3)) (fun p => ⟨p.1, p.2.1, p.2.2.1, p.2.2.2⟩) (fun _ => rfl) Try.underlying25 (by kernel_rfl) (opnF_pair (opnF_field 0 _ rfl rfl (by kernel_rfl) (opn_int (P := Try.prog) (t := 3) (k := .i64) (by kernel_rfl))) (opnF_pair (opnF_field 1 _ rfl rfl (by kernel_rfl) (opn_slice (P := Try.prog) (t := 22) (e := 79) (by kernel_rfl) (by kernel_rfl) opnT79)) (opnF_pair (opnF_field 2 _ rfl rfl (by kernel_rfl) (opn_slice (P := Try.prog) (t := 23) (e := 3) (by kernel_rfl) (by kernel_rfl) (opn_int (P := Try.prog) (t := 3) (k := .i64) (by kernel_rfl)))) (opnF_field 3 _ rfl rfl (by kernel_rfl) (opn_slice (P := Try.prog) (t := 23) (e := 3) (by kernel_rfl) (by kernel_rfl) (opn_int (P := Try.prog) (t := 3) (k := .i64) (by kernel_rfl)))))))
  exact h


end Go.Proofs.Ytdamdcdjodmemaa.PAll
