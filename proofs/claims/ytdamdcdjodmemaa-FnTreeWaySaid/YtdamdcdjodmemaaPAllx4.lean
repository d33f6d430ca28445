/- Proved here: contracts of functions of the given program, or lemmas on them, for the laws of this seat. Written by xprint.py, a program of this session, on the ground of the kit's print; parts by hand: wip/x/ext. -/
import Derived.Test.YtdamdcdjodmemaaPAllx0
import Derived.Test.YtdamdcdjodmemaaPAllx1
import Derived.Test.YtdamdcdjodmemaaPAllx2
import Derived.Test.YtdamdcdjodmemaaPAllx3
namespace Go.Proofs.Ytdamdcdjodmemaa.PAll
open Go.RowKit Go.Proofs.YtdamdcdjodmemaaW.PrintWords Go.Proofs.YtdamdcdjodmemaaW.PrintLast Go.Proofs.YtdamdcdjodmemaaW.PrintMore
attribute [local go_sem] max2_int min2_int max_two min_two max_three min_three max_four min_four   -- for this text's walks alone
set_option linter.unusedVariables false
set_option linter.unusedSimpArgs false

/-! ### spec_l19Net: function 52 -/
def spec_l19Net.l0 : Nat → Int → Int → List Int → Int → Int → List (S51) → List Int → List Int → Option (Int × (List (S51)) × List Int × List Int × Int)
 | 0,_,_,_,_,_,_,_,_ => none
 | k + 1,x4,x6,x1000,x1001,x317000,x317001,x317002,x317003 => if x6 > 0 then ((spec_l21Rd_pick.f k x1000 x1001 x4).bind fun bt327 => (if x317002.length < 17592186044416 then ((spec_l21Rd_num.f k x1000 bt327.2 (([1,2,3] : List Int))).bind fun bt335 => ((spec_l21Rd_pick.f k x1000 bt335.2 bt335.1).bind fun bt337 => (if x317003.length < 17592186044416 then (spec_l19Net.l0 k x4 (wrap64 (x6 - 1)) x1000 bt337.2 x317000 x317001 (x317002 ++ [bt327.1]) (x317003 ++ [wrap64 (1 + bt337.1)])) else (none)))) else (none))) else ((spec_l21Rd_pick.f k x1000 x1001 80).bind fun bt342 => (if bt342.1 = 0 then (if 0 < (x317002.length : Int) then (some (x317000,x317001,(x317002.set (0 : Int).toNat x4),x317003,bt342.2)) else (none)) else (if bt342.1 = 1 then (if 0 < (x317003.length : Int) then (some (x317000,x317001,x317002,(x317003.set (0 : Int).toNat 0),bt342.2)) else (none)) else (if bt342.1 = 2 then (if 1 ≤ (x317003.length : Int) then (some (x317000,x317001,x317002,(x317003.drop (1 : Int).toNat),bt342.2)) else (none)) else (if bt342.1 = 3 then (some (9,x317001,x317002,x317003,bt342.2)) else (some (x317000,x317001,x317002,x317003,bt342.2)))))))
def spec_l19Net.f (k : Nat) (s0_0 : List Int) (s0_1 : Int) : Option (Int × (List (S51)) × List Int × List Int × Int):=(spec_l7Cables.f k s0_0 s0_1).bind fun bt317 => ((spec_l21Rd_num.f k s0_0 bt317.2.2 (([4,6,3,10,2,1,15] : List Int))).bind fun bt325 => (spec_l19Net.l0 k bt317.1 bt325.1 s0_0 bt325.2 bt317.1 bt317.2.1 ([] : List Int) ([] : List Int)))
theorem spec_l19Net.mono_l : ∀ k,(∀ y0 y1 y2 y3 y4 y5 y6 y7,LeO (spec_l19Net.l0 k y0 y1 y2 y3 y4 y5 y6 y7) (spec_l19Net.l0 (k + 1) y0 y1 y2 y3 y4 y5 y6 y7))
 | 0 => fun _ _ _ _ _ _ _ _ r h => by simp [spec_l19Net.l0] at h
 | k + 1 => by
  have ih0:=spec_l19Net.mono_l k
  ·intro y0 y1 y2 y3 y4 y5 y6 y7
   unfold spec_l19Net.l0
   repeat' first
   | (with_reducible exact ih0 _ _ _ _ _ _ _ _)
   | (with_reducible exact spec_l21Rd_num.mono _ _ _ _)
   | (with_reducible exact spec_l21Rd_pick.mono _ _ _ _)
   | (with_reducible exact spec_l7Cables.mono _ _ _)
   | (with_reducible exact LeO.refl _)
   | (with_reducible exact LeO.none _)
   | (with_reducible refine LeO.ite ?_ ?_)
   | (with_reducible refine LeO.bind ?_ (fun _ => ?_))
   | exact ih0 _ _ _ _ _ _ _ _
   | exact spec_l21Rd_num.mono _ _ _ _
   | exact spec_l21Rd_pick.mono _ _ _ _
   | exact spec_l7Cables.mono _ _ _
   | exact LeO.none _
   | refine LeO.ite ?_ ?_
   | refine LeO.bind ?_ (fun _ => ?_)
theorem spec_l19Net.mono : ∀ a0 a1 k,LeO (spec_l19Net.f k a0 a1) (spec_l19Net.f (k + 1) a0 a1):=by
 intro a0 a1 k
 have ih0:=spec_l19Net.mono_l k
 unfold spec_l19Net.f
 repeat' first
   | (with_reducible exact ih0 _ _ _ _ _ _ _ _)
   | (with_reducible exact spec_l21Rd_num.mono _ _ _ _)
   | (with_reducible exact spec_l21Rd_pick.mono _ _ _ _)
   | (with_reducible exact spec_l7Cables.mono _ _ _)
   | (with_reducible exact LeO.refl _)
   | (with_reducible exact LeO.none _)
   | (with_reducible refine LeO.ite ?_ ?_)
   | (with_reducible refine LeO.bind ?_ (fun _ => ?_))
   | exact ih0 _ _ _ _ _ _ _ _
   | exact spec_l21Rd_num.mono _ _ _ _
   | exact spec_l21Rd_pick.mono _ _ _ _
   | exact spec_l7Cables.mono _ _ _
   | exact LeO.none _
   | refine LeO.ite ?_ ?_
   | refine LeO.bind ?_ (fun _ => ?_)
def spec_l19Net.T8 : Bool × List (List Nat × List Nat):=(true,[([],[]),([0],[0]),([],[]),([],[]),([2,3],[2,3]),([4],[4]),([1,5,4],[1,5]),([0,1,2,3,4,5,6],[]),([7,6,6,0,1,2,3,4,5,6],[6,7])])
def spec_l19Net.B8 : List Nat:=[0,1,0,0,12,28,63,127,255]
theorem spec_l19Net.tab8 : rtab .any (opsOf Try.f52 8) = spec_l19Net.T8:=by kernel_rfl
theorem spec_l19Net.bits8 : waitsOk spec_l19Net.T8.2 spec_l19Net.B8 = true:=by kernel_rfl
def spec_l19Net.T9 : Bool × List (List Nat × List Nat):=(true,[([],[]),([0],[0]),([],[]),([],[]),([],[]),([3,4],[3,4]),([2,5,5],[2,5]),([6],[6]),([7],[7]),([1,8,6],[1,8]),([0,1,2,3,4,5,6,7,8,9],[]),([10,9,9,0,1,2,3,4,5,6,7,8,9],[9,10])])
def spec_l19Net.B9 : List Nat:=[0,1,0,0,0,24,60,124,252,511,1023,2047]
theorem spec_l19Net.tab9 : rtab .any (opsOf Try.f52 9) = spec_l19Net.T9:=by kernel_rfl
theorem spec_l19Net.bits9 : waitsOk spec_l19Net.T9.2 spec_l19Net.B9 = true:=by kernel_rfl
set_option maxHeartbeats 8000000 in
set_option maxRecDepth 100000 in
theorem spec_l19Net.calls (k : Nat) (g : Nat) (s0_0 : List Int) (s0_1 : Int) (r1 : Int) (r2 : List (S51)) (r3 : List Int) (r4 : List Int) (r5 : Int) (w0 w : World) (hI : IsS84 w0 w g s0_0 s0_1) (hB : Below w0.heap.size w0 w) (h : spec_l19Net.f k s0_0 s0_1 = some (r1,r2,r3,r4,r5)) :
  Calls Try.prog 52 #[.pointer (some ⟨g,0,none⟩)] w fun e w' => ∃ v1_ v2_ v3_ : Value,e = .returned (.agg #[.int .i64 r1,v1_,v2_,v3_]) ∧ Kd.R k51 51 w' w.heap.size (fun _ => True) v1_ r2 ∧ Kd.R (Kd.int .i64) 3 w' w.heap.size (fun k_ => some k_ ≠ (v3_ : Value).ownBlock) v2_ r3 ∧ Kd.Q (Kd.int .i64) 3 w' w.heap.size (fun k_ => some k_ ≠ (v2_ : Value).ownBlock) v3_ r4 ∧ IsS84 w0 w' g s0_0 r5 ∧ Below w0.heap.size w0 w' ∧ KeepBut w w' g none:=by
 have hu30:=Try.underlying30
 have HI0:=mk_ hI
 have HK:=mk_ (KeepBut.refl w g none)
 have HL:=mk_ hB.size
 clear hI
 have HW0:=mk_ hB.size
 have HB:=mk_ hB
 clear hB
 have H : ((spec_l7Cables.f k s0_0 s0_1).bind fun bt317 => ((spec_l21Rd_num.f k s0_0 bt317.2.2 (([4,6,3,10,2,1,15] : List Int))).bind fun bt325 => (spec_l19Net.l0 k bt317.1 bt325.1 s0_0 bt325.2 bt317.1 bt317.2.1 ([] : List Int) ([] : List Int)))) = some (r1,r2,r3,r4,r5):=h
 clear h
 replace H:=Option.bind_eq_some_iff.mp H
 obtain ⟨⟨t317,t318,t321⟩,A20,H⟩:=H
 replace H : ((spec_l21Rd_num.f k s0_0 t321 (([4,6,3,10,2,1,15] : List Int))).bind fun bt325 => (spec_l19Net.l0 k t317 bt325.1 s0_0 bt325.2 t317 t318 ([] : List Int) ([] : List Int))) = some (r1,r2,r3,r4,r5):=H
 have A2:=mk_ A20
 clear A20
 obtain ⟨y322,hy322⟩ : ∃ y_ : List Int,y_ = (([4,6,3,10,2,1,15] : List Int)):=⟨_,rfl⟩
 replace H : ((spec_l21Rd_num.f k s0_0 t321 y322).bind fun bt325 => (spec_l19Net.l0 k t317 bt325.1 s0_0 bt325.2 t317 t318 ([] : List Int) ([] : List Int))) = some (r1,r2,r3,r4,r5):=by first|(rw [hy322];with_reducible exact H)|(have H2_:=(Option.bind_some _ _).symm.trans H;rw [hy322];with_reducible exact H2_)|(have H2_:=(Option.bind_some _ _).symm.trans H;with_reducible exact H2_)|with_reducible exact H|(rw [hy322];exact H)|exact H
 have Ny322:=mk_ hy322
 clear hy322
 replace H:=Option.bind_eq_some_iff.mp H
 obtain ⟨⟨t325,t326⟩,A30,H⟩:=H
 replace H : (spec_l19Net.l0 k t317 t325 s0_0 t326 t317 t318 ([] : List Int) ([] : List Int)) = some (r1,r2,r3,r4,r5):=H
 have A3:=mk_ A30
 clear A30
 have H':=mk_ H
 clear H
 go_enter Try.func52,Try.ntmps52
 go_wp2_with (first|((with_reducible refine gate_dst (N:=2) rfl ?_);refine box_event ?hg (N:=2) ?hd (cs:=#[.int .i64 0,.slice none 0 0,.slice none 0 0,.slice none 0 0]) (t:=30) ?hr ?_;(case hd => rfl);(case hg => rfl);(case hr => first|(go_simp;done)|(go_simp;rfl));intro gb315 hg w4 hbox hb;have n0_:=mk_ (IsS84.below (u6_ HI0) hb);have n1_:=mk_ (KeepBut.trans (u7_ HK) (KeepBut.of_below hb g none) (.inl rfl));have n2_:=mk_ (st_ (u8_ HB HI0) hb);have n3_:=mk_ (hbox);have n4_:=mk_ ((by rw [hg];exact (keep_size (w:=w) (g:=g) (row:=none) (u7_ HK)) : w.heap.size ≤ gb315));have n5_:=mk_ ((Nat.le_trans HW0.out (by rw [hg];exact (keep_size (w:=w) (g:=g) (row:=none) (u7_ HK)) : w.heap.size ≤ gb315) : w0.heap.size ≤ gb315));have n6_:=mk_ ((by rw [hg];exact Nat.ne_of_lt (IsS84.lt (show IsS84 w0 _ g s0_0 s0_1 from u6_ HI0)) : g ≠ gb315));have n7_:=mk_ ((by rw [hg];exact Nat.ne_of_gt (IsS84.lt (show IsS84 w0 _ g s0_0 s0_1 from u6_ HI0)) : gb315 ≠ g));clear HI0;clear HK;clear HB;have HI0:=n0_;have HK:=n1_;have HB:=n2_;have BK315:=n3_;have GW315:=n4_;have GE315:=n5_;have NB0_315:=n6_;have NB315_0:=n7_;clear n0_ n1_ n2_ n3_ n4_ n5_ n6_ n7_;clear hb hbox hg)|((with_reducible refine gate_dst (N:=3) rfl ?_);refine box_event ?hg (N:=3) ?hd (cs:=#[.int .i64 0,.slice none 0 0,.slice none 0 0,.slice none 0 0]) (t:=30) ?hr ?_;(case hd => rfl);(case hg => rfl);(case hr => first|(go_simp;done)|(go_simp;rfl));intro gb316 hg w5 hbox hb;have n0_:=mk_ (IsS84.below (u9_ HI0 NB0_315) hb);have n1_:=mk_ (blk_below (g:=gb315) (o:=.cells #[.int .i64 0,.slice none 0 0,.slice none 0 0,.slice none 0 0] 30 (0,0)) (qk_ BK315) hb);have n2_:=mk_ (KeepBut.trans (u10_ HK GW315) (KeepBut.of_below hb g none) (.inl rfl));have n3_:=mk_ (st_ (u11_ HB HI0 GE315) hb);have n4_:=mk_ (hbox);have n5_:=mk_ ((by rw [hg];exact (keep_size (w:=w) (g:=g) (row:=none) (u10_ HK GW315)) : w.heap.size ≤ gb316));have n6_:=mk_ ((Nat.le_trans HW0.out (by rw [hg];exact (keep_size (w:=w) (g:=g) (row:=none) (u10_ HK GW315)) : w.heap.size ≤ gb316) : w0.heap.size ≤ gb316));have n7_:=mk_ ((by rw [hg];exact Nat.ne_of_lt (blk_lt (g:=gb315) (o:=.cells #[.int .i64 0,.slice none 0 0,.slice none 0 0,.slice none 0 0] 30 (0,0)) (qk_ BK315)) : gb315 ≠ gb316));have n8_:=mk_ ((by rw [hg];exact Nat.ne_of_gt (blk_lt (g:=gb315) (o:=.cells #[.int .i64 0,.slice none 0 0,.slice none 0 0,.slice none 0 0] 30 (0,0)) (qk_ BK315)) : gb316 ≠ gb315));have n9_:=mk_ ((by rw [hg];exact Nat.ne_of_lt (IsS84.lt (show IsS84 w0 _ g s0_0 s0_1 from u9_ HI0 NB0_315)) : g ≠ gb316));have n10_:=mk_ ((by rw [hg];exact Nat.ne_of_gt (IsS84.lt (show IsS84 w0 _ g s0_0 s0_1 from u9_ HI0 NB0_315)) : gb316 ≠ g));clear HI0;clear BK315;clear HK;clear HB;have HI0:=n0_;have BK315:=n1_;have HK:=n2_;have HB:=n3_;have BK316:=n4_;have GW316:=n5_;have GE316:=n6_;have NB315_316:=n7_;have NB316_315:=n8_;have NB0_316:=n9_;have NB316_0:=n10_;clear n0_ n1_ n2_ n3_ n4_ n5_ n6_ n7_ n8_ n9_ n10_;clear hb hbox hg;have hnb6:=NB316_315.out;have hnc6:=NB315_316.out;have hnb7:=NB316_0.out;have hnc7:=NB0_316.out;have hcz8_0 : w5.cell? ⟨gb316,0,none⟩ = some (.int .i64 0):=(bc_ BK316.out 0).trans rfl;have hcz8_1 : w5.cell? ⟨gb316,1,none⟩ = some (.slice none 0 0):=(bc_ BK316.out 1).trans rfl;have hcz8_2 : w5.cell? ⟨gb316,2,none⟩ = some (.slice none 0 0):=(bc_ BK316.out 2).trans rfl;have hcz8_3 : w5.cell? ⟨gb316,3,none⟩ = some (.slice none 0 0):=(bc_ BK316.out 3).trans rfl;have hfz8_0:=bf_ BK316.out 0;have hfz8_1:=bf_ BK316.out 1;have hfz8_2:=bf_ BK316.out 2;have hfz8_3:=bf_ BK316.out 3)|((with_reducible refine gate_callee (f:=77) rfl ?_);refine goesL_ (some 10) rfl rfl Try.func77 (by kernel_rfl) rfl #[.pointer (some ⟨g,0,none⟩)] rfl qm_ ?_;(with_reducible refine (spec_l7Cables.calls k g s0_0 s0_1 t317 t318 t321 w0 _ ?side1 ?side2 A2.out).mono ?_);(case side1 => exact u12_ HI0 NB0_315 NB0_316);(case side2 => exact u13_ HB HI0 GE315 GE316);rintro e w9 ⟨v319,rfl,ho0,hi,hb,hk⟩;refine ⟨_,rfl,?_⟩;have n0_:=mk_ (KeepBut.blk hk (g':=gb315) (o:=.cells #[.int .i64 0,.slice none 0 0,.slice none 0 0,.slice none 0 0] 30 (0,0)) (by (with_reducible repeat (first|refine kn_ ?_ _|refine kd_ ?_|refine ka_ ?_ _));refine blk_far ?_ NB315_316.out _;(with_reducible repeat (first|refine kn_ ?_ _|refine kd_ ?_|refine ka_ ?_ _));refine blk_far ?_ NB315_316.out _;(with_reducible repeat (first|refine kn_ ?_ _|refine kd_ ?_|refine ka_ ?_ _));refine blk_far ?_ NB315_316.out _;(with_reducible repeat (first|refine kn_ ?_ _|refine kd_ ?_|refine ka_ ?_ _));refine blk_far ?_ NB315_316.out _;(with_reducible repeat (first|refine kn_ ?_ _|refine kd_ ?_|refine ka_ ?_ _));exact BK315.out) NB315_0.out (by simp));have n1_:=mk_ (KeepBut.blk hk (g':=gb316) (o:=.cells #[.int .i64 0,.slice none 0 0,.slice none 0 0,.slice none 0 0] 30 (0,0)) (by (with_reducible repeat (first|refine kn_ ?_ _|refine kd_ ?_|refine ka_ ?_ _));refine blk_put (cs:=#[.int .i64 0,.slice none 0 0,.slice none 0 0,.slice none 0 0]) ?_ 3 _ rfl;(with_reducible repeat (first|refine kn_ ?_ _|refine kd_ ?_|refine ka_ ?_ _));refine blk_put (cs:=#[.int .i64 0,.slice none 0 0,.slice none 0 0,.slice none 0 0]) ?_ 2 _ rfl;(with_reducible repeat (first|refine kn_ ?_ _|refine kd_ ?_|refine ka_ ?_ _));refine blk_put (cs:=#[.int .i64 0,.slice none 0 0,.slice none 0 0,.slice none 0 0]) ?_ 1 _ rfl;(with_reducible repeat (first|refine kn_ ?_ _|refine kd_ ?_|refine ka_ ?_ _));refine blk_put (cs:=#[.int .i64 0,.slice none 0 0,.slice none 0 0,.slice none 0 0]) ?_ 0 _ rfl;(with_reducible repeat (first|refine kn_ ?_ _|refine kd_ ?_|refine ka_ ?_ _));exact BK316.out) NB316_0.out (by simp));have n2_:=mk_ (Kd.R_lower ho0 (keep_size (w:=w) (g:=g) (row:=none) (u14_ HK GW315 GW316)));have n3_:=mk_ (KeepBut.trans (u14_ HK GW315 GW316) hk (.inl rfl));have n4_:=mk_ (hb);have n5_:=mk_ (hi);clear BK315;clear BK316;clear HK;clear HB;clear HI0;have BK315:=n0_;have BK316:=n1_;have HO320:=n2_;have HK:=n3_;have HB:=n4_;have HI0:=n5_;clear n0_ n1_ n2_ n3_ n4_ n5_;(try clear hb);(try clear hb2);(try clear hk);(try clear hi);(try clear ho0);have hcz10_0 : w9.cell? ⟨gb316,0,none⟩ = some (.int .i64 0):=(bc_ BK316.out 0).trans rfl;have hcz10_1 : w9.cell? ⟨gb316,1,none⟩ = some (.slice none 0 0):=(bc_ BK316.out 1).trans rfl;have hcz10_2 : w9.cell? ⟨gb316,2,none⟩ = some (.slice none 0 0):=(bc_ BK316.out 2).trans rfl;have hcz10_3 : w9.cell? ⟨gb316,3,none⟩ = some (.slice none 0 0):=(bc_ BK316.out 3).trans rfl;have hfz10_0:=bf_ BK316.out 0;have hfz10_1:=bf_ BK316.out 1;have hfz10_2:=bf_ BK316.out 2;have hfz10_3:=bf_ BK316.out 3;obtain ⟨Ao11,co11,eo11⟩:=Kd.R_slice HO320.out;subst eo11)|((with_reducible refine gate_dst (N:=18) rfl ?_);refine Kd.R_lit (Kd.int .i64) _ 3 ?hg (N:=18) ?hd (xs:=([4,6,3,10,2,1,15] : List Int)) (inner:=[.int .i64 4,.int .i64 6,.int .i64 3,.int .i64 10,.int .i64 2,.int .i64 1,.int .i64 15]) (ok:=fun _ => True) (okp:=fun _ => True) ?hr ?hp (fun _ hk => hk) trivial (Below.refl _ _) (Nat.le_refl _) (by simp) ?_;(case hd => rfl);(case hg => rfl);(case hr => first|(go_simp;done)|(go_simp;rfl));(case hp => exact (Reps.one (show Kd.M (Kd.int .i64) _ _ _ 4 [.int .i64 4] from rfl) (Reps.one (show Kd.M (Kd.int .i64) _ _ _ 6 [.int .i64 6] from rfl) (Reps.one (show Kd.M (Kd.int .i64) _ _ _ 3 [.int .i64 3] from rfl) (Reps.one (show Kd.M (Kd.int .i64) _ _ _ 10 [.int .i64 10] from rfl) (Reps.one (show Kd.M (Kd.int .i64) _ _ _ 2 [.int .i64 2] from rfl) (Reps.one (show Kd.M (Kd.int .i64) _ _ _ 1 [.int .i64 1] from rfl) (Reps.one (show Kd.M (Kd.int .i64) _ _ _ 15 [.int .i64 15] from rfl) (Reps.none _ _)))))))));intro v323 w12 ho13 hb hg_ hnew_;clear hg_ hnew_;(first|rw [← Ny322.out] at ho13|(simp only [Int.reduceToNat] at ho13;rw [← Ny322.out] at ho13));have n0_:=mk_ (rb_ (by (with_reducible repeat (first|apply ra_|apply rn_|apply rd_));exact (rm_ (rf_ (p:=⟨gb316,1,none⟩) (rf_ (p:=⟨gb316,0,none⟩) (rt_ HO320.out BK316.out (by decide)) (fun _ hk => hk.2) (.int .i64 t317)) (fun _ hk => hk.2) (.slice Ao11 t318.length co11)) (fun _ h_ => h_.1))) hb);have n1_:=mk_ (Kd.R_lower ho13 (keep_size (w:=w) (g:=g) (row:=none) (u14_ HK GW315 GW316)));have n2_:=mk_ (IsS84.below (show IsS84 w0 ((w9.setCell ⟨gb316,0,none⟩ (.int .i64 t317)).setCell ⟨gb316,1,none⟩ (.slice Ao11 t318.length co11)) g s0_0 t321 from u12_ HI0 NB0_315 NB0_316) hb);have n3_:=mk_ (blk_below (g:=gb315) (o:=.cells #[.int .i64 0,.slice none 0 0,.slice none 0 0,.slice none 0 0] 30 (0,0)) (by (with_reducible repeat (first|refine kn_ ?_ _|refine kd_ ?_|refine ka_ ?_ _));refine blk_far ?_ NB315_316.out _;(with_reducible repeat (first|refine kn_ ?_ _|refine kd_ ?_|refine ka_ ?_ _));refine blk_far ?_ NB315_316.out _;(with_reducible repeat (first|refine kn_ ?_ _|refine kd_ ?_|refine ka_ ?_ _));exact BK315.out) hb);have n4_:=mk_ (blk_below (g:=gb316) (o:=.cells #[.int .i64 t317,.slice Ao11 t318.length co11,.slice none 0 0,.slice none 0 0] 30 (0,0)) (by (with_reducible repeat (first|refine kn_ ?_ _|refine kd_ ?_|refine ka_ ?_ _));refine blk_put (cs:=#[.int .i64 t317,.slice none 0 0,.slice none 0 0,.slice none 0 0]) ?_ 1 _ rfl;(with_reducible repeat (first|refine kn_ ?_ _|refine kd_ ?_|refine ka_ ?_ _));refine blk_put (cs:=#[.int .i64 0,.slice none 0 0,.slice none 0 0,.slice none 0 0]) ?_ 0 _ rfl;(with_reducible repeat (first|refine kn_ ?_ _|refine kd_ ?_|refine ka_ ?_ _));exact BK316.out) hb);have n5_:=mk_ (KeepBut.trans (u14_ HK GW315 GW316) (KeepBut.of_below hb g none) (.inl rfl));have n6_:=mk_ (st_ (u13_ HB HI0 GE315 GE316) hb);clear HO320;clear HI0;clear BK315;clear BK316;clear HK;clear HB;have HO320:=n0_;have HO324:=n1_;have HI0:=n2_;have BK315:=n3_;have BK316:=n4_;have HK:=n5_;have HB:=n6_;clear n0_ n1_ n2_ n3_ n4_ n5_ n6_;clear hb ho13;obtain ⟨Ao14,co14,eo14⟩:=Kd.R_slice HO324.out;subst eo14)|((with_reducible refine gate_callee (f:=78) rfl ?_);refine goesL_ (some 19) rfl rfl Try.func78 (by kernel_rfl) rfl #[.pointer (some ⟨g,0,none⟩),.slice Ao14 y322.length co14] rfl qm_ ?_;(with_reducible refine (spec_l21Rd_num.calls k g s0_0 t321 _ _ y322 t325 t326 w0 _ ?side1 ?side2 ?side3 ?side4 ?side5 A3.out).mono ?_);(case side1 => exact u12_ HI0 NB0_315 NB0_316);(case side2 => exact u13_ HB HI0 GE315 GE316);(case side3 => repeat (first|exact (rr_ HO324.out).2.2|(with_reducible refine ca_ ?_ _)|(with_reducible refine cn_ ?_ _)|(with_reducible refine cd_ ?_)));(case side4 => exact (rr_ HO324.out).2.1);(case side5 => exact far_slice (IsS84.own_ne HI0.out HO324.out (by decide)));rintro e w15 ⟨rfl,hi,hb,hk⟩;refine ⟨_,rfl,?_⟩;have n0_:=mk_ (KeepBut.blk hk (g':=gb315) (o:=.cells #[.int .i64 0,.slice none 0 0,.slice none 0 0,.slice none 0 0] 30 (0,0)) (qk_ BK315) NB315_0.out (by simp));have n1_:=mk_ (KeepBut.blk hk (g':=gb316) (o:=.cells #[.int .i64 t317,.slice Ao11 t318.length co11,.slice none 0 0,.slice none 0 0] 30 (0,0)) (qk_ BK316) NB316_0.out (by simp));have n2_:=mk_ (rm_ (Kd.R_keep (IsS84.apart (show IsS84 w0 _ g s0_0 t321 from u12_ HI0 NB0_315 NB0_316) (qr_ HO320) (by decide)) hk (fun _ h => h.2)) (fun _ h => h.1));have n3_:=mk_ (rm_ (Kd.R_keep (IsS84.apart (show IsS84 w0 _ g s0_0 t321 from u12_ HI0 NB0_315 NB0_316) (qr_ HO324) (by decide)) hk (fun _ h => h.2)) (fun _ h => h.1));have n4_:=mk_ (KeepBut.trans (u14_ HK GW315 GW316) hk (.inl rfl));have n5_:=mk_ (hb);have n6_:=mk_ (hi);clear BK315;clear BK316;clear HO320;clear HO324;clear HK;clear HB;clear HI0;have BK315:=n0_;have BK316:=n1_;have HO320:=n2_;have HO324:=n3_;have HK:=n4_;have HB:=n5_;have HI0:=n6_;clear n0_ n1_ n2_ n3_ n4_ n5_ n6_;(try clear hb);(try clear hb2);(try clear hk);(try clear hi)))
 go_loopg [6] k (fun kq v6 w' => ∃ (x6_1 : Int) (x1001_1 : Int) (x317002_1 : List Int) (x317003_1 : List Int) (u317002 : Value) (u317003 : Value),v6 = .int .i64 x6_1 ∧ Aside0 (spec_l19Net.l0 kq t317 x6_1 s0_0 x1001_1 t317 t318 x317002_1 x317003_1 = some (r1,r2,r3,r4,r5)) ∧ Aside0 (kq ≤ k) ∧ Aside0 (Kd.R k51 51 w' w.heap.size (fun _ => True) (.slice Ao11 t318.length co11) t318) ∧ Aside0 (Kd.R (Kd.int .i64) 3 w' w.heap.size (fun k_ => some k_ ≠ (u317003 : Value).ownBlock) u317002 x317002_1) ∧ Aside0 (Kd.Q (Kd.int .i64) 3 w' w.heap.size (fun k_ => some k_ ≠ (u317002 : Value).ownBlock) u317003 x317003_1) ∧ Aside0 (w'.heap[gb315]? = some (.cells #[.int .i64 0,(.slice none 0 0),(.slice none 0 0),(.slice none 0 0)] 30 (0,0))) ∧ Aside0 (w'.heap[gb316]? = some (.cells #[.int .i64 t317,(.slice Ao11 t318.length co11),u317002,u317003] 30 (0,0))) ∧ Aside0 (IsS84 w0 w' g s0_0 x1001_1) ∧ Aside0 (KeepBut w w' g none) ∧ Aside0 (Below w0.heap.size w0 w'))
 case atStart => exact ⟨(t325),(t326),(([] : List Int)),(([] : List Int)),(.slice none 0 0),(.slice none 0 0),qf_,H',⟨Nat.le_refl _⟩,⟨qr_ HO320⟩,⟨by first|exact Kd.R_nil _ _ _ _ _|exact Kd.N_nil _ _ _ _ _|exact Kd.V_nil _ _ _ _ _|exact Kd.Q_nil _ _ _ _ _|exact Kd.S_nil _ _ _ _ _⟩,⟨Kd.Q_of_R (by first|exact Kd.R_nil _ _ _ _ _|exact Kd.N_nil _ _ _ _ _|exact Kd.V_nil _ _ _ _ _|exact Kd.Q_nil _ _ _ _ _|exact Kd.S_nil _ _ _ _ _)⟩,⟨qk_ BK315⟩,⟨qk_ BK316⟩,⟨u12_ HI0 NB0_315 NB0_316⟩,⟨u14_ HK GW315 GW316⟩,⟨u13_ HB HI0 GE315 GE316⟩⟩
 case round =>
  clear H'
  try clear p2
  try clear c5
  try clear c6
  try clear c7
  try clear hcz10_0
  try clear hcz10_1
  try clear hcz10_2
  try clear hcz10_3
  try clear hcz8_0
  try clear hcz8_1
  try clear hcz8_2
  try clear hcz8_3
  try clear hfz10_0
  try clear hfz10_1
  try clear hfz10_2
  try clear hfz10_3
  try clear hfz8_0
  try clear hfz8_1
  try clear hfz8_2
  try clear hfz8_3
  obtain ⟨x6_1,x1001_1,x317002_1,x317003_1,u317002,u317003,rfl,HA,HK1,HO_317001,HO_317002,HO_317003,BK315,BK316,HI0,HK,HB⟩:=hrel
  cases gk with
  | zero => exact absurd HA.out (by simp [spec_l19Net.l0])
  | succ k1 =>
   have H:=HA.out
   clear HA
   simp only [spec_l19Net.l0] at H
   by_cases c16 : x6_1 > 0
   ·rw [if_pos c16] at H
    have c16b0 : decide (0 < x6_1) = true:=decide_eq_true c16
    clear c16
    replace H:=Option.bind_eq_some_iff.mp H
    obtain ⟨⟨t327,t328⟩,A170,H⟩:=H
    replace H : (if x317002_1.length < 17592186044416 then ((spec_l21Rd_num.f k1 s0_0 t328 (([1,2,3] : List Int))).bind fun bt335 => ((spec_l21Rd_pick.f k1 s0_0 bt335.2 bt335.1).bind fun bt337 => (if x317003_1.length < 17592186044416 then (spec_l19Net.l0 k1 t317 (wrap64 (x6_1 - 1)) s0_0 bt337.2 t317 t318 (x317002_1 ++ [t327]) (x317003_1 ++ [wrap64 (1 + bt337.1)])) else (none)))) else (none)) = some (r1,r2,r3,r4,r5):=H
    have A17:=mk_ A170
    clear A170
    by_cases c18 : x317002_1.length < 17592186044416
    ·rw [if_pos c18] at H
     have LMc18:=mk_ c18
     clear c18
     obtain ⟨y329,hy329⟩ : ∃ y_ : List Int,y_ = (x317002_1 ++ [t327]):=⟨_,rfl⟩
     replace H : ((spec_l21Rd_num.f k1 s0_0 t328 (([1,2,3] : List Int))).bind fun bt335 => ((spec_l21Rd_pick.f k1 s0_0 bt335.2 bt335.1).bind fun bt337 => (if x317003_1.length < 17592186044416 then (spec_l19Net.l0 k1 t317 (wrap64 (x6_1 - 1)) s0_0 bt337.2 t317 t318 y329 (x317003_1 ++ [wrap64 (1 + bt337.1)])) else (none)))) = some (r1,r2,r3,r4,r5):=by first|(rw [hy329];with_reducible exact H)|(have H2_:=(Option.bind_some _ _).symm.trans H;rw [hy329];with_reducible exact H2_)|(have H2_:=(Option.bind_some _ _).symm.trans H;with_reducible exact H2_)|with_reducible exact H|(rw [hy329];exact H)|exact H
     have Ny329:=mk_ hy329
     clear hy329
     obtain ⟨y332,hy332⟩ : ∃ y_ : List Int,y_ = (([1,2,3] : List Int)):=⟨_,rfl⟩
     replace H : ((spec_l21Rd_num.f k1 s0_0 t328 y332).bind fun bt335 => ((spec_l21Rd_pick.f k1 s0_0 bt335.2 bt335.1).bind fun bt337 => (if x317003_1.length < 17592186044416 then (spec_l19Net.l0 k1 t317 (wrap64 (x6_1 - 1)) s0_0 bt337.2 t317 t318 y329 (x317003_1 ++ [wrap64 (1 + bt337.1)])) else (none)))) = some (r1,r2,r3,r4,r5):=by first|(rw [hy332];with_reducible exact H)|(have H2_:=(Option.bind_some _ _).symm.trans H;rw [hy332];with_reducible exact H2_)|(have H2_:=(Option.bind_some _ _).symm.trans H;with_reducible exact H2_)|with_reducible exact H|(rw [hy332];exact H)|exact H
     have Ny332:=mk_ hy332
     clear hy332
     replace H:=Option.bind_eq_some_iff.mp H
     obtain ⟨⟨t335,t336⟩,A190,H⟩:=H
     replace H : ((spec_l21Rd_pick.f k1 s0_0 t336 t335).bind fun bt337 => (if x317003_1.length < 17592186044416 then (spec_l19Net.l0 k1 t317 (wrap64 (x6_1 - 1)) s0_0 bt337.2 t317 t318 y329 (x317003_1 ++ [wrap64 (1 + bt337.1)])) else (none))) = some (r1,r2,r3,r4,r5):=H
     have A19:=mk_ A190
     clear A190
     replace H:=Option.bind_eq_some_iff.mp H
     obtain ⟨⟨t337,t338⟩,A200,H⟩:=H
     replace H : (if x317003_1.length < 17592186044416 then (spec_l19Net.l0 k1 t317 (wrap64 (x6_1 - 1)) s0_0 t338 t317 t318 y329 (x317003_1 ++ [wrap64 (1 + t337)])) else (none)) = some (r1,r2,r3,r4,r5):=H
     have A20:=mk_ A200
     clear A200
     by_cases c21 : x317003_1.length < 17592186044416
     ·rw [if_pos c21] at H
      have LMc21:=mk_ c21
      clear c21
      obtain ⟨y339,hy339⟩ : ∃ y_ : List Int,y_ = (x317003_1 ++ [wrap64 (1 + t337)]):=⟨_,rfl⟩
      replace H : (spec_l19Net.l0 k1 t317 (wrap64 (x6_1 - 1)) s0_0 t338 t317 t318 y329 y339) = some (r1,r2,r3,r4,r5):=by first|(rw [hy339];with_reducible exact H)|(have H2_:=(Option.bind_some _ _).symm.trans H;rw [hy339];with_reducible exact H2_)|(have H2_:=(Option.bind_some _ _).symm.trans H;with_reducible exact H2_)|with_reducible exact H|(rw [hy339];exact H)|exact H
      have Ny339:=mk_ hy339
      clear hy339
      have H':=mk_ H
      clear H
      try go_wp2
      have n0_:=mk_ (rd_ HO_317001.out)
      have n1_:=mk_ (rd_ HO_317002.out)
      have n2_:=mk_ (Kd.Q_drew HO_317003.out)
      have n3_:=mk_ (kd_ BK315.out)
      have n4_:=mk_ (kd_ BK316.out)
      have n5_:=mk_ (IsS84.drew HI0.out)
      have n6_:=mk_ (keep_drew HK.out)
      have n7_:=mk_ (bd_ HB.out)
      clear HO_317001
      clear HO_317002
      clear HO_317003
      clear BK315
      clear BK316
      clear HI0
      clear HK
      clear HB
      have HO_317001:=n0_
      have HO_317002:=n1_
      have HO_317003:=n2_
      have BK315:=n3_
      have BK316:=n4_
      have HI0:=n5_
      have HK:=n6_
      have HB:=n7_
      clear n0_ n1_ n2_ n3_ n4_ n5_ n6_ n7_
      refine start_ (n:=9) (S:=fun w' => w'.cell? ⟨gb316,0,none⟩ = some (.int .i64 t317) ∧ w'.cell? ⟨gb316,1,none⟩ = some (.slice Ao11 t318.length co11) ∧ w'.cell? ⟨gb316,2,none⟩ = some (u317002) ∧ w'.cell? ⟨gb316,3,none⟩ = some (u317003)) (ds:=[8]) #[false,false,false,false,false,false,false,false,false] (by kernel_rfl) rfl rfl ⟨(bc_ BK316.out 0).trans rfl,(bc_ BK316.out 1).trans rfl,(bc_ BK316.out 2).trans rfl,(bc_ BK316.out 3).trans rfl⟩ (fun hHeld => ?_);refine with_tabW spec_l19Net.tab8 spec_l19Net.bits8 (fun HT_ HW_ => ?_)
      generalize wr.drew = w22 at HO_317001 HO_317002 HO_317003 BK315 BK316 HI0 HK HB hHeld ⊢
      refine pure_ (i:=0) (N:=some 24) (v:=?_) (a':=?_) #[true,false,false,false,false,false,false,false,false] rfl rfl (any_of HT_.out (by kernel_rfl)) (fun _ _ _ h => h) (Or.inl ⟨by rfl,?_⟩) ?_ ?_
      rotate_left
      ·intro w'
       go_simp
       with_reducible rfl
      rotate_left
      ·simp only [Act.put,sx_,sy_,sz_,i64_w,i32_w]
       rfl
      refine pure_ (i:=2) (N:=some 26) (v:=?_) (a':=?_) #[true,false,true,false,false,false,false,false,false] rfl rfl (any_of HT_.out (by kernel_rfl)) (fun _ _ _ h => h) (Or.inl ⟨by rfl,?_⟩) ?_ ?_
      rotate_left
      ·intro w'
       go_simp
       with_reducible rfl
      rotate_left
      ·simp only [Act.put,sx_,sy_,sz_,i64_w,i32_w]
       rfl
      refine pure_ (i:=3) (N:=some 27) (v:=?_) (a':=?_) #[true,false,true,true,false,false,false,false,false] rfl rfl (any_of HT_.out (by kernel_rfl)) (fun _ _ _ h => h) (Or.inl ⟨by rfl,?_⟩) ?_ ?_
      rotate_left
      ·intro w'
       go_simp
       with_reducible rfl
      rotate_left
      ·simp only [Act.put,sx_,sy_,sz_,i64_w,i32_w]
       rfl
      refine take_ (i:=1) (N:=some 25) (v:=?_) (a':=?_) #[true,true,true,true,false,false,false,false,false] rfl rfl (take_ofW HT_.out HW_.out (by kernel_rfl)) (fun _ _ _ h => h) (Or.inl ⟨by rfl,?_⟩) hHeld ?_ ?_
      rotate_left
      ·rintro w' ⟨s0,s1,s2,s3⟩
       go_simp
       with_reducible rfl
      rotate_left
      ·simp only [Act.put,sx_,sy_,sz_,i64_w,i32_w]
       rfl
      refine one_ (i:=4) (N:=some 28) #[true,true,true,true,true,false,false,false,false] rfl rfl (one_of HT_.out (by kernel_rfl)) (by decide) (fun K hK => ?_)
      refine goes_ Try.func53 (by kernel_rfl) rfl #[.pointer (some ⟨g,0,none⟩),.int .i64 t317] (by rfl) rfl rfl qm_ ?_
      with_reducible refine (spec_l21Rd_pick.calls k1 g s0_0 x1001_1 t317 t327 t328 w0 _ ?side1 ?side2 A17.out).mono ?_
      (case side1 => exact u12_ HI0 NB0_315 NB0_316)
      (case side2 => exact u13_ HB HI0 GE315 GE316)
      rintro e w23 ⟨rfl,hi,hb,hk⟩
      refine ⟨_,rfl,?_⟩
      have n0_:=mk_ (rm_ (Kd.R_keep (IsS84.apart (show IsS84 w0 _ g s0_0 x1001_1 from u12_ HI0 NB0_315 NB0_316) (qr_ HO_317001) (by decide)) hk (fun _ h => h.2)) (fun _ h => h.1))
      have n1_:=mk_ (rm_ (Kd.R_keep (IsS84.apart (show IsS84 w0 _ g s0_0 x1001_1 from u12_ HI0 NB0_315 NB0_316) (qr_ HO_317002) (by decide)) hk (fun _ h => h.2)) (fun _ h => h.1))
      have n2_:=mk_ (Kd.Q_mono (Kd.Q_keep (IsS84.apartQ (show IsS84 w0 _ g s0_0 x1001_1 from u12_ HI0 NB0_315 NB0_316) (by (with_reducible repeat (first|apply Kd.Q_alloc|apply Kd.Q_drewN|apply Kd.Q_drew));exact HO_317003.out) (by decide)) hk (fun _ h => h.2)) (fun _ h => h.1))
      have n3_:=mk_ (KeepBut.blk hk (g':=gb315) (o:=.cells #[.int .i64 0,.slice none 0 0,.slice none 0 0,.slice none 0 0] 30 (0,0)) (qk_ BK315) NB315_0.out (by simp))
      have n4_:=mk_ (KeepBut.blk hk (g':=gb316) (o:=.cells #[.int .i64 t317,.slice Ao11 t318.length co11,u317002,u317003] 30 (0,0)) (qk_ BK316) NB316_0.out (by simp))
      have n5_:=mk_ (KeepBut.trans (u14_ HK GW315 GW316) hk (.inl rfl))
      have n6_:=mk_ (hb)
      have n7_:=mk_ (hi)
      clear HO_317001
      clear HO_317002
      clear HO_317003
      clear BK315
      clear BK316
      clear HK
      clear HB
      clear HI0
      have HO_317001:=n0_
      have HO_317002:=n1_
      have HO_317003:=n2_
      have BK315:=n3_
      have BK316:=n4_
      have HK:=n5_
      have HB:=n6_
      have HI0:=n7_
      clear n0_ n1_ n2_ n3_ n4_ n5_ n6_ n7_
      (try clear hb)
      (try clear hb2)
      (try clear hk)
      (try clear hi)
      refine hK.out _ _ ⟨(bc_ BK316.out 0).trans rfl,(bc_ BK316.out 1).trans rfl,(bc_ BK316.out 2).trans rfl,(bc_ BK316.out 3).trans rfl⟩ (fun hHeld => ?_)
      clear hK K
      refine norm_ (a':=?_) ?_ ?_
      rotate_left
      ·show Act.put _ (some 28) _ = _
       simp only [Act.put,sx_,sy_,sz_,i64_w,i32_w]
       rfl
      refine one_ (i:=5) (N:=some 29) #[true,true,true,true,true,true,false,false,false] rfl rfl (one_of HT_.out (by kernel_rfl)) (by decide) (fun K hK => ?_)
      refine value_ (w1:=?_) (v:=?_) (by rfl) rfl ?_ ?_
      rotate_left 2
      ·go_simp
       constructor
       ·rfl
       ·rfl
      refine hK.out _ _ ⟨(bc_ (ka_ BK316.out _) 0).trans rfl,(bc_ (ka_ BK316.out _) 1).trans rfl,(bc_ (ka_ BK316.out _) 2).trans rfl,(bc_ (ka_ BK316.out _) 3).trans rfl⟩ (fun hHeld => ?_)
      clear hK K
      refine norm_ (a':=?_) ?_ ?_
      rotate_left
      ·show Act.put _ (some 29) _ = _
       simp only [Act.put,sx_,sy_,sz_,i64_w,i32_w]
       rfl
      refine one_ (i:=6) (N:=some 30) #[true,true,true,true,true,true,true,false,false] rfl rfl (one_of HT_.out (by kernel_rfl)) (by decide) (fun K hK => ?_)
      refine Kd.R_append_step (Kd.int .i64) w.heap.size (by rfl) (.tmp 25) (.tmp 29) 23 3 (.int .i64 0) 8 rfl Try.underlying23 info3 rfl (by decide) (by omega) u317002 x317002_1 t327 [.int .i64 t327] (fun k_ => some k_ ≠ (u317003 : Value).ownBlock) (fun _ => False) rfl rfl ?aP (fun _ hk => hk.elim) ?aF ?aO (Below.refl _ _) ?aS ?aL ?_
      (case aP => exact rfl)
      (case aF => exact (fun k_ hk => Kd.fresh' (Kd.Q_lt (by (with_reducible repeat (first|apply Kd.Q_alloc|apply Kd.Q_drewN|apply Kd.Q_drew));exact HO_317003.out)) k_ hk))
      (case aO => exact (qr_ HO_317002))
      (case aS => exact (keep_size (w:=w) (g:=g) (row:=none) (u14_ HK GW315 GW316)))
      (case aL => have:=LMc18.out;omega)
      intro v330 w24 ho hb hg hat
      rw [← Ny329.out] at ho
      have n0_:=mk_ (Kd.R_over' (qr_ HO_317001) (Kd.R_typed (qr_ HO_317002)) (by decide) hg)
      have n1_:=mk_ (Kd.Q_after (ok:=(fun _ => True)) (by (with_reducible repeat (first|apply Kd.Q_alloc|apply Kd.Q_drewN|apply Kd.Q_drew));exact Kd.Q_mono HO_317003.out (fun _ hk => ⟨trivial,hk⟩)) hg hat)
      have n2_:=mk_ (blk_grown (g:=gb315) (o:=.cells #[.int .i64 0,.slice none 0 0,.slice none 0 0,.slice none 0 0] 30 (0,0)) (qk_ BK315) hg (Kd.R_ne HO_317002.out BK315.out (by decide)))
      have n3_:=mk_ (blk_grown (g:=gb316) (o:=.cells #[.int .i64 t317,.slice Ao11 t318.length co11,u317002,u317003] 30 (0,0)) (qk_ BK316) hg (Kd.R_ne HO_317002.out BK316.out (by decide)))
      have n4_:=mk_ (IsS84.grown (u12_ HI0 NB0_315 NB0_316) hg (IsS84.own_ne HI0.out HO_317002.out (by decide)))
      have n5_:=mk_ (below_weaken (u13_ HB HI0 GE315 GE316) HL.out hb)
      have n6_:=mk_ (KeepBut.trans (u14_ HK GW315 GW316) (KeepBut.of_grown hg g) (Kd.R_base2 HO_317002.out))
      have n7_:=mk_ (ho)
      clear HO_317001
      clear HO_317003
      clear BK315
      clear BK316
      clear HI0
      clear HB
      clear HK
      clear HO_317002
      have HO_317001:=n0_
      have HO_317003:=n1_
      have BK315:=n2_
      have BK316:=n3_
      have HI0:=n4_
      have HB:=n5_
      have HK:=n6_
      have HO331:=n7_
      clear n0_ n1_ n2_ n3_ n4_ n5_ n6_ n7_
      clear ho hb hg hat
      obtain ⟨Ao25,co25,eo25⟩:=Kd.R_slice HO331.out
      (first|subst eo25|(injection eo25 with f1_ f2_ f3_;have f4_:=f1_.symm;have f5_:=f3_.symm;clear f1_ f2_ f3_;subst f4_;subst f5_))
      refine hK.out _ _ ⟨(bc_ BK316.out 0).trans rfl,(bc_ BK316.out 1).trans rfl,(bc_ BK316.out 2).trans rfl,(bc_ BK316.out 3).trans rfl⟩ (fun hHeld => ?_)
      clear hK K
      refine norm_ (a':=?_) ?_ ?_
      rotate_left
      ·show Act.put _ (some 30) _ = _
       simp only [Act.put,sx_,sy_,sz_,i64_w,i32_w]
       rfl
      refine pure_ (i:=7) (N:=some 31) (v:=?_) (a':=?_) #[true,true,true,true,true,true,true,true,false] rfl rfl (any_of HT_.out (by kernel_rfl)) (fun _ _ _ h => h) (Or.inl ⟨by rfl,?_⟩) ?_ ?_
      rotate_left
      ·intro w'
       go_simp
       with_reducible rfl
      rotate_left
      ·simp only [Act.put,sx_,sy_,sz_,i64_w,i32_w]
       rfl
      refine last_ (i:=8) (N:=none) #[true,true,true,true,true,true,true,true,true] rfl rfl (one_of HT_.out (by kernel_rfl)) (by decide) (fun K hK => ?_)
      have hs26 : w24.cell? ⟨gb316,2,none⟩ = some (u317002):=(bc_ BK316.out 2).trans rfl
      have hfs26:=bf_ BK316.out 2
      have hns26_0:=NB315_316.out
      have hms26_0:=NB316_315.out
      refine skip_ (w1:=?_) (by rfl) rfl ?_ ?_
      rotate_left
      ·go_simp
       rfl
      refine hK.out _ _ ?_
      clear hK K
      refine done_ (done_of HT_.out (by kernel_rfl)) ?_
      try go_wp2
      have n0_ : Aside0 (Kd.R k51 51 (w24.setCell ⟨gb316,2,none⟩ (.slice Ao25 y329.length co25)) w.heap.size (fun _ => True) (.slice Ao11 t318.length co11) t318):=⟨by (with_reducible repeat (first|apply ra_|apply rn_|apply rd_));exact rm_ (rf_ (p:=⟨gb316,2,none⟩) (rt_ HO_317001.out BK316.out (by decide)) (fun _ hk => hk.2) (.slice Ao25 y329.length co25)) (fun _ hk => trivial)⟩
      have n1_ : Aside0 (Kd.Q (Kd.int .i64) 3 (w24.setCell ⟨gb316,2,none⟩ (.slice Ao25 y329.length co25)) w.heap.size (fun k_ => some k_ ≠ (.slice Ao25 y329.length co25 : Value).ownBlock) u317003 x317003_1):=⟨by (with_reducible repeat (first|apply Kd.Q_alloc|apply Kd.Q_drewN|apply Kd.Q_drew));exact Kd.Q_mono (Kd.Q_far (p:=⟨gb316,2,none⟩) (Kd.Q_types HO_317003.out BK316.out (by decide)) (fun _ hk => hk.2) (.slice Ao25 y329.length co25)) (fun _ hk => hk.1.2)⟩
      have n2_ : Aside0 (Kd.R (Kd.int .i64) 3 (w24.setCell ⟨gb316,2,none⟩ (.slice Ao25 y329.length co25)) w.heap.size (fun k_ => some k_ ≠ (u317003 : Value).ownBlock) (.slice Ao25 y329.length co25) y329):=⟨by (with_reducible repeat (first|apply ra_|apply rn_|apply rd_));exact rm_ (rf_ (p:=⟨gb316,2,none⟩) (rt_ HO331.out BK316.out (by decide)) (fun _ hk => hk.2) (.slice Ao25 y329.length co25)) (fun _ hk => hk.1)⟩
      have n3_ : Aside0 ((w24.setCell ⟨gb316,2,none⟩ (.slice Ao25 y329.length co25)).heap[gb315]? = some (.cells #[.int .i64 0,.slice none 0 0,.slice none 0 0,.slice none 0 0] 30 (0,0))):=⟨by (with_reducible repeat (first|refine kn_ ?_ _|refine kd_ ?_|refine ka_ ?_ _));refine blk_far ?_ NB315_316.out _;(with_reducible repeat (first|refine kn_ ?_ _|refine kd_ ?_|refine ka_ ?_ _));exact BK315.out⟩
      have n4_ : Aside0 ((w24.setCell ⟨gb316,2,none⟩ (.slice Ao25 y329.length co25)).heap[gb316]? = some (.cells #[.int .i64 t317,.slice Ao11 t318.length co11,.slice Ao25 y329.length co25,u317003] 30 (0,0))):=⟨by (with_reducible repeat (first|refine kn_ ?_ _|refine kd_ ?_|refine ka_ ?_ _));refine blk_put (cs:=#[.int .i64 t317,.slice Ao11 t318.length co11,u317002,u317003]) ?_ 2 _ rfl;(with_reducible repeat (first|refine kn_ ?_ _|refine kd_ ?_|refine ka_ ?_ _));exact BK316.out⟩
      have n5_ : Aside0 (IsS84 w0 (w24.setCell ⟨gb316,2,none⟩ (.slice Ao25 y329.length co25)) g s0_0 t328):=⟨u12_ HI0 NB0_315 NB0_316⟩
      have n6_ : Aside0 (KeepBut w (w24.setCell ⟨gb316,2,none⟩ (.slice Ao25 y329.length co25)) g none):=⟨u14_ HK GW315 GW316⟩
      have n7_ : Aside0 (Below w0.heap.size w0 (w24.setCell ⟨gb316,2,none⟩ (.slice Ao25 y329.length co25))):=⟨u13_ HB HI0 GE315 GE316⟩
      (try clear HO_317001)
      (try clear HO_317003)
      (try clear HO331)
      (try clear BK315)
      (try clear BK316)
      (try clear HI0)
      (try clear HK)
      (try clear HB)
      generalize (w24.setCell ⟨gb316,2,none⟩ (.slice Ao25 y329.length co25)) = w27 at n0_ n1_ n2_ n3_ n4_ n5_ n6_ n7_ ⊢
      have HO_317001:=n0_
      have HO_317003:=n1_
      have HO331:=n2_
      have BK315:=n3_
      have BK316:=n4_
      have HI0:=n5_
      have HK:=n6_
      have HB:=n7_
      clear n0_ n1_ n2_ n3_ n4_ n5_ n6_ n7_
      have n0_:=mk_ (rd_ HO_317001.out)
      have n1_:=mk_ (Kd.Q_drew HO_317003.out)
      have n2_:=mk_ (rd_ HO331.out)
      have n3_:=mk_ (kd_ BK315.out)
      have n4_:=mk_ (kd_ BK316.out)
      have n5_:=mk_ (IsS84.drew HI0.out)
      have n6_:=mk_ (keep_drew HK.out)
      have n7_:=mk_ (bd_ HB.out)
      clear HO_317001
      clear HO_317003
      clear HO331
      clear BK315
      clear BK316
      clear HI0
      clear HK
      clear HB
      have HO_317001:=n0_
      have HO_317003:=n1_
      have HO331:=n2_
      have BK315:=n3_
      have BK316:=n4_
      have HI0:=n5_
      have HK:=n6_
      have HB:=n7_
      clear n0_ n1_ n2_ n3_ n4_ n5_ n6_ n7_
      refine start_ (n:=12) (S:=fun w' => w'.cell? ⟨gb316,0,none⟩ = some (.int .i64 t317) ∧ w'.cell? ⟨gb316,1,none⟩ = some (.slice Ao11 t318.length co11) ∧ w'.cell? ⟨gb316,2,none⟩ = some (.slice Ao25 y329.length co25) ∧ w'.cell? ⟨gb316,3,none⟩ = some (u317003)) (ds:=[11]) #[false,false,false,false,false,false,false,false,false,false,false,false] (by kernel_rfl) rfl rfl ⟨(bc_ BK316.out 0).trans rfl,(bc_ BK316.out 1).trans rfl,(bc_ BK316.out 2).trans rfl,(bc_ BK316.out 3).trans rfl⟩ (fun hHeld => ?_);refine with_tabW spec_l19Net.tab9 spec_l19Net.bits9 (fun HT_ HW_ => ?_)
      generalize w27.drew = w28 at HO_317001 HO_317003 HO331 BK315 BK316 HI0 HK HB hHeld ⊢
      refine pure_ (i:=0) (N:=some 32) (v:=?_) (a':=?_) #[true,false,false,false,false,false,false,false,false,false,false,false] rfl rfl (any_of HT_.out (by kernel_rfl)) (fun _ _ _ h => h) (Or.inl ⟨by rfl,?_⟩) ?_ ?_
      rotate_left
      ·intro w'
       go_simp
       with_reducible rfl
      rotate_left
      ·simp only [Act.put,sx_,sy_,sz_,i64_w,i32_w]
       rfl
      refine pure_ (i:=2) (N:=some 34) (v:=?_) (a':=?_) #[true,false,true,false,false,false,false,false,false,false,false,false] rfl rfl (any_of HT_.out (by kernel_rfl)) (fun _ _ _ h => h) (Or.inl ⟨by rfl,?_⟩) ?_ ?_
      rotate_left
      ·intro w'
       go_simp
       with_reducible rfl
      rotate_left
      ·simp only [Act.put,sx_,sy_,sz_,i64_w,i32_w]
       rfl
      refine pure_ (i:=3) (N:=some 35) (v:=?_) (a':=?_) #[true,false,true,true,false,false,false,false,false,false,false,false] rfl rfl (any_of HT_.out (by kernel_rfl)) (fun _ _ _ h => h) (Or.inl ⟨by rfl,?_⟩) ?_ ?_
      rotate_left
      ·intro w'
       go_simp
       with_reducible rfl
      rotate_left
      ·simp only [Act.put,sx_,sy_,sz_,i64_w,i32_w]
       rfl
      refine take_ (i:=1) (N:=some 33) (v:=?_) (a':=?_) #[true,true,true,true,false,false,false,false,false,false,false,false] rfl rfl (take_ofW HT_.out HW_.out (by kernel_rfl)) (fun _ _ _ h => h) (Or.inl ⟨by rfl,?_⟩) hHeld ?_ ?_
      rotate_left
      ·rintro w' ⟨s0,s1,s2,s3⟩
       go_simp
       with_reducible rfl
      rotate_left
      ·simp only [Act.put,sx_,sy_,sz_,i64_w,i32_w]
       rfl
      refine one_ (i:=4) (N:=some 36) #[true,true,true,true,true,false,false,false,false,false,false,false] rfl rfl (one_of HT_.out (by kernel_rfl)) (by decide) (fun K hK => ?_)
      refine Kd.R_lit_step (Kd.int .i64) _ 3 ?hg (N:=36) ?hd (xs:=([1,2,3] : List Int)) (inner:=[.int .i64 1,.int .i64 2,.int .i64 3]) (ok:=fun _ => True) (okp:=fun _ => True) ?hr ?hp (fun _ hk => hk) trivial (Below.refl _ _) (Nat.le_refl _) (by simp) ?_;(case hd => rfl);(case hg => rfl);(case hr => first|(go_simp;done)|(go_simp;rfl));(case hp => exact (Reps.one (show Kd.M (Kd.int .i64) _ _ _ 1 [.int .i64 1] from rfl) (Reps.one (show Kd.M (Kd.int .i64) _ _ _ 2 [.int .i64 2] from rfl) (Reps.one (show Kd.M (Kd.int .i64) _ _ _ 3 [.int .i64 3] from rfl) (Reps.none _ _)))))
      intro v333 w29 ho30 hb hg_ hnew_
      clear hg_ hnew_
      (first|rw [← Ny332.out] at ho30|(simp only [Int.reduceToNat] at ho30;rw [← Ny332.out] at ho30))
      have n0_:=mk_ (rb_ (qr_ HO_317001) hb)
      have n1_:=mk_ (Kd.Q_elder' (by (with_reducible repeat (first|apply Kd.Q_alloc|apply Kd.Q_drewN|apply Kd.Q_drew));exact HO_317003.out) (Kd.R_base ho30) hb)
      have n2_:=mk_ (re_ (qr_ HO331) (Kd.R_base ho30) hb)
      have n3_:=mk_ (Kd.R_lower (Kd.R_new' (Kd.R_new' ho30 (Kd.Q_lt (by (with_reducible repeat (first|apply Kd.Q_alloc|apply Kd.Q_drewN|apply Kd.Q_drew));exact HO_317003.out))) (Kd.R_lt (qr_ HO331))) (keep_size (w:=w) (g:=g) (row:=none) (u14_ HK GW315 GW316)))
      have n4_:=mk_ (blk_below (g:=gb315) (o:=.cells #[.int .i64 0,.slice none 0 0,.slice none 0 0,.slice none 0 0] 30 (0,0)) (qk_ BK315) hb)
      have n5_:=mk_ (blk_below (g:=gb316) (o:=.cells #[.int .i64 t317,.slice Ao11 t318.length co11,.slice Ao25 y329.length co25,u317003] 30 (0,0)) (qk_ BK316) hb)
      have n6_:=mk_ (IsS84.below (u12_ HI0 NB0_315 NB0_316) hb)
      have n7_:=mk_ (KeepBut.trans (u14_ HK GW315 GW316) (KeepBut.of_below hb g none) (.inl rfl))
      have n8_:=mk_ (st_ (u13_ HB HI0 GE315 GE316) hb)
      clear HO_317001
      clear HO_317003
      clear HO331
      clear BK315
      clear BK316
      clear HI0
      clear HK
      clear HB
      have HO_317001:=n0_
      have HO_317003:=n1_
      have HO331:=n2_
      have HO334:=n3_
      have BK315:=n4_
      have BK316:=n5_
      have HI0:=n6_
      have HK:=n7_
      have HB:=n8_
      clear n0_ n1_ n2_ n3_ n4_ n5_ n6_ n7_ n8_
      clear hb ho30
      obtain ⟨Ao31,co31,eo31⟩:=Kd.R_slice HO334.out
      (first|subst eo31|(injection eo31 with f1_ f2_ f3_;have f4_:=f1_.symm;have f5_:=f3_.symm;clear f1_ f2_ f3_;subst f4_;subst f5_))
      refine hK.out _ _ ⟨(bc_ BK316.out 0).trans rfl,(bc_ BK316.out 1).trans rfl,(bc_ BK316.out 2).trans rfl,(bc_ BK316.out 3).trans rfl⟩ (fun hHeld => ?_)
      clear hK K
      refine norm_ (a':=?_) ?_ ?_
      rotate_left
      ·show Act.put _ (some 36) _ = _
       simp only [Act.put,sx_,sy_,sz_,i64_w,i32_w]
       rfl
      refine one_ (i:=5) (N:=some 37) #[true,true,true,true,true,true,false,false,false,false,false,false] rfl rfl (one_of HT_.out (by kernel_rfl)) (by decide) (fun K hK => ?_)
      refine goes_ Try.func78 (by kernel_rfl) rfl #[.pointer (some ⟨g,0,none⟩),.slice Ao31 y332.length co31] (by rfl) rfl rfl qm_ ?_
      with_reducible refine (spec_l21Rd_num.calls k1 g s0_0 t328 _ _ y332 t335 t336 w0 _ ?side1 ?side2 ?side3 ?side4 ?side5 A19.out).mono ?_
      (case side1 => exact u12_ HI0 NB0_315 NB0_316)
      (case side2 => exact u13_ HB HI0 GE315 GE316)
      (case side3 => repeat (first|exact (rr_ HO334.out).2.2|(with_reducible refine ca_ ?_ _)|(with_reducible refine cn_ ?_ _)|(with_reducible refine cd_ ?_)))
      (case side4 => exact (rr_ HO334.out).2.1)
      (case side5 => exact far_slice (IsS84.own_ne HI0.out HO334.out (by decide)))
      rintro e w32 ⟨rfl,hi,hb,hk⟩
      refine ⟨_,rfl,?_⟩
      have n0_:=mk_ (rm_ (Kd.R_keep (IsS84.apart (show IsS84 w0 _ g s0_0 t328 from u12_ HI0 NB0_315 NB0_316) (qr_ HO_317001) (by decide)) hk (fun _ h => h.2)) (fun _ h => h.1))
      have n1_:=mk_ (Kd.Q_mono (Kd.Q_keep (IsS84.apartQ (show IsS84 w0 _ g s0_0 t328 from u12_ HI0 NB0_315 NB0_316) (by (with_reducible repeat (first|apply Kd.Q_alloc|apply Kd.Q_drewN|apply Kd.Q_drew));exact HO_317003.out) (by decide)) hk (fun _ h => h.2)) (fun _ h => h.1))
      have n2_:=mk_ (KeepBut.blk hk (g':=gb315) (o:=.cells #[.int .i64 0,.slice none 0 0,.slice none 0 0,.slice none 0 0] 30 (0,0)) (qk_ BK315) NB315_0.out (by simp))
      have n3_:=mk_ (KeepBut.blk hk (g':=gb316) (o:=.cells #[.int .i64 t317,.slice Ao11 t318.length co11,.slice Ao25 y329.length co25,u317003] 30 (0,0)) (qk_ BK316) NB316_0.out (by simp))
      have n4_:=mk_ (rm_ (Kd.R_keep (IsS84.apart (show IsS84 w0 _ g s0_0 t328 from u12_ HI0 NB0_315 NB0_316) (qr_ HO331) (by decide)) hk (fun _ h => h.2)) (fun _ h => h.1))
      have n5_:=mk_ (rm_ (Kd.R_keep (IsS84.apart (show IsS84 w0 _ g s0_0 t328 from u12_ HI0 NB0_315 NB0_316) (qr_ HO334) (by decide)) hk (fun _ h => h.2)) (fun _ h => h.1))
      have n6_:=mk_ (KeepBut.trans (u14_ HK GW315 GW316) hk (.inl rfl))
      have n7_:=mk_ (hb)
      have n8_:=mk_ (hi)
      clear HO_317001
      clear HO_317003
      clear BK315
      clear BK316
      clear HO331
      clear HO334
      clear HK
      clear HB
      clear HI0
      have HO_317001:=n0_
      have HO_317003:=n1_
      have BK315:=n2_
      have BK316:=n3_
      have HO331:=n4_
      have HO334:=n5_
      have HK:=n6_
      have HB:=n7_
      have HI0:=n8_
      clear n0_ n1_ n2_ n3_ n4_ n5_ n6_ n7_ n8_
      (try clear hb)
      (try clear hb2)
      (try clear hk)
      (try clear hi)
      refine hK.out _ _ ⟨(bc_ BK316.out 0).trans rfl,(bc_ BK316.out 1).trans rfl,(bc_ BK316.out 2).trans rfl,(bc_ BK316.out 3).trans rfl⟩ (fun hHeld => ?_)
      clear hK K
      refine norm_ (a':=?_) ?_ ?_
      rotate_left
      ·show Act.put _ (some 37) _ = _
       simp only [Act.put,sx_,sy_,sz_,i64_w,i32_w]
       rfl
      refine one_ (i:=6) (N:=some 38) #[true,true,true,true,true,true,true,false,false,false,false,false] rfl rfl (one_of HT_.out (by kernel_rfl)) (by decide) (fun K hK => ?_)
      refine goes_ Try.func53 (by kernel_rfl) rfl #[.pointer (some ⟨g,0,none⟩),.int .i64 t335] (by rfl) rfl rfl qm_ ?_
      with_reducible refine (spec_l21Rd_pick.calls k1 g s0_0 t336 t335 t337 t338 w0 _ ?side1 ?side2 A20.out).mono ?_
      (case side1 => exact u12_ HI0 NB0_315 NB0_316)
      (case side2 => exact u13_ HB HI0 GE315 GE316)
      rintro e w33 ⟨rfl,hi,hb,hk⟩
      refine ⟨_,rfl,?_⟩
      have n0_:=mk_ (rm_ (Kd.R_keep (IsS84.apart (show IsS84 w0 _ g s0_0 t336 from u12_ HI0 NB0_315 NB0_316) (qr_ HO_317001) (by decide)) hk (fun _ h => h.2)) (fun _ h => h.1))
      have n1_:=mk_ (Kd.Q_mono (Kd.Q_keep (IsS84.apartQ (show IsS84 w0 _ g s0_0 t336 from u12_ HI0 NB0_315 NB0_316) (by (with_reducible repeat (first|apply Kd.Q_alloc|apply Kd.Q_drewN|apply Kd.Q_drew));exact HO_317003.out) (by decide)) hk (fun _ h => h.2)) (fun _ h => h.1))
      have n2_:=mk_ (KeepBut.blk hk (g':=gb315) (o:=.cells #[.int .i64 0,.slice none 0 0,.slice none 0 0,.slice none 0 0] 30 (0,0)) (qk_ BK315) NB315_0.out (by simp))
      have n3_:=mk_ (KeepBut.blk hk (g':=gb316) (o:=.cells #[.int .i64 t317,.slice Ao11 t318.length co11,.slice Ao25 y329.length co25,u317003] 30 (0,0)) (qk_ BK316) NB316_0.out (by simp))
      have n4_:=mk_ (rm_ (Kd.R_keep (IsS84.apart (show IsS84 w0 _ g s0_0 t336 from u12_ HI0 NB0_315 NB0_316) (qr_ HO331) (by decide)) hk (fun _ h => h.2)) (fun _ h => h.1))
      have n5_:=mk_ (rm_ (Kd.R_keep (IsS84.apart (show IsS84 w0 _ g s0_0 t336 from u12_ HI0 NB0_315 NB0_316) (qr_ HO334) (by decide)) hk (fun _ h => h.2)) (fun _ h => h.1))
      have n6_:=mk_ (KeepBut.trans (u14_ HK GW315 GW316) hk (.inl rfl))
      have n7_:=mk_ (hb)
      have n8_:=mk_ (hi)
      clear HO_317001
      clear HO_317003
      clear BK315
      clear BK316
      clear HO331
      clear HO334
      clear HK
      clear HB
      clear HI0
      have HO_317001:=n0_
      have HO_317003:=n1_
      have BK315:=n2_
      have BK316:=n3_
      have HO331:=n4_
      have HO334:=n5_
      have HK:=n6_
      have HB:=n7_
      have HI0:=n8_
      clear n0_ n1_ n2_ n3_ n4_ n5_ n6_ n7_ n8_
      (try clear hb)
      (try clear hb2)
      (try clear hk)
      (try clear hi)
      refine hK.out _ _ ⟨(bc_ BK316.out 0).trans rfl,(bc_ BK316.out 1).trans rfl,(bc_ BK316.out 2).trans rfl,(bc_ BK316.out 3).trans rfl⟩ (fun hHeld => ?_)
      clear hK K
      refine norm_ (a':=?_) ?_ ?_
      rotate_left
      ·show Act.put _ (some 38) _ = _
       simp only [Act.put,sx_,sy_,sz_,i64_w,i32_w]
       rfl
      refine pure_ (i:=7) (N:=some 39) (v:=?_) (a':=?_) #[true,true,true,true,true,true,true,true,false,false,false,false] rfl rfl (any_of HT_.out (by kernel_rfl)) (fun _ _ _ h => h) (Or.inl ⟨by rfl,?_⟩) ?_ ?_
      rotate_left
      ·intro w'
       go_simp
       with_reducible rfl
      rotate_left
      ·simp only [Act.put,sx_,sy_,sz_,i64_w,i32_w]
       rfl
      refine one_ (i:=8) (N:=some 40) #[true,true,true,true,true,true,true,true,true,false,false,false] rfl rfl (one_of HT_.out (by kernel_rfl)) (by decide) (fun K hK => ?_)
      refine value_ (w1:=?_) (v:=?_) (by rfl) rfl ?_ ?_
      rotate_left 2
      ·go_simp
       constructor
       ·rfl
       ·rfl
      refine hK.out _ _ ⟨(bc_ (ka_ BK316.out _) 0).trans rfl,(bc_ (ka_ BK316.out _) 1).trans rfl,(bc_ (ka_ BK316.out _) 2).trans rfl,(bc_ (ka_ BK316.out _) 3).trans rfl⟩ (fun hHeld => ?_)
      clear hK K
      refine norm_ (a':=?_) ?_ ?_
      rotate_left
      ·show Act.put _ (some 40) _ = _
       simp only [Act.put,sx_,sy_,sz_,i64_w,i32_w]
       rfl
      refine one_ (i:=9) (N:=some 41) #[true,true,true,true,true,true,true,true,true,true,false,false] rfl rfl (one_of HT_.out (by kernel_rfl)) (by decide) (fun K hK => ?_)
      refine Kd.Q_append_step (Kd.int .i64) w.heap.size (by rfl) (.tmp 33) (.tmp 40) 23 3 (.int .i64 0) 8 rfl Try.underlying23 info3 rfl (by decide) (by omega) u317003 x317003_1 (wrap64 (1 + t337)) [.int .i64 (wrap64 (1 + t337))] (fun k_ => some k_ ≠ (.slice Ao25 y329.length co25 : Value).ownBlock ∧ some k_ ≠ (.slice Ao31 y332.length co31 : Value).ownBlock) (fun _ => False) rfl rfl ?aP (fun _ hk => hk.elim) ?aF ?aO (Below.refl _ _) ?aS ?aL ?_
      (case aP => exact rfl)
      (case aF => exact (fun k_ hk => ⟨Kd.fresh' (Kd.R_lt (qr_ HO331)) k_ hk,Kd.fresh' (Kd.R_lt (qr_ HO334)) k_ hk⟩))
      (case aO => exact (by (with_reducible repeat (first|apply Kd.Q_alloc|apply Kd.Q_drewN|apply Kd.Q_drew));exact HO_317003.out))
      (case aS => exact (keep_size (w:=w) (g:=g) (row:=none) (u14_ HK GW315 GW316)))
      (case aL => have:=LMc21.out;omega)
      intro v340 w34 ho hb hg hat
      rw [← Ny339.out] at ho
      have n0_:=mk_ (Kd.R_over' (qr_ HO_317001) (Kd.Q_typed (by (with_reducible repeat (first|apply Kd.Q_alloc|apply Kd.Q_drewN|apply Kd.Q_drew));exact HO_317003.out)) (by decide) hg)
      have n1_:=mk_ (blk_grown (g:=gb315) (o:=.cells #[.int .i64 0,.slice none 0 0,.slice none 0 0,.slice none 0 0] 30 (0,0)) (qk_ BK315) hg (Kd.Q_ne HO_317003.out BK315.out (by decide)))
      have n2_:=mk_ (blk_grown (g:=gb316) (o:=.cells #[.int .i64 t317,.slice Ao11 t318.length co11,.slice Ao25 y329.length co25,u317003] 30 (0,0)) (qk_ BK316) hg (Kd.Q_ne HO_317003.out BK316.out (by decide)))
      have n3_:=mk_ (IsS84.grown (u12_ HI0 NB0_315 NB0_316) hg (IsS84.own_neQ HI0.out HO_317003.out (by decide)))
      have n4_:=mk_ (Kd.R_after (ok:=(fun k_ => some k_ ≠ (.slice Ao31 y332.length co31 : Value).ownBlock)) (by (with_reducible repeat (first|apply ra_|apply rn_|apply rd_));exact rm_ HO331.out (fun _ hk => ⟨hk.2,hk.1⟩)) hg hat)
      have n5_:=mk_ (Kd.R_after (ok:=(fun k_ => some k_ ≠ (.slice Ao25 y329.length co25 : Value).ownBlock)) (by (with_reducible repeat (first|apply ra_|apply rn_|apply rd_));exact rm_ HO334.out (fun _ hk => ⟨hk.2,hk.1.2⟩)) hg hat)
      have n6_:=mk_ (below_weaken (u13_ HB HI0 GE315 GE316) HL.out hb)
      have n7_:=mk_ (KeepBut.trans (u14_ HK GW315 GW316) (KeepBut.of_grown hg g) (Kd.Q_base2 HO_317003.out))
      have n8_:=mk_ (ho)
      clear HO_317001
      clear BK315
      clear BK316
      clear HI0
      clear HO331
      clear HO334
      clear HB
      clear HK
      clear HO_317003
      have HO_317001:=n0_
      have BK315:=n1_
      have BK316:=n2_
      have HI0:=n3_
      have HO331:=n4_
      have HO334:=n5_
      have HB:=n6_
      have HK:=n7_
      have HO341:=n8_
      clear n0_ n1_ n2_ n3_ n4_ n5_ n6_ n7_ n8_
      clear ho hb hg hat
      obtain ⟨Ao35,co35,eo35,_⟩:=Kd.Q_slice HO341.out
      (first|subst eo35|(injection eo35 with f1_ f2_ f3_;have f4_:=f1_.symm;have f5_:=f3_.symm;clear f1_ f2_ f3_;subst f4_;subst f5_))
      refine hK.out _ _ ⟨(bc_ BK316.out 0).trans rfl,(bc_ BK316.out 1).trans rfl,(bc_ BK316.out 2).trans rfl,(bc_ BK316.out 3).trans rfl⟩ (fun hHeld => ?_)
      clear hK K
      refine norm_ (a':=?_) ?_ ?_
      rotate_left
      ·show Act.put _ (some 41) _ = _
       simp only [Act.put,sx_,sy_,sz_,i64_w,i32_w]
       rfl
      refine pure_ (i:=10) (N:=some 42) (v:=?_) (a':=?_) #[true,true,true,true,true,true,true,true,true,true,true,false] rfl rfl (any_of HT_.out (by kernel_rfl)) (fun _ _ _ h => h) (Or.inl ⟨by rfl,?_⟩) ?_ ?_
      rotate_left
      ·intro w'
       go_simp
       with_reducible rfl
      rotate_left
      ·simp only [Act.put,sx_,sy_,sz_,i64_w,i32_w]
       rfl
      refine last_ (i:=11) (N:=none) #[true,true,true,true,true,true,true,true,true,true,true,true] rfl rfl (one_of HT_.out (by kernel_rfl)) (by decide) (fun K hK => ?_)
      have hs36 : w34.cell? ⟨gb316,3,none⟩ = some (u317003):=(bc_ BK316.out 3).trans rfl
      have hfs36:=bf_ BK316.out 3
      have hns36_0:=NB315_316.out
      have hms36_0:=NB316_315.out
      refine skip_ (w1:=?_) (by rfl) rfl ?_ ?_
      rotate_left
      ·go_simp
       rfl
      refine hK.out _ _ ?_
      clear hK K
      refine done_ (done_of HT_.out (by kernel_rfl)) ?_
      try go_wp2
      go_roundg k1
      case measure => have:=HK1.out;omega
      case rel => exact ⟨(wrap64 (x6_1 - 1)),(t338),(y329),(y339),(.slice Ao25 y329.length co25),(.slice Ao35 y339.length co35),qf_,H',⟨by have:=HK1.out;omega⟩,⟨by (with_reducible repeat (first|apply ra_|apply rn_|apply rd_));exact rm_ (rf_ (p:=⟨gb316,3,none⟩) (rt_ HO_317001.out BK316.out (by decide)) (fun _ hk => hk.2) (.slice Ao35 y339.length co35)) (fun _ hk => trivial)⟩,⟨by (with_reducible repeat (first|apply ra_|apply rn_|apply rd_));exact rm_ (rf_ (p:=⟨gb316,3,none⟩) (rt_ HO331.out BK316.out (by decide)) (fun _ hk => hk.2) (.slice Ao35 y339.length co35)) (fun _ hk => hk.1.2)⟩,⟨by (with_reducible repeat (first|apply Kd.Q_alloc|apply Kd.Q_drewN|apply Kd.Q_drew));exact Kd.Q_mono (Kd.Q_far (p:=⟨gb316,3,none⟩) (Kd.Q_types HO341.out BK316.out (by decide)) (fun _ hk => hk.2) (.slice Ao35 y339.length co35)) (fun _ hk => hk.1.1)⟩,⟨by (with_reducible repeat (first|refine kn_ ?_ _|refine kd_ ?_|refine ka_ ?_ _));refine blk_far ?_ NB315_316.out _;(with_reducible repeat (first|refine kn_ ?_ _|refine kd_ ?_|refine ka_ ?_ _));exact BK315.out⟩,⟨by (with_reducible repeat (first|refine kn_ ?_ _|refine kd_ ?_|refine ka_ ?_ _));refine blk_put (cs:=#[.int .i64 t317,.slice Ao11 t318.length co11,.slice Ao25 y329.length co25,u317003]) ?_ 3 _ rfl;(with_reducible repeat (first|refine kn_ ?_ _|refine kd_ ?_|refine ka_ ?_ _));exact BK316.out⟩,⟨u12_ HI0 NB0_315 NB0_316⟩,⟨u14_ HK GW315 GW316⟩,⟨u13_ HB HI0 GE315 GE316⟩⟩
     ·rw [if_neg c21] at H
      exact absurd H (by simp)
    ·rw [if_neg c18] at H
     exact absurd H (by simp)
   ·rw [if_neg c16] at H
    have c16b0 : decide (0 < x6_1) = false:=decide_eq_false c16
    clear c16
    replace H:=Option.bind_eq_some_iff.mp H
    obtain ⟨⟨t342,t343⟩,A370,H⟩:=H
    replace H : (if t342 = 0 then (if 0 < (x317002_1.length : Int) then (some (t317,t318,(x317002_1.set (0 : Int).toNat t317),x317003_1,t343)) else (none)) else (if t342 = 1 then (if 0 < (x317003_1.length : Int) then (some (t317,t318,x317002_1,(x317003_1.set (0 : Int).toNat 0),t343)) else (none)) else (if t342 = 2 then (if 1 ≤ (x317003_1.length : Int) then (some (t317,t318,x317002_1,(x317003_1.drop (1 : Int).toNat),t343)) else (none)) else (if t342 = 3 then (some (9,t318,x317002_1,x317003_1,t343)) else (some (t317,t318,x317002_1,x317003_1,t343)))))) = some (r1,r2,r3,r4,r5):=H
    have A37:=mk_ A370
    clear A370
    by_cases c38 : t342 = 0
    ·rw [if_pos c38] at H
     have c38b0 : (t342 == 0) = true:=beq_iff_eq.mpr c38
     have c38b1 : (t342 != 0) = false:=bne_eq_false_iff_eq.mpr c38
     clear c38
     by_cases c39 : 0 < (x317002_1.length : Int)
     ·rw [if_pos c39] at H
      have c39b0 : decide (0 < (x317002_1.length : Int)) = true:=decide_eq_true c39
      have c39b1 : decide (0 < x317002_1.length) = true:=decide_eq_true (by omega)
      clear c39
      obtain ⟨y344,hy344⟩ : ∃ y_ : List Int,y_ = (x317002_1.set (0 : Int).toNat t317):=⟨_,rfl⟩
      replace H : (some (t317,t318,y344,x317003_1,t343)) = some (r1,r2,r3,r4,r5):=by first|(rw [hy344];with_reducible exact H)|(have H2_:=(Option.bind_some _ _).symm.trans H;rw [hy344];with_reducible exact H2_)|(have H2_:=(Option.bind_some _ _).symm.trans H;with_reducible exact H2_)|with_reducible exact H|(rw [hy344];exact H)|exact H
      have Ny344:=mk_ hy344
      clear hy344
      simp only [Option.some.injEq,Prod.mk.injEq] at H
      obtain ⟨rfl,rfl,rfl,rfl,rfl⟩:=H
      go_wp2_with (first|((with_reducible refine gate_callee (f:=53) rfl ?_);refine goesL_ (some 44) rfl rfl Try.func53 (by kernel_rfl) rfl #[.pointer (some ⟨g,0,none⟩),.int .i64 80] rfl qm_ ?_;(with_reducible refine (spec_l21Rd_pick.calls k1 g s0_0 x1001_1 80 t342 t343 w0 _ ?side1 ?side2 A37.out).mono ?_);(case side1 => exact u12_ HI0 NB0_315 NB0_316);(case side2 => exact u13_ HB HI0 GE315 GE316);rintro e w41 ⟨rfl,hi,hb,hk⟩;refine ⟨_,rfl,?_⟩;have n0_:=mk_ (rm_ (Kd.R_keep (IsS84.apart (show IsS84 w0 _ g s0_0 x1001_1 from u12_ HI0 NB0_315 NB0_316) (qr_ HO_317001) (by decide)) hk (fun _ h => h.2)) (fun _ h => h.1));have n1_:=mk_ (rm_ (Kd.R_keep (IsS84.apart (show IsS84 w0 _ g s0_0 x1001_1 from u12_ HI0 NB0_315 NB0_316) (qr_ HO_317002) (by decide)) hk (fun _ h => h.2)) (fun _ h => h.1));have n2_:=mk_ (Kd.Q_mono (Kd.Q_keep (IsS84.apartQ (show IsS84 w0 _ g s0_0 x1001_1 from u12_ HI0 NB0_315 NB0_316) (by (with_reducible repeat (first|apply Kd.Q_alloc|apply Kd.Q_drewN|apply Kd.Q_drew));exact HO_317003.out) (by decide)) hk (fun _ h => h.2)) (fun _ h => h.1));have n3_:=mk_ (KeepBut.blk hk (g':=gb315) (o:=.cells #[.int .i64 0,.slice none 0 0,.slice none 0 0,.slice none 0 0] 30 (0,0)) (qk_ BK315) NB315_0.out (by simp));have n4_:=mk_ (KeepBut.blk hk (g':=gb316) (o:=.cells #[.int .i64 t317,.slice Ao11 t318.length co11,u317002,u317003] 30 (0,0)) (qk_ BK316) NB316_0.out (by simp));have n5_:=mk_ (KeepBut.trans (u14_ HK GW315 GW316) hk (.inl rfl));have n6_:=mk_ (hb);have n7_:=mk_ (hi);clear HO_317001;clear HO_317002;clear HO_317003;clear BK315;clear BK316;clear HK;clear HB;clear HI0;have HO_317001:=n0_;have HO_317002:=n1_;have HO_317003:=n2_;have BK315:=n3_;have BK316:=n4_;have HK:=n5_;have HB:=n6_;have HI0:=n7_;clear n0_ n1_ n2_ n3_ n4_ n5_ n6_ n7_;(try clear hb);(try clear hb2);(try clear hk);(try clear hi);have hnb42:=NB316_315.out;have hnc42:=NB315_316.out;have hnb43:=NB316_0.out;have hnc43:=NB0_316.out;have hcz44_0 : w41.cell? ⟨gb316,0,none⟩ = some (.int .i64 t317):=(bc_ BK316.out 0).trans rfl;have hcz44_1 : w41.cell? ⟨gb316,1,none⟩ = some (.slice Ao11 t318.length co11):=(bc_ BK316.out 1).trans rfl;have hcz44_2 : w41.cell? ⟨gb316,2,none⟩ = some (u317002):=(bc_ BK316.out 2).trans rfl;have hcz44_3 : w41.cell? ⟨gb316,3,none⟩ = some (u317003):=(bc_ BK316.out 3).trans rfl;have hfz44_0:=bf_ BK316.out 0;have hfz44_1:=bf_ BK316.out 1;have hfz44_2:=bf_ BK316.out 2;have hfz44_3:=bf_ BK316.out 3;have p40 : 0 ≤ (0 : Int):=(by omega);have q40 : (0 : Int) < ((x317002_1.length : Int) : Int):=od_ qa_;have qi40 : (0 < x317002_1.length) = True:=eq_true (by omega);obtain ⟨go40,co40,eo40,gb40,gl40,cl40,HG40⟩:=Kd.R_form HO_317002.out (by omega);(first|cases eo40|(injection eo40 with ea_ en_ ec_;(first|subst ea_|(injection ea_ with ea_;subst ea_));subst ec_;clear en_));have GB40:=mk_ gb40;have GG40:=mk_ HG40;clear gb40 gl40 HG40;obtain ⟨hx40_0,hf40_0⟩:=Kd.R_celln 0 HO_317002.out (0 : Int) p40 q40;(try rw [show ((0 : Int)).toNat = 0 from rfl] at hx40_0);(try simp only [Nat.reduceMul,Nat.zero_mul,Nat.zero_add,Nat.add_zero,Nat.reduceAdd] at hx40_0);(try rw [show ((0 : Int)).toNat = 0 from rfl] at hf40_0);(try simp only [Nat.reduceMul,Nat.zero_mul,Nat.zero_add,Nat.add_zero,Nat.reduceAdd] at hf40_0);replace p40:=eq_true p40;replace q40:=eq_true q40;obtain ⟨hy45_,hz45_⟩:=Kd.R_celln 0 HO_317002.out (0 : Int) (by omega) (od_ qa_);(try simp only [Int.reduceToNat,Int.toNat_zero,Int.toNat_ofNat,Nat.reduceMul,Nat.zero_mul,Nat.zero_add,Nat.add_zero] at hy45_ hz45_);(try rw [show ((0 : Int)).toNat = 0 from rfl] at hy45_);(try rw [show ((0 : Int)).toNat = 0 from rfl] at hz45_);have HP45:=Kd.R_putg HO_317002.out (0 : Int) t317)|((with_reducible refine gate_store (t:=3) (p:=50) rfl ?_);refine store_event (t:=3) (p:=50) (v:=?vo_w46) (w1:=(w41.setCell ⟨go40,(0 : Int).toNat,none⟩ (.int .i64 t317))) ?hg ?ho ?hn ?hr ?_;(case ho => rfl);(case hg => rfl);(case hn => rfl);(case hr => first|(go_simp;done)|(go_simp;rfl));intro w46 hw;have hg : w41.grownBy w46 (some go40):=(by rw [hw];exact HP45.2);have hp_ : Kd.R (Kd.int .i64) 3 w46 w.heap.size (fun k_ => some k_ ≠ (u317003 : Value).ownBlock) (.slice (some ⟨go40,0,none⟩) x317002_1.length co40) y344:=(by rw [hw,Ny344.out];exact HP45.1);clear HP45;have n0_:=mk_ (Kd.R_over' (v:=(.slice (some ⟨go40,0,none⟩) x317002_1.length co40)) (qr_ HO_317001) (Kd.R_typed HO_317002.out) (by decide) hg);have n1_:=mk_ (hp_);have n2_:=mk_ (Kd.Q_after (v:=(.slice (some ⟨go40,0,none⟩) x317002_1.length co40)) (v1:=(.slice (some ⟨go40,0,none⟩) x317002_1.length co40)) (ok:=(fun _ => True)) (by (with_reducible repeat (first|apply Kd.Q_alloc|apply Kd.Q_drewN|apply Kd.Q_drew));exact Kd.Q_mono HO_317003.out (fun _ hk => ⟨trivial,hk⟩)) hg (.inl rfl));have n3_:=mk_ (blk_grown (g:=gb315) (o:=.cells #[.int .i64 0,.slice none 0 0,.slice none 0 0,.slice none 0 0] 30 (0,0)) (qk_ BK315) hg (Kd.R_ne HO_317002.out BK315.out (by decide)));have n4_:=mk_ (blk_grown (g:=gb316) (o:=.cells #[.int .i64 t317,.slice Ao11 t318.length co11,.slice (some ⟨go40,0,none⟩) x317002_1.length co40,u317003] 30 (0,0)) (qk_ BK316) hg (Kd.R_ne HO_317002.out BK316.out (by decide)));have n5_:=mk_ (IsS84.grown (u12_ HI0 NB0_315 NB0_316) hg (IsS84.own_ne HI0.out HO_317002.out (by decide)));have n6_:=mk_ ((by rw [hw];exact bs_ (HB.out) (Nat.le_trans HL.out GB40.out) : Below w0.heap.size w0 w46));have n7_:=mk_ (KeepBut.trans (u14_ HK GW315 GW316) (KeepBut.of_grown hg g) (Kd.R_base2 HO_317002.out));clear HO_317001;clear HO_317002;clear HO_317003;clear BK315;clear BK316;clear HI0;clear HB;clear HK;have HO_317001:=n0_;have HO_317002:=n1_;have HO_317003:=n2_;have BK315:=n3_;have BK316:=n4_;have HI0:=n5_;have HB:=n6_;have HK:=n7_;clear n0_ n1_ n2_ n3_ n4_ n5_ n6_ n7_;clear hg hw hp_;have hcz47_0 : w46.cell? ⟨gb316,0,none⟩ = some (.int .i64 t317):=(bc_ BK316.out 0).trans rfl;have hcz47_1 : w46.cell? ⟨gb316,1,none⟩ = some (.slice Ao11 t318.length co11):=(bc_ BK316.out 1).trans rfl;have hcz47_2 : w46.cell? ⟨gb316,2,none⟩ = some (.slice (some ⟨go40,0,none⟩) x317002_1.length co40):=(bc_ BK316.out 2).trans rfl;have hcz47_3 : w46.cell? ⟨gb316,3,none⟩ = some (u317003):=(bc_ BK316.out 3).trans rfl;have hfz47_0:=bf_ BK316.out 0;have hfz47_1:=bf_ BK316.out 1;have hfz47_2:=bf_ BK316.out 2;have hfz47_3:=bf_ BK316.out 3;have hnb48:=NB315_0.out;have hnc48:=NB0_315.out;have hcz49_0 : w46.cell? ⟨gb315,0,none⟩ = some (.int .i64 0):=(bc_ BK315.out 0).trans rfl;have hcz49_1 : w46.cell? ⟨gb315,1,none⟩ = some (.slice none 0 0):=(bc_ BK315.out 1).trans rfl;have hcz49_2 : w46.cell? ⟨gb315,2,none⟩ = some (.slice none 0 0):=(bc_ BK315.out 2).trans rfl;have hcz49_3 : w46.cell? ⟨gb315,3,none⟩ = some (.slice none 0 0):=(bc_ BK315.out 3).trans rfl;have hfz49_0:=bf_ BK315.out 0;have hfz49_1:=bf_ BK315.out 1;have hfz49_2:=bf_ BK315.out 2;have hfz49_3:=bf_ BK315.out 3;obtain ⟨Ao50,co50,eo50,_⟩:=Kd.Q_slice HO_317003.out;subst eo50))
      refine bodyPost_ret (results_cell_row rfl _ _ gb315 30 #[.int .i64 t317,.slice Ao11 t318.length co11,.slice (some ⟨go40,0,none⟩) x317002_1.length co40,.slice Ao50 x317003_1.length co50] (0,0) _ rfl (by (with_reducible repeat (first|refine kn_ ?_ _|refine kd_ ?_|refine ka_ ?_ _));refine blk_put (cs:=#[.int .i64 t317,.slice Ao11 t318.length co11,.slice (some ⟨go40,0,none⟩) x317002_1.length co40,.slice none 0 0]) ?_ 3 _ rfl;(with_reducible repeat (first|refine kn_ ?_ _|refine kd_ ?_|refine ka_ ?_ _));refine blk_put (cs:=#[.int .i64 t317,.slice Ao11 t318.length co11,.slice none 0 0,.slice none 0 0]) ?_ 2 _ rfl;(with_reducible repeat (first|refine kn_ ?_ _|refine kd_ ?_|refine ka_ ?_ _));refine blk_put (cs:=#[.int .i64 t317,.slice none 0 0,.slice none 0 0,.slice none 0 0]) ?_ 1 _ rfl;(with_reducible repeat (first|refine kn_ ?_ _|refine kd_ ?_|refine ka_ ?_ _));refine blk_put (cs:=#[.int .i64 0,.slice none 0 0,.slice none 0 0,.slice none 0 0]) ?_ 0 _ rfl;(with_reducible repeat (first|refine kn_ ?_ _|refine kd_ ?_|refine ka_ ?_ _));exact BK315.out) Try.underlying30 rfl (by kernel_rfl)) rfl ?_
      exact ⟨_,_,_,qe_,by (with_reducible repeat (first|apply ra_|apply rn_|apply rd_));exact rm_ (rf_ (p:=⟨gb315,3,none⟩) (rf_ (p:=⟨gb315,2,none⟩) (rf_ (p:=⟨gb315,1,none⟩) (rf_ (p:=⟨gb315,0,none⟩) (rt_ HO_317001.out BK315.out (by decide)) (fun _ hk => hk.2) (.int .i64 t317)) (fun _ hk => hk.2) (.slice Ao11 t318.length co11)) (fun _ hk => hk.2) (.slice (some ⟨go40,0,none⟩) x317002_1.length co40)) (fun _ hk => hk.2) (.slice Ao50 x317003_1.length co50)) (fun _ hk => trivial),by (with_reducible repeat (first|apply ra_|apply rn_|apply rd_));exact rm_ (rf_ (p:=⟨gb315,3,none⟩) (rf_ (p:=⟨gb315,2,none⟩) (rf_ (p:=⟨gb315,1,none⟩) (rf_ (p:=⟨gb315,0,none⟩) (rt_ HO_317002.out BK315.out (by decide)) (fun _ hk => hk.2) (.int .i64 t317)) (fun _ hk => hk.2) (.slice Ao11 t318.length co11)) (fun _ hk => hk.2) (.slice (some ⟨go40,0,none⟩) x317002_1.length co40)) (fun _ hk => hk.2) (.slice Ao50 x317003_1.length co50)) (fun _ hk => hk.1),by (with_reducible repeat (first|apply Kd.Q_alloc|apply Kd.Q_drewN|apply Kd.Q_drew));exact Kd.Q_mono (Kd.Q_far (p:=⟨gb315,3,none⟩) (Kd.Q_far (p:=⟨gb315,2,none⟩) (Kd.Q_far (p:=⟨gb315,1,none⟩) (Kd.Q_far (p:=⟨gb315,0,none⟩) (Kd.Q_types HO_317003.out BK315.out (by decide)) (fun _ hk => hk.2) (.int .i64 t317)) (fun _ hk => hk.2) (.slice Ao11 t318.length co11)) (fun _ hk => hk.2) (.slice (some ⟨go40,0,none⟩) x317002_1.length co40)) (fun _ hk => hk.2) (.slice Ao50 x317003_1.length co50)) (fun _ hk => hk.1.2),u12_ HI0 NB0_315 NB0_316,u13_ HB HI0 GE315 GE316,u14_ HK GW315 GW316⟩
     ·rw [if_neg c39] at H
      exact absurd H (by simp)
    ·rw [if_neg c38] at H
     have c38b0 : (t342 == 0) = false:=beq_eq_false_iff_ne.mpr c38
     have c38b1 : (t342 != 0) = true:=bne_iff_ne.mpr c38
     by_cases c51 : t342 = 1
     ·rw [if_pos c51] at H
      have c51b0 : (t342 == 1) = true:=beq_iff_eq.mpr c51
      have c51b1 : (t342 != 1) = false:=bne_eq_false_iff_eq.mpr c51
      clear c51
      by_cases c52 : 0 < (x317003_1.length : Int)
      ·rw [if_pos c52] at H
       have c52b0 : decide (0 < (x317003_1.length : Int)) = true:=decide_eq_true c52
       have c52b1 : decide (0 < x317003_1.length) = true:=decide_eq_true (by omega)
       clear c52
       obtain ⟨y345,hy345⟩ : ∃ y_ : List Int,y_ = (x317003_1.set (0 : Int).toNat 0):=⟨_,rfl⟩
       replace H : (some (t317,t318,x317002_1,y345,t343)) = some (r1,r2,r3,r4,r5):=by first|(rw [hy345];with_reducible exact H)|(have H2_:=(Option.bind_some _ _).symm.trans H;rw [hy345];with_reducible exact H2_)|(have H2_:=(Option.bind_some _ _).symm.trans H;with_reducible exact H2_)|with_reducible exact H|(rw [hy345];exact H)|exact H
       have Ny345:=mk_ hy345
       clear hy345
       simp only [Option.some.injEq,Prod.mk.injEq] at H
       obtain ⟨rfl,rfl,rfl,rfl,rfl⟩:=H
       go_wp2_with (first|((with_reducible refine gate_callee (f:=53) rfl ?_);refine goesL_ (some 44) rfl rfl Try.func53 (by kernel_rfl) rfl #[.pointer (some ⟨g,0,none⟩),.int .i64 80] rfl qm_ ?_;(with_reducible refine (spec_l21Rd_pick.calls k1 g s0_0 x1001_1 80 t342 t343 w0 _ ?side1 ?side2 A37.out).mono ?_);(case side1 => exact u12_ HI0 NB0_315 NB0_316);(case side2 => exact u13_ HB HI0 GE315 GE316);rintro e w54 ⟨rfl,hi,hb,hk⟩;refine ⟨_,rfl,?_⟩;have n0_:=mk_ (rm_ (Kd.R_keep (IsS84.apart (show IsS84 w0 _ g s0_0 x1001_1 from u12_ HI0 NB0_315 NB0_316) (qr_ HO_317001) (by decide)) hk (fun _ h => h.2)) (fun _ h => h.1));have n1_:=mk_ (rm_ (Kd.R_keep (IsS84.apart (show IsS84 w0 _ g s0_0 x1001_1 from u12_ HI0 NB0_315 NB0_316) (qr_ HO_317002) (by decide)) hk (fun _ h => h.2)) (fun _ h => h.1));have n2_:=mk_ (Kd.Q_mono (Kd.Q_keep (IsS84.apartQ (show IsS84 w0 _ g s0_0 x1001_1 from u12_ HI0 NB0_315 NB0_316) (by (with_reducible repeat (first|apply Kd.Q_alloc|apply Kd.Q_drewN|apply Kd.Q_drew));exact HO_317003.out) (by decide)) hk (fun _ h => h.2)) (fun _ h => h.1));have n3_:=mk_ (KeepBut.blk hk (g':=gb315) (o:=.cells #[.int .i64 0,.slice none 0 0,.slice none 0 0,.slice none 0 0] 30 (0,0)) (qk_ BK315) NB315_0.out (by simp));have n4_:=mk_ (KeepBut.blk hk (g':=gb316) (o:=.cells #[.int .i64 t317,.slice Ao11 t318.length co11,u317002,u317003] 30 (0,0)) (qk_ BK316) NB316_0.out (by simp));have n5_:=mk_ (KeepBut.trans (u14_ HK GW315 GW316) hk (.inl rfl));have n6_:=mk_ (hb);have n7_:=mk_ (hi);clear HO_317001;clear HO_317002;clear HO_317003;clear BK315;clear BK316;clear HK;clear HB;clear HI0;have HO_317001:=n0_;have HO_317002:=n1_;have HO_317003:=n2_;have BK315:=n3_;have BK316:=n4_;have HK:=n5_;have HB:=n6_;have HI0:=n7_;clear n0_ n1_ n2_ n3_ n4_ n5_ n6_ n7_;(try clear hb);(try clear hb2);(try clear hk);(try clear hi);have hnb55:=NB316_315.out;have hnc55:=NB315_316.out;have hnb56:=NB316_0.out;have hnc56:=NB0_316.out;have hcz57_0 : w54.cell? ⟨gb316,0,none⟩ = some (.int .i64 t317):=(bc_ BK316.out 0).trans rfl;have hcz57_1 : w54.cell? ⟨gb316,1,none⟩ = some (.slice Ao11 t318.length co11):=(bc_ BK316.out 1).trans rfl;have hcz57_2 : w54.cell? ⟨gb316,2,none⟩ = some (u317002):=(bc_ BK316.out 2).trans rfl;have hcz57_3 : w54.cell? ⟨gb316,3,none⟩ = some (u317003):=(bc_ BK316.out 3).trans rfl;have hfz57_0:=bf_ BK316.out 0;have hfz57_1:=bf_ BK316.out 1;have hfz57_2:=bf_ BK316.out 2;have hfz57_3:=bf_ BK316.out 3;have p53 : 0 ≤ (0 : Int):=(by omega);have q53 : (0 : Int) < ((x317003_1.length : Int) : Int):=od_ qa_;have qi53 : (0 < x317003_1.length) = True:=eq_true (by omega);obtain ⟨go53,oo53,co53,eo53,gb53,gl53,cl53,HG53⟩:=Kd.Q_form HO_317003.out (by omega);(first|cases eo53|(injection eo53 with ea_ en_ ec_;(first|subst ea_|(injection ea_ with ea_;subst ea_));subst ec_;clear en_));have GB53:=mk_ gb53;have GG53:=mk_ HG53;clear gb53 gl53 HG53;obtain ⟨hx53_0,hf53_0⟩:=Kd.Q_cell 0 HO_317003.out (0 : Int) p53 q53;(try rw [show ((0 : Int)).toNat = 0 from rfl] at hx53_0);(try simp only [Nat.reduceMul,Nat.zero_mul,Nat.zero_add,Nat.add_zero,Nat.reduceAdd] at hx53_0);(try rw [show ((0 : Int)).toNat = 0 from rfl] at hf53_0);(try simp only [Nat.reduceMul,Nat.zero_mul,Nat.zero_add,Nat.add_zero,Nat.reduceAdd] at hf53_0);replace p53:=eq_true p53;replace q53:=eq_true q53;obtain ⟨hy58_,hz58_⟩:=Kd.Q_cell 0 HO_317003.out (0 : Int) (by omega) (od_ qa_);(try simp only [Int.reduceToNat,Int.toNat_zero,Int.toNat_ofNat,Nat.reduceMul,Nat.zero_mul,Nat.zero_add,Nat.add_zero] at hy58_ hz58_);(try rw [show ((0 : Int)).toNat = 0 from rfl] at hy58_);(try rw [show ((0 : Int)).toNat = 0 from rfl] at hz58_);have HP58:=Kd.Q_putg HO_317003.out (0 : Int) (by omega) (by have h_ : (0 : Int) < ((x317003_1.length : Int) : Int):=od_ qa_;first|exact h_|(have e_:=(Kd.Q_reads' HO_317003.out).1;omega)|simpa using h_) 0)|((with_reducible refine gate_store (t:=3) (p:=55) rfl ?_);refine store_event (t:=3) (p:=55) (v:=?vo_w59) (w1:=(w54.setCell ⟨go53,oo53 + (0 : Int).toNat,none⟩ (.int .i64 0))) ?hg ?ho ?hn ?hr ?_;(case ho => rfl);(case hg => rfl);(case hn => rfl);(case hr => first|(go_simp;done)|(go_simp;rfl));intro w59 hw;have hg : w54.grownBy w59 (some go53):=(by rw [hw];exact HP58.2);have hp_ : Kd.Q (Kd.int .i64) 3 w59 w.heap.size (fun k_ => some k_ ≠ (u317002 : Value).ownBlock) (.slice (some ⟨go53,oo53,none⟩) x317003_1.length co53) y345:=(by rw [hw,Ny345.out];exact HP58.1);clear HP58;have n0_:=mk_ (Kd.R_over' (v:=(.slice (some ⟨go53,oo53,none⟩) x317003_1.length co53)) (qr_ HO_317001) (Kd.Q_typed HO_317003.out) (by decide) hg);have n1_:=mk_ (Kd.R_after (v:=(.slice (some ⟨go53,oo53,none⟩) x317003_1.length co53)) (v1:=(.slice (some ⟨go53,oo53,none⟩) x317003_1.length co53)) (ok:=(fun _ => True)) (by (with_reducible repeat (first|apply ra_|apply rn_|apply rd_));exact rm_ HO_317002.out (fun _ hk => ⟨trivial,hk⟩)) hg (.inl rfl));have n2_:=mk_ (hp_);have n3_:=mk_ (blk_grown (g:=gb315) (o:=.cells #[.int .i64 0,.slice none 0 0,.slice none 0 0,.slice none 0 0] 30 (0,0)) (qk_ BK315) hg (Kd.Q_ne HO_317003.out BK315.out (by decide)));have n4_:=mk_ (blk_grown (g:=gb316) (o:=.cells #[.int .i64 t317,.slice Ao11 t318.length co11,u317002,.slice (some ⟨go53,oo53,none⟩) x317003_1.length co53] 30 (0,0)) (qk_ BK316) hg (Kd.Q_ne HO_317003.out BK316.out (by decide)));have n5_:=mk_ (IsS84.grown (u12_ HI0 NB0_315 NB0_316) hg (IsS84.own_neQ HI0.out HO_317003.out (by decide)));have n6_:=mk_ ((by rw [hw];exact bs_ (HB.out) (Nat.le_trans HL.out GB53.out) : Below w0.heap.size w0 w59));have n7_:=mk_ (KeepBut.trans (u14_ HK GW315 GW316) (KeepBut.of_grown hg g) (Kd.Q_base2 HO_317003.out));clear HO_317001;clear HO_317002;clear HO_317003;clear BK315;clear BK316;clear HI0;clear HB;clear HK;have HO_317001:=n0_;have HO_317002:=n1_;have HO_317003:=n2_;have BK315:=n3_;have BK316:=n4_;have HI0:=n5_;have HB:=n6_;have HK:=n7_;clear n0_ n1_ n2_ n3_ n4_ n5_ n6_ n7_;clear hg hw hp_;have hcz60_0 : w59.cell? ⟨gb316,0,none⟩ = some (.int .i64 t317):=(bc_ BK316.out 0).trans rfl;have hcz60_1 : w59.cell? ⟨gb316,1,none⟩ = some (.slice Ao11 t318.length co11):=(bc_ BK316.out 1).trans rfl;have hcz60_2 : w59.cell? ⟨gb316,2,none⟩ = some (u317002):=(bc_ BK316.out 2).trans rfl;have hcz60_3 : w59.cell? ⟨gb316,3,none⟩ = some (.slice (some ⟨go53,oo53,none⟩) x317003_1.length co53):=(bc_ BK316.out 3).trans rfl;have hfz60_0:=bf_ BK316.out 0;have hfz60_1:=bf_ BK316.out 1;have hfz60_2:=bf_ BK316.out 2;have hfz60_3:=bf_ BK316.out 3;have hnb61:=NB315_0.out;have hnc61:=NB0_315.out;have hcz62_0 : w59.cell? ⟨gb315,0,none⟩ = some (.int .i64 0):=(bc_ BK315.out 0).trans rfl;have hcz62_1 : w59.cell? ⟨gb315,1,none⟩ = some (.slice none 0 0):=(bc_ BK315.out 1).trans rfl;have hcz62_2 : w59.cell? ⟨gb315,2,none⟩ = some (.slice none 0 0):=(bc_ BK315.out 2).trans rfl;have hcz62_3 : w59.cell? ⟨gb315,3,none⟩ = some (.slice none 0 0):=(bc_ BK315.out 3).trans rfl;have hfz62_0:=bf_ BK315.out 0;have hfz62_1:=bf_ BK315.out 1;have hfz62_2:=bf_ BK315.out 2;have hfz62_3:=bf_ BK315.out 3;obtain ⟨Ao63,co63,eo63⟩:=Kd.R_slice HO_317002.out;subst eo63))
       refine bodyPost_ret (results_cell_row rfl _ _ gb315 30 #[.int .i64 t317,.slice Ao11 t318.length co11,.slice Ao63 x317002_1.length co63,.slice (some ⟨go53,oo53,none⟩) x317003_1.length co53] (0,0) _ rfl (by (with_reducible repeat (first|refine kn_ ?_ _|refine kd_ ?_|refine ka_ ?_ _));refine blk_put (cs:=#[.int .i64 t317,.slice Ao11 t318.length co11,.slice Ao63 x317002_1.length co63,.slice none 0 0]) ?_ 3 _ rfl;(with_reducible repeat (first|refine kn_ ?_ _|refine kd_ ?_|refine ka_ ?_ _));refine blk_put (cs:=#[.int .i64 t317,.slice Ao11 t318.length co11,.slice none 0 0,.slice none 0 0]) ?_ 2 _ rfl;(with_reducible repeat (first|refine kn_ ?_ _|refine kd_ ?_|refine ka_ ?_ _));refine blk_put (cs:=#[.int .i64 t317,.slice none 0 0,.slice none 0 0,.slice none 0 0]) ?_ 1 _ rfl;(with_reducible repeat (first|refine kn_ ?_ _|refine kd_ ?_|refine ka_ ?_ _));refine blk_put (cs:=#[.int .i64 0,.slice none 0 0,.slice none 0 0,.slice none 0 0]) ?_ 0 _ rfl;(with_reducible repeat (first|refine kn_ ?_ _|refine kd_ ?_|refine ka_ ?_ _));exact BK315.out) Try.underlying30 rfl (by kernel_rfl)) rfl ?_
       exact ⟨_,_,_,qe_,by (with_reducible repeat (first|apply ra_|apply rn_|apply rd_));exact rm_ (rf_ (p:=⟨gb315,3,none⟩) (rf_ (p:=⟨gb315,2,none⟩) (rf_ (p:=⟨gb315,1,none⟩) (rf_ (p:=⟨gb315,0,none⟩) (rt_ HO_317001.out BK315.out (by decide)) (fun _ hk => hk.2) (.int .i64 t317)) (fun _ hk => hk.2) (.slice Ao11 t318.length co11)) (fun _ hk => hk.2) (.slice Ao63 x317002_1.length co63)) (fun _ hk => hk.2) (.slice (some ⟨go53,oo53,none⟩) x317003_1.length co53)) (fun _ hk => trivial),by (with_reducible repeat (first|apply ra_|apply rn_|apply rd_));exact rm_ (rf_ (p:=⟨gb315,3,none⟩) (rf_ (p:=⟨gb315,2,none⟩) (rf_ (p:=⟨gb315,1,none⟩) (rf_ (p:=⟨gb315,0,none⟩) (rt_ HO_317002.out BK315.out (by decide)) (fun _ hk => hk.2) (.int .i64 t317)) (fun _ hk => hk.2) (.slice Ao11 t318.length co11)) (fun _ hk => hk.2) (.slice Ao63 x317002_1.length co63)) (fun _ hk => hk.2) (.slice (some ⟨go53,oo53,none⟩) x317003_1.length co53)) (fun _ hk => hk.1.2),by (with_reducible repeat (first|apply Kd.Q_alloc|apply Kd.Q_drewN|apply Kd.Q_drew));exact Kd.Q_mono (Kd.Q_far (p:=⟨gb315,3,none⟩) (Kd.Q_far (p:=⟨gb315,2,none⟩) (Kd.Q_far (p:=⟨gb315,1,none⟩) (Kd.Q_far (p:=⟨gb315,0,none⟩) (Kd.Q_types HO_317003.out BK315.out (by decide)) (fun _ hk => hk.2) (.int .i64 t317)) (fun _ hk => hk.2) (.slice Ao11 t318.length co11)) (fun _ hk => hk.2) (.slice Ao63 x317002_1.length co63)) (fun _ hk => hk.2) (.slice (some ⟨go53,oo53,none⟩) x317003_1.length co53)) (fun _ hk => hk.1),u12_ HI0 NB0_315 NB0_316,u13_ HB HI0 GE315 GE316,u14_ HK GW315 GW316⟩
      ·rw [if_neg c52] at H
       exact absurd H (by simp)
     ·rw [if_neg c51] at H
      have c51b0 : (t342 == 1) = false:=beq_eq_false_iff_ne.mpr c51
      have c51b1 : (t342 != 1) = true:=bne_iff_ne.mpr c51
      by_cases c64 : t342 = 2
      ·rw [if_pos c64] at H
       have c64b0 : (t342 == 2) = true:=beq_iff_eq.mpr c64
       have c64b1 : (t342 != 2) = false:=bne_eq_false_iff_eq.mpr c64
       clear c64
       by_cases c65 : 1 ≤ (x317003_1.length : Int)
       ·rw [if_pos c65] at H
        have c65b0:=eq_true c65
        have c65b1 : decide (1 ≤ (x317003_1.length : Int)) = true:=decide_eq_true c65
        clear c65
        obtain ⟨y346,hy346⟩ : ∃ y_ : List Int,y_ = (x317003_1.drop (1 : Int).toNat):=⟨_,rfl⟩
        replace H : (some (t317,t318,x317002_1,y346,t343)) = some (r1,r2,r3,r4,r5):=by first|(rw [hy346];with_reducible exact H)|(have H2_:=(Option.bind_some _ _).symm.trans H;rw [hy346];with_reducible exact H2_)|(have H2_:=(Option.bind_some _ _).symm.trans H;with_reducible exact H2_)|with_reducible exact H|(rw [hy346];exact H)|exact H
        have Ny346:=mk_ hy346
        clear hy346
        simp only [Option.some.injEq,Prod.mk.injEq] at H
        obtain ⟨rfl,rfl,rfl,rfl,rfl⟩:=H
        go_wp2_with (first|((with_reducible refine gate_callee (f:=53) rfl ?_);refine goesL_ (some 44) rfl rfl Try.func53 (by kernel_rfl) rfl #[.pointer (some ⟨g,0,none⟩),.int .i64 80] rfl qm_ ?_;(with_reducible refine (spec_l21Rd_pick.calls k1 g s0_0 x1001_1 80 t342 t343 w0 _ ?side1 ?side2 A37.out).mono ?_);(case side1 => exact u12_ HI0 NB0_315 NB0_316);(case side2 => exact u13_ HB HI0 GE315 GE316);rintro e w66 ⟨rfl,hi,hb,hk⟩;refine ⟨_,rfl,?_⟩;have n0_:=mk_ (rm_ (Kd.R_keep (IsS84.apart (show IsS84 w0 _ g s0_0 x1001_1 from u12_ HI0 NB0_315 NB0_316) (qr_ HO_317001) (by decide)) hk (fun _ h => h.2)) (fun _ h => h.1));have n1_:=mk_ (rm_ (Kd.R_keep (IsS84.apart (show IsS84 w0 _ g s0_0 x1001_1 from u12_ HI0 NB0_315 NB0_316) (qr_ HO_317002) (by decide)) hk (fun _ h => h.2)) (fun _ h => h.1));have n2_:=mk_ (Kd.Q_mono (Kd.Q_keep (IsS84.apartQ (show IsS84 w0 _ g s0_0 x1001_1 from u12_ HI0 NB0_315 NB0_316) (by (with_reducible repeat (first|apply Kd.Q_alloc|apply Kd.Q_drewN|apply Kd.Q_drew));exact HO_317003.out) (by decide)) hk (fun _ h => h.2)) (fun _ h => h.1));have n3_:=mk_ (KeepBut.blk hk (g':=gb315) (o:=.cells #[.int .i64 0,.slice none 0 0,.slice none 0 0,.slice none 0 0] 30 (0,0)) (qk_ BK315) NB315_0.out (by simp));have n4_:=mk_ (KeepBut.blk hk (g':=gb316) (o:=.cells #[.int .i64 t317,.slice Ao11 t318.length co11,u317002,u317003] 30 (0,0)) (qk_ BK316) NB316_0.out (by simp));have n5_:=mk_ (KeepBut.trans (u14_ HK GW315 GW316) hk (.inl rfl));have n6_:=mk_ (hb);have n7_:=mk_ (hi);clear HO_317001;clear HO_317002;clear HO_317003;clear BK315;clear BK316;clear HK;clear HB;clear HI0;have HO_317001:=n0_;have HO_317002:=n1_;have HO_317003:=n2_;have BK315:=n3_;have BK316:=n4_;have HK:=n5_;have HB:=n6_;have HI0:=n7_;clear n0_ n1_ n2_ n3_ n4_ n5_ n6_ n7_;(try clear hb);(try clear hb2);(try clear hk);(try clear hi);have hnb67:=NB316_315.out;have hnc67:=NB315_316.out;have hnb68:=NB316_0.out;have hnc68:=NB0_316.out;have hcz69_0 : w66.cell? ⟨gb316,0,none⟩ = some (.int .i64 t317):=(bc_ BK316.out 0).trans rfl;have hcz69_1 : w66.cell? ⟨gb316,1,none⟩ = some (.slice Ao11 t318.length co11):=(bc_ BK316.out 1).trans rfl;have hcz69_2 : w66.cell? ⟨gb316,2,none⟩ = some (u317002):=(bc_ BK316.out 2).trans rfl;have hcz69_3 : w66.cell? ⟨gb316,3,none⟩ = some (u317003):=(bc_ BK316.out 3).trans rfl;have hfz69_0:=bf_ BK316.out 0;have hfz69_1:=bf_ BK316.out 1;have hfz69_2:=bf_ BK316.out 2;have hfz69_3:=bf_ BK316.out 3;obtain ⟨Ao70,co70,eo70,_⟩:=Kd.Q_slice HO_317003.out;subst eo70;have q71 : (1 : Int) ≤ ((x317003_1.length : Int) : Int):=od_ qa_;obtain ⟨i071,hi071,_,hsz71,_⟩:=info_parts info3;have hcut71:=cut_from (P:=Try.prog) 23 3 .i64 Try.underlying23 hi071 1 hsz71 Ao70 x317003_1.length co70 1 (by omega) q71;have hr71:=Kd.Q_drop (k:=(1 : Int).toNat) HO_317003.out (by omega);obtain ⟨A71,hA71⟩ : ∃ A1,A1 = (if co70 = (1 : Int).toNat then Ao70 else (Ao70 : Option Addr).map (·.add ((1 : Int).toNat * 1))):=⟨_,rfl⟩;obtain ⟨c71,hc71⟩ : ∃ c1,c1 = co70 - (1 : Int).toNat:=⟨_,rfl⟩;have hy71 : y346.length = x317003_1.length - (1 : Int).toNat:=(by rw [Ny346.out,List.length_drop]);rw [← Ny346.out] at hr71;rw [← hy71,← hA71,← hc71] at hcut71;replace hr71 : Kd.Q (Kd.int .i64) 3 w66 w.heap.size (fun k_ => some k_ ≠ (u317002 : Value).ownBlock) (.slice A71 y346.length c71) y346:=(by rw [hA71,hc71,hy71];exact hr71);have HE71 : Aside0 ((Value.slice A71 y346.length c71).ownBlock = (.slice Ao70 x317003_1.length co70 : Value).ownBlock):=⟨by rw [hA71];split <;> (cases (Ao70 : Option Addr) <;> rfl)⟩;clear hy71 hi071 hsz71 HO_317003 hA71 hc71;have HO348:=mk_ hr71;clear hr71;replace q71:=eq_true q71;have n_:=mk_ (rm_ (ok':=fun k_ => some k_ ≠ (.slice A71 y346.length c71 : Value).ownBlock) HO_317002.out (fun k_ hk => (by rw [HE71.out];exact hk)));clear HO_317002;have HO_317002:=n_;clear n_;have hnb72:=NB315_0.out;have hnc72:=NB0_315.out;have hcz73_0 : w66.cell? ⟨gb315,0,none⟩ = some (.int .i64 0):=(bc_ BK315.out 0).trans rfl;have hcz73_1 : w66.cell? ⟨gb315,1,none⟩ = some (.slice none 0 0):=(bc_ BK315.out 1).trans rfl;have hcz73_2 : w66.cell? ⟨gb315,2,none⟩ = some (.slice none 0 0):=(bc_ BK315.out 2).trans rfl;have hcz73_3 : w66.cell? ⟨gb315,3,none⟩ = some (.slice none 0 0):=(bc_ BK315.out 3).trans rfl;have hfz73_0:=bf_ BK315.out 0;have hfz73_1:=bf_ BK315.out 1;have hfz73_2:=bf_ BK315.out 2;have hfz73_3:=bf_ BK315.out 3;obtain ⟨Ao74,co74,eo74⟩:=Kd.R_slice HO_317002.out;subst eo74))
        refine bodyPost_ret (results_cell_row rfl _ _ gb315 30 #[.int .i64 t317,.slice Ao11 t318.length co11,.slice Ao74 x317002_1.length co74,.slice A71 y346.length c71] (0,0) _ rfl (by (with_reducible repeat (first|refine kn_ ?_ _|refine kd_ ?_|refine ka_ ?_ _));refine blk_put (cs:=#[.int .i64 t317,.slice Ao11 t318.length co11,.slice Ao74 x317002_1.length co74,.slice none 0 0]) ?_ 3 _ rfl;(with_reducible repeat (first|refine kn_ ?_ _|refine kd_ ?_|refine ka_ ?_ _));refine blk_put (cs:=#[.int .i64 t317,.slice Ao11 t318.length co11,.slice none 0 0,.slice none 0 0]) ?_ 2 _ rfl;(with_reducible repeat (first|refine kn_ ?_ _|refine kd_ ?_|refine ka_ ?_ _));refine blk_put (cs:=#[.int .i64 t317,.slice none 0 0,.slice none 0 0,.slice none 0 0]) ?_ 1 _ rfl;(with_reducible repeat (first|refine kn_ ?_ _|refine kd_ ?_|refine ka_ ?_ _));refine blk_put (cs:=#[.int .i64 0,.slice none 0 0,.slice none 0 0,.slice none 0 0]) ?_ 0 _ rfl;(with_reducible repeat (first|refine kn_ ?_ _|refine kd_ ?_|refine ka_ ?_ _));refine blk_far ?_ NB315_316.out _;(with_reducible repeat (first|refine kn_ ?_ _|refine kd_ ?_|refine ka_ ?_ _));exact BK315.out) Try.underlying30 rfl (by kernel_rfl)) rfl ?_
        exact ⟨_,_,_,qe_,by (with_reducible repeat (first|apply ra_|apply rn_|apply rd_));exact rm_ (rf_ (p:=⟨gb315,3,none⟩) (rf_ (p:=⟨gb315,2,none⟩) (rf_ (p:=⟨gb315,1,none⟩) (rf_ (p:=⟨gb315,0,none⟩) (rf_ (p:=⟨gb316,3,none⟩) (rt_ (rt_ HO_317001.out BK316.out (by decide)) BK315.out (by decide)) (fun _ hk => hk.1.2) (.slice A71 y346.length c71)) (fun _ hk => hk.2) (.int .i64 t317)) (fun _ hk => hk.2) (.slice Ao11 t318.length co11)) (fun _ hk => hk.2) (.slice Ao74 x317002_1.length co74)) (fun _ hk => hk.2) (.slice A71 y346.length c71)) (fun _ hk => trivial),by (with_reducible repeat (first|apply ra_|apply rn_|apply rd_));exact rm_ (rf_ (p:=⟨gb315,3,none⟩) (rf_ (p:=⟨gb315,2,none⟩) (rf_ (p:=⟨gb315,1,none⟩) (rf_ (p:=⟨gb315,0,none⟩) (rf_ (p:=⟨gb316,3,none⟩) (rt_ (rt_ HO_317002.out BK316.out (by decide)) BK315.out (by decide)) (fun _ hk => hk.1.2) (.slice A71 y346.length c71)) (fun _ hk => hk.2) (.int .i64 t317)) (fun _ hk => hk.2) (.slice Ao11 t318.length co11)) (fun _ hk => hk.2) (.slice Ao74 x317002_1.length co74)) (fun _ hk => hk.2) (.slice A71 y346.length c71)) (fun _ hk => hk.1.1),by (with_reducible repeat (first|apply Kd.Q_alloc|apply Kd.Q_drewN|apply Kd.Q_drew));exact Kd.Q_mono (Kd.Q_far (p:=⟨gb315,3,none⟩) (Kd.Q_far (p:=⟨gb315,2,none⟩) (Kd.Q_far (p:=⟨gb315,1,none⟩) (Kd.Q_far (p:=⟨gb315,0,none⟩) (Kd.Q_far (p:=⟨gb316,3,none⟩) (Kd.Q_types (Kd.Q_types HO348.out BK316.out (by decide)) BK315.out (by decide)) (fun _ hk => hk.1.2) (.slice A71 y346.length c71)) (fun _ hk => hk.2) (.int .i64 t317)) (fun _ hk => hk.2) (.slice Ao11 t318.length co11)) (fun _ hk => hk.2) (.slice Ao74 x317002_1.length co74)) (fun _ hk => hk.2) (.slice A71 y346.length c71)) (fun _ hk => hk.1.1),u12_ HI0 NB0_315 NB0_316,u13_ HB HI0 GE315 GE316,u14_ HK GW315 GW316⟩
       ·rw [if_neg c65] at H
        exact absurd H (by simp)
      ·rw [if_neg c64] at H
       have c64b0 : (t342 == 2) = false:=beq_eq_false_iff_ne.mpr c64
       have c64b1 : (t342 != 2) = true:=bne_iff_ne.mpr c64
       by_cases c75 : t342 = 3
       ·rw [if_pos c75] at H
        have c75b0 : (t342 == 3) = true:=beq_iff_eq.mpr c75
        have c75b1 : (t342 != 3) = false:=bne_eq_false_iff_eq.mpr c75
        clear c75
        simp only [Option.some.injEq,Prod.mk.injEq] at H
        obtain ⟨rfl,rfl,rfl,rfl,rfl⟩:=H
        go_wp2_with (first|((with_reducible refine gate_callee (f:=53) rfl ?_);refine goesL_ (some 44) rfl rfl Try.func53 (by kernel_rfl) rfl #[.pointer (some ⟨g,0,none⟩),.int .i64 80] rfl qm_ ?_;(with_reducible refine (spec_l21Rd_pick.calls k1 g s0_0 x1001_1 80 t342 t343 w0 _ ?side1 ?side2 A37.out).mono ?_);(case side1 => exact u12_ HI0 NB0_315 NB0_316);(case side2 => exact u13_ HB HI0 GE315 GE316);rintro e w76 ⟨rfl,hi,hb,hk⟩;refine ⟨_,rfl,?_⟩;have n0_:=mk_ (rm_ (Kd.R_keep (IsS84.apart (show IsS84 w0 _ g s0_0 x1001_1 from u12_ HI0 NB0_315 NB0_316) (qr_ HO_317001) (by decide)) hk (fun _ h => h.2)) (fun _ h => h.1));have n1_:=mk_ (rm_ (Kd.R_keep (IsS84.apart (show IsS84 w0 _ g s0_0 x1001_1 from u12_ HI0 NB0_315 NB0_316) (qr_ HO_317002) (by decide)) hk (fun _ h => h.2)) (fun _ h => h.1));have n2_:=mk_ (Kd.Q_mono (Kd.Q_keep (IsS84.apartQ (show IsS84 w0 _ g s0_0 x1001_1 from u12_ HI0 NB0_315 NB0_316) (by (with_reducible repeat (first|apply Kd.Q_alloc|apply Kd.Q_drewN|apply Kd.Q_drew));exact HO_317003.out) (by decide)) hk (fun _ h => h.2)) (fun _ h => h.1));have n3_:=mk_ (KeepBut.blk hk (g':=gb315) (o:=.cells #[.int .i64 0,.slice none 0 0,.slice none 0 0,.slice none 0 0] 30 (0,0)) (qk_ BK315) NB315_0.out (by simp));have n4_:=mk_ (KeepBut.blk hk (g':=gb316) (o:=.cells #[.int .i64 t317,.slice Ao11 t318.length co11,u317002,u317003] 30 (0,0)) (qk_ BK316) NB316_0.out (by simp));have n5_:=mk_ (KeepBut.trans (u14_ HK GW315 GW316) hk (.inl rfl));have n6_:=mk_ (hb);have n7_:=mk_ (hi);clear HO_317001;clear HO_317002;clear HO_317003;clear BK315;clear BK316;clear HK;clear HB;clear HI0;have HO_317001:=n0_;have HO_317002:=n1_;have HO_317003:=n2_;have BK315:=n3_;have BK316:=n4_;have HK:=n5_;have HB:=n6_;have HI0:=n7_;clear n0_ n1_ n2_ n3_ n4_ n5_ n6_ n7_;(try clear hb);(try clear hb2);(try clear hk);(try clear hi);have hnb77:=NB316_315.out;have hnc77:=NB315_316.out;have hnb78:=NB316_0.out;have hnc78:=NB0_316.out;have hcz79_0 : w76.cell? ⟨gb316,0,none⟩ = some (.int .i64 t317):=(bc_ BK316.out 0).trans rfl;have hcz79_1 : w76.cell? ⟨gb316,1,none⟩ = some (.slice Ao11 t318.length co11):=(bc_ BK316.out 1).trans rfl;have hcz79_2 : w76.cell? ⟨gb316,2,none⟩ = some (u317002):=(bc_ BK316.out 2).trans rfl;have hcz79_3 : w76.cell? ⟨gb316,3,none⟩ = some (u317003):=(bc_ BK316.out 3).trans rfl;have hfz79_0:=bf_ BK316.out 0;have hfz79_1:=bf_ BK316.out 1;have hfz79_2:=bf_ BK316.out 2;have hfz79_3:=bf_ BK316.out 3;have hnb80:=NB315_0.out;have hnc80:=NB0_315.out;have hcz81_0 : w76.cell? ⟨gb315,0,none⟩ = some (.int .i64 0):=(bc_ BK315.out 0).trans rfl;have hcz81_1 : w76.cell? ⟨gb315,1,none⟩ = some (.slice none 0 0):=(bc_ BK315.out 1).trans rfl;have hcz81_2 : w76.cell? ⟨gb315,2,none⟩ = some (.slice none 0 0):=(bc_ BK315.out 2).trans rfl;have hcz81_3 : w76.cell? ⟨gb315,3,none⟩ = some (.slice none 0 0):=(bc_ BK315.out 3).trans rfl;have hfz81_0:=bf_ BK315.out 0;have hfz81_1:=bf_ BK315.out 1;have hfz81_2:=bf_ BK315.out 2;have hfz81_3:=bf_ BK315.out 3;obtain ⟨Ao82,co82,eo82⟩:=Kd.R_slice HO_317002.out;subst eo82;obtain ⟨Ao83,co83,eo83,_⟩:=Kd.Q_slice HO_317003.out;subst eo83))
        refine bodyPost_ret (results_cell_row rfl _ _ gb315 30 #[.int .i64 9,.slice Ao11 t318.length co11,.slice Ao82 x317002_1.length co82,.slice Ao83 x317003_1.length co83] (0,0) _ rfl (by (with_reducible repeat (first|refine kn_ ?_ _|refine kd_ ?_|refine ka_ ?_ _));refine blk_put (cs:=#[.int .i64 9,.slice Ao11 t318.length co11,.slice Ao82 x317002_1.length co82,.slice none 0 0]) ?_ 3 _ rfl;(with_reducible repeat (first|refine kn_ ?_ _|refine kd_ ?_|refine ka_ ?_ _));refine blk_put (cs:=#[.int .i64 9,.slice Ao11 t318.length co11,.slice none 0 0,.slice none 0 0]) ?_ 2 _ rfl;(with_reducible repeat (first|refine kn_ ?_ _|refine kd_ ?_|refine ka_ ?_ _));refine blk_put (cs:=#[.int .i64 9,.slice none 0 0,.slice none 0 0,.slice none 0 0]) ?_ 1 _ rfl;(with_reducible repeat (first|refine kn_ ?_ _|refine kd_ ?_|refine ka_ ?_ _));refine blk_put (cs:=#[.int .i64 0,.slice none 0 0,.slice none 0 0,.slice none 0 0]) ?_ 0 _ rfl;(with_reducible repeat (first|refine kn_ ?_ _|refine kd_ ?_|refine ka_ ?_ _));refine blk_far ?_ NB315_316.out _;(with_reducible repeat (first|refine kn_ ?_ _|refine kd_ ?_|refine ka_ ?_ _));exact BK315.out) Try.underlying30 rfl (by kernel_rfl)) rfl ?_
        exact ⟨_,_,_,qe_,by (with_reducible repeat (first|apply ra_|apply rn_|apply rd_));exact rm_ (rf_ (p:=⟨gb315,3,none⟩) (rf_ (p:=⟨gb315,2,none⟩) (rf_ (p:=⟨gb315,1,none⟩) (rf_ (p:=⟨gb315,0,none⟩) (rf_ (p:=⟨gb316,0,none⟩) (rt_ (rt_ HO_317001.out BK316.out (by decide)) BK315.out (by decide)) (fun _ hk => hk.1.2) (.int .i64 9)) (fun _ hk => hk.2) (.int .i64 9)) (fun _ hk => hk.2) (.slice Ao11 t318.length co11)) (fun _ hk => hk.2) (.slice Ao82 x317002_1.length co82)) (fun _ hk => hk.2) (.slice Ao83 x317003_1.length co83)) (fun _ hk => trivial),by (with_reducible repeat (first|apply ra_|apply rn_|apply rd_));exact rm_ (rf_ (p:=⟨gb315,3,none⟩) (rf_ (p:=⟨gb315,2,none⟩) (rf_ (p:=⟨gb315,1,none⟩) (rf_ (p:=⟨gb315,0,none⟩) (rf_ (p:=⟨gb316,0,none⟩) (rt_ (rt_ HO_317002.out BK316.out (by decide)) BK315.out (by decide)) (fun _ hk => hk.1.2) (.int .i64 9)) (fun _ hk => hk.2) (.int .i64 9)) (fun _ hk => hk.2) (.slice Ao11 t318.length co11)) (fun _ hk => hk.2) (.slice Ao82 x317002_1.length co82)) (fun _ hk => hk.2) (.slice Ao83 x317003_1.length co83)) (fun _ hk => hk.1.1),by (with_reducible repeat (first|apply Kd.Q_alloc|apply Kd.Q_drewN|apply Kd.Q_drew));exact Kd.Q_mono (Kd.Q_far (p:=⟨gb315,3,none⟩) (Kd.Q_far (p:=⟨gb315,2,none⟩) (Kd.Q_far (p:=⟨gb315,1,none⟩) (Kd.Q_far (p:=⟨gb315,0,none⟩) (Kd.Q_far (p:=⟨gb316,0,none⟩) (Kd.Q_types (Kd.Q_types HO_317003.out BK316.out (by decide)) BK315.out (by decide)) (fun _ hk => hk.1.2) (.int .i64 9)) (fun _ hk => hk.2) (.int .i64 9)) (fun _ hk => hk.2) (.slice Ao11 t318.length co11)) (fun _ hk => hk.2) (.slice Ao82 x317002_1.length co82)) (fun _ hk => hk.2) (.slice Ao83 x317003_1.length co83)) (fun _ hk => hk.1.1),u12_ HI0 NB0_315 NB0_316,u13_ HB HI0 GE315 GE316,u14_ HK GW315 GW316⟩
       ·rw [if_neg c75] at H
        have c75b0 : (t342 == 3) = false:=beq_eq_false_iff_ne.mpr c75
        have c75b1 : (t342 != 3) = true:=bne_iff_ne.mpr c75
        simp only [Option.some.injEq,Prod.mk.injEq] at H
        obtain ⟨rfl,rfl,rfl,rfl,rfl⟩:=H
        go_wp2_with (first|((with_reducible refine gate_callee (f:=53) rfl ?_);refine goesL_ (some 44) rfl rfl Try.func53 (by kernel_rfl) rfl #[.pointer (some ⟨g,0,none⟩),.int .i64 80] rfl qm_ ?_;(with_reducible refine (spec_l21Rd_pick.calls k1 g s0_0 x1001_1 80 t342 t343 w0 _ ?side1 ?side2 A37.out).mono ?_);(case side1 => exact u12_ HI0 NB0_315 NB0_316);(case side2 => exact u13_ HB HI0 GE315 GE316);rintro e w84 ⟨rfl,hi,hb,hk⟩;refine ⟨_,rfl,?_⟩;have n0_:=mk_ (rm_ (Kd.R_keep (IsS84.apart (show IsS84 w0 _ g s0_0 x1001_1 from u12_ HI0 NB0_315 NB0_316) (qr_ HO_317001) (by decide)) hk (fun _ h => h.2)) (fun _ h => h.1));have n1_:=mk_ (rm_ (Kd.R_keep (IsS84.apart (show IsS84 w0 _ g s0_0 x1001_1 from u12_ HI0 NB0_315 NB0_316) (qr_ HO_317002) (by decide)) hk (fun _ h => h.2)) (fun _ h => h.1));have n2_:=mk_ (Kd.Q_mono (Kd.Q_keep (IsS84.apartQ (show IsS84 w0 _ g s0_0 x1001_1 from u12_ HI0 NB0_315 NB0_316) (by (with_reducible repeat (first|apply Kd.Q_alloc|apply Kd.Q_drewN|apply Kd.Q_drew));exact HO_317003.out) (by decide)) hk (fun _ h => h.2)) (fun _ h => h.1));have n3_:=mk_ (KeepBut.blk hk (g':=gb315) (o:=.cells #[.int .i64 0,.slice none 0 0,.slice none 0 0,.slice none 0 0] 30 (0,0)) (qk_ BK315) NB315_0.out (by simp));have n4_:=mk_ (KeepBut.blk hk (g':=gb316) (o:=.cells #[.int .i64 t317,.slice Ao11 t318.length co11,u317002,u317003] 30 (0,0)) (qk_ BK316) NB316_0.out (by simp));have n5_:=mk_ (KeepBut.trans (u14_ HK GW315 GW316) hk (.inl rfl));have n6_:=mk_ (hb);have n7_:=mk_ (hi);clear HO_317001;clear HO_317002;clear HO_317003;clear BK315;clear BK316;clear HK;clear HB;clear HI0;have HO_317001:=n0_;have HO_317002:=n1_;have HO_317003:=n2_;have BK315:=n3_;have BK316:=n4_;have HK:=n5_;have HB:=n6_;have HI0:=n7_;clear n0_ n1_ n2_ n3_ n4_ n5_ n6_ n7_;(try clear hb);(try clear hb2);(try clear hk);(try clear hi);have hnb85:=NB316_315.out;have hnc85:=NB315_316.out;have hnb86:=NB316_0.out;have hnc86:=NB0_316.out;have hcz87_0 : w84.cell? ⟨gb316,0,none⟩ = some (.int .i64 t317):=(bc_ BK316.out 0).trans rfl;have hcz87_1 : w84.cell? ⟨gb316,1,none⟩ = some (.slice Ao11 t318.length co11):=(bc_ BK316.out 1).trans rfl;have hcz87_2 : w84.cell? ⟨gb316,2,none⟩ = some (u317002):=(bc_ BK316.out 2).trans rfl;have hcz87_3 : w84.cell? ⟨gb316,3,none⟩ = some (u317003):=(bc_ BK316.out 3).trans rfl;have hfz87_0:=bf_ BK316.out 0;have hfz87_1:=bf_ BK316.out 1;have hfz87_2:=bf_ BK316.out 2;have hfz87_3:=bf_ BK316.out 3;have hnb88:=NB315_0.out;have hnc88:=NB0_315.out;have hcz89_0 : w84.cell? ⟨gb315,0,none⟩ = some (.int .i64 0):=(bc_ BK315.out 0).trans rfl;have hcz89_1 : w84.cell? ⟨gb315,1,none⟩ = some (.slice none 0 0):=(bc_ BK315.out 1).trans rfl;have hcz89_2 : w84.cell? ⟨gb315,2,none⟩ = some (.slice none 0 0):=(bc_ BK315.out 2).trans rfl;have hcz89_3 : w84.cell? ⟨gb315,3,none⟩ = some (.slice none 0 0):=(bc_ BK315.out 3).trans rfl;have hfz89_0:=bf_ BK315.out 0;have hfz89_1:=bf_ BK315.out 1;have hfz89_2:=bf_ BK315.out 2;have hfz89_3:=bf_ BK315.out 3;obtain ⟨Ao90,co90,eo90⟩:=Kd.R_slice HO_317002.out;subst eo90;obtain ⟨Ao91,co91,eo91,_⟩:=Kd.Q_slice HO_317003.out;subst eo91))
        refine bodyPost_ret (results_cell_row rfl _ _ gb315 30 #[.int .i64 t317,.slice Ao11 t318.length co11,.slice Ao90 x317002_1.length co90,.slice Ao91 x317003_1.length co91] (0,0) _ rfl (by (with_reducible repeat (first|refine kn_ ?_ _|refine kd_ ?_|refine ka_ ?_ _));refine blk_put (cs:=#[.int .i64 t317,.slice Ao11 t318.length co11,.slice Ao90 x317002_1.length co90,.slice none 0 0]) ?_ 3 _ rfl;(with_reducible repeat (first|refine kn_ ?_ _|refine kd_ ?_|refine ka_ ?_ _));refine blk_put (cs:=#[.int .i64 t317,.slice Ao11 t318.length co11,.slice none 0 0,.slice none 0 0]) ?_ 2 _ rfl;(with_reducible repeat (first|refine kn_ ?_ _|refine kd_ ?_|refine ka_ ?_ _));refine blk_put (cs:=#[.int .i64 t317,.slice none 0 0,.slice none 0 0,.slice none 0 0]) ?_ 1 _ rfl;(with_reducible repeat (first|refine kn_ ?_ _|refine kd_ ?_|refine ka_ ?_ _));refine blk_put (cs:=#[.int .i64 0,.slice none 0 0,.slice none 0 0,.slice none 0 0]) ?_ 0 _ rfl;(with_reducible repeat (first|refine kn_ ?_ _|refine kd_ ?_|refine ka_ ?_ _));exact BK315.out) Try.underlying30 rfl (by kernel_rfl)) rfl ?_
        exact ⟨_,_,_,qe_,by (with_reducible repeat (first|apply ra_|apply rn_|apply rd_));exact rm_ (rf_ (p:=⟨gb315,3,none⟩) (rf_ (p:=⟨gb315,2,none⟩) (rf_ (p:=⟨gb315,1,none⟩) (rf_ (p:=⟨gb315,0,none⟩) (rt_ HO_317001.out BK315.out (by decide)) (fun _ hk => hk.2) (.int .i64 t317)) (fun _ hk => hk.2) (.slice Ao11 t318.length co11)) (fun _ hk => hk.2) (.slice Ao90 x317002_1.length co90)) (fun _ hk => hk.2) (.slice Ao91 x317003_1.length co91)) (fun _ hk => trivial),by (with_reducible repeat (first|apply ra_|apply rn_|apply rd_));exact rm_ (rf_ (p:=⟨gb315,3,none⟩) (rf_ (p:=⟨gb315,2,none⟩) (rf_ (p:=⟨gb315,1,none⟩) (rf_ (p:=⟨gb315,0,none⟩) (rt_ HO_317002.out BK315.out (by decide)) (fun _ hk => hk.2) (.int .i64 t317)) (fun _ hk => hk.2) (.slice Ao11 t318.length co11)) (fun _ hk => hk.2) (.slice Ao90 x317002_1.length co90)) (fun _ hk => hk.2) (.slice Ao91 x317003_1.length co91)) (fun _ hk => hk.1),by (with_reducible repeat (first|apply Kd.Q_alloc|apply Kd.Q_drewN|apply Kd.Q_drew));exact Kd.Q_mono (Kd.Q_far (p:=⟨gb315,3,none⟩) (Kd.Q_far (p:=⟨gb315,2,none⟩) (Kd.Q_far (p:=⟨gb315,1,none⟩) (Kd.Q_far (p:=⟨gb315,0,none⟩) (Kd.Q_types HO_317003.out BK315.out (by decide)) (fun _ hk => hk.2) (.int .i64 t317)) (fun _ hk => hk.2) (.slice Ao11 t318.length co11)) (fun _ hk => hk.2) (.slice Ao90 x317002_1.length co90)) (fun _ hk => hk.2) (.slice Ao91 x317003_1.length co91)) (fun _ hk => hk.1),u12_ HI0 NB0_315 NB0_316,u13_ HB HI0 GE315 GE316,u14_ HK GW315 GW316⟩

/-! ### spec_DrawTreeWay: function 34 -/
def spec_DrawTreeWay.f (k : Nat) (l0 : List Int) : Option (Int × (List (S51)) × List Int × List Int × Int × Int):=(spec_l21Open.f l0).bind fun bt350 => ((spec_l19Net.f k bt350.1 bt350.2).bind fun bt353 => ((spec_l21Rd_pick.f k bt350.1 bt353.2.2.2.2 (wrap64 ((bt353.2.2.1.length : Int) + 1))).bind fun bt365 => ((spec_l21Rd_pick.f k bt350.1 bt365.2 (wrap64 ((bt353.2.2.1.length : Int) + 2))).bind fun bt367 => ((spec_l21Rd_pick.f k bt350.1 bt367.2 9).bind fun bt369 => (some (bt353.1,bt353.2.1,bt353.2.2.1,bt353.2.2.2.1,bt365.1,wrap64 (bt367.1 - (wrap64 (Int.tdiv bt369.1 8)))))))))
theorem spec_DrawTreeWay.mono : ∀ a0 k,LeO (spec_DrawTreeWay.f k a0) (spec_DrawTreeWay.f (k + 1) a0):=by
 intro a0 k
 unfold spec_DrawTreeWay.f
 repeat' first
   | (with_reducible exact spec_l19Net.mono _ _ _)
   | (with_reducible exact spec_l21Rd_pick.mono _ _ _ _)
   | (with_reducible exact LeO.refl _)
   | (with_reducible exact LeO.none _)
   | (with_reducible refine LeO.ite ?_ ?_)
   | (with_reducible refine LeO.bind ?_ (fun _ => ?_))
   | exact spec_l19Net.mono _ _ _
   | exact spec_l21Rd_pick.mono _ _ _ _
   | exact LeO.none _
   | refine LeO.ite ?_ ?_
   | refine LeO.bind ?_ (fun _ => ?_)
def spec_DrawTreeWay.T3 : Bool × List (List Nat × List Nat):=(true,[([],[]),([],[]),([],[]),([2],[2]),([3],[3]),([4],[4]),([1,5],[1,5]),([],[]),([],[]),([8],[8]),([9],[9]),([10],[10]),([7,11,6],[7,11]),([],[]),([13,12],[13]),([14],[14]),([12,15],[12,15]),([0,14,0],[0]),([6,17,0,1,2,3,4,5,6,17],[6]),([16,18,0,1,2,3,4,5,6,7,8,9,10,11,12,13,14,15,16,17,18],[16])])
def spec_DrawTreeWay.B3 : List Nat:=[0,0,0,4,12,28,62,0,0,256,768,1792,4094,0,16382,32766,65534,32767,163839,524287]
theorem spec_DrawTreeWay.tab3 : rtab .any (opsOf Try.f34 3) = spec_DrawTreeWay.T3:=by kernel_rfl
theorem spec_DrawTreeWay.bits3 : waitsOk spec_DrawTreeWay.T3.2 spec_DrawTreeWay.B3 = true:=by kernel_rfl
set_option maxHeartbeats 8000000 in
set_option maxRecDepth 100000 in
theorem spec_DrawTreeWay.calls (k : Nat) (A0 : Option Addr) (c0 : Nat) (l0 : List Int) (r1 : Int) (r2 : List (S51)) (r3 : List Int) (r4 : List Int) (r5 : Int) (r6 : Int) (w : World) (hr0 : Kd.C (Kd.int .u8) w A0 l0.length l0) (hc0 : l0.length ≤ c0) (h : spec_DrawTreeWay.f k l0 = some (r1,r2,r3,r4,r5,r6)) :
  Calls Try.prog 34 #[.slice A0 l0.length c0] w fun e w' => ∃ v1_ v2_ v3_ : Value,e = .returned (.tuple #[.agg #[.int .i64 r1,v1_,v2_,v3_],.int .i64 r5,.int .i64 r6]) ∧ Kd.R k51 51 w' w.heap.size (fun _ => True) v1_ r2 ∧ Kd.R (Kd.int .i64) 3 w' w.heap.size (fun k_ => some k_ ≠ (v3_ : Value).ownBlock) v2_ r3 ∧ Kd.Q (Kd.int .i64) 3 w' w.heap.size (fun k_ => some k_ ≠ (v2_ : Value).ownBlock) v3_ r4 ∧ Below w.heap.size w w':=by
 have hu30:=Try.underlying30
 have HR0:=mk_ hr0
 have HC0:=mk_ hc0
 clear hr0 hc0
 have HB:=mk_ (Below.refl w.heap.size w)
 have H : ((spec_l21Open.f l0).bind fun bt350 => ((spec_l19Net.f k bt350.1 bt350.2).bind fun bt353 => ((spec_l21Rd_pick.f k bt350.1 bt353.2.2.2.2 (wrap64 ((bt353.2.2.1.length : Int) + 1))).bind fun bt365 => ((spec_l21Rd_pick.f k bt350.1 bt365.2 (wrap64 ((bt353.2.2.1.length : Int) + 2))).bind fun bt367 => ((spec_l21Rd_pick.f k bt350.1 bt367.2 9).bind fun bt369 => (some (bt353.1,bt353.2.1,bt353.2.2.1,bt353.2.2.2.1,bt365.1,wrap64 (bt367.1 - (wrap64 (Int.tdiv bt369.1 8)))))))))) = some (r1,r2,r3,r4,r5,r6):=h
 clear h
 replace H:=Option.bind_eq_some_iff.mp H
 obtain ⟨⟨t350,t351⟩,A20,H⟩:=H
 replace H : ((spec_l19Net.f k t350 t351).bind fun bt353 => ((spec_l21Rd_pick.f k t350 bt353.2.2.2.2 (wrap64 ((bt353.2.2.1.length : Int) + 1))).bind fun bt365 => ((spec_l21Rd_pick.f k t350 bt365.2 (wrap64 ((bt353.2.2.1.length : Int) + 2))).bind fun bt367 => ((spec_l21Rd_pick.f k t350 bt367.2 9).bind fun bt369 => (some (bt353.1,bt353.2.1,bt353.2.2.1,bt353.2.2.2.1,bt365.1,wrap64 (bt367.1 - (wrap64 (Int.tdiv bt369.1 8))))))))) = some (r1,r2,r3,r4,r5,r6):=H
 have A2:=mk_ A20
 clear A20
 replace H:=Option.bind_eq_some_iff.mp H
 obtain ⟨⟨t353,t354,t357,t360,t363⟩,A30,H⟩:=H
 replace H : ((spec_l21Rd_pick.f k t350 t363 (wrap64 ((t357.length : Int) + 1))).bind fun bt365 => ((spec_l21Rd_pick.f k t350 bt365.2 (wrap64 ((t357.length : Int) + 2))).bind fun bt367 => ((spec_l21Rd_pick.f k t350 bt367.2 9).bind fun bt369 => (some (t353,t354,t357,t360,bt365.1,wrap64 (bt367.1 - (wrap64 (Int.tdiv bt369.1 8)))))))) = some (r1,r2,r3,r4,r5,r6):=H
 have A3:=mk_ A30
 clear A30
 replace H:=Option.bind_eq_some_iff.mp H
 obtain ⟨⟨t365,t366⟩,A40,H⟩:=H
 replace H : ((spec_l21Rd_pick.f k t350 t366 (wrap64 ((t357.length : Int) + 2))).bind fun bt367 => ((spec_l21Rd_pick.f k t350 bt367.2 9).bind fun bt369 => (some (t353,t354,t357,t360,t365,wrap64 (bt367.1 - (wrap64 (Int.tdiv bt369.1 8))))))) = some (r1,r2,r3,r4,r5,r6):=H
 have A4:=mk_ A40
 clear A40
 replace H:=Option.bind_eq_some_iff.mp H
 obtain ⟨⟨t367,t368⟩,A50,H⟩:=H
 replace H : ((spec_l21Rd_pick.f k t350 t368 9).bind fun bt369 => (some (t353,t354,t357,t360,t365,wrap64 (t367 - (wrap64 (Int.tdiv bt369.1 8)))))) = some (r1,r2,r3,r4,r5,r6):=H
 have A5:=mk_ A50
 clear A50
 replace H:=Option.bind_eq_some_iff.mp H
 obtain ⟨⟨t369,t370⟩,A60,H⟩:=H
 replace H : (some (t353,t354,t357,t360,t365,wrap64 (t367 - (wrap64 (Int.tdiv t369 8))))) = some (r1,r2,r3,r4,r5,r6):=H
 have A6:=mk_ A60
 clear A60
 simp only [Option.some.injEq,Prod.mk.injEq] at H
 obtain ⟨rfl,rfl,rfl,rfl,rfl,rfl⟩:=H
 go_enter Try.func34,Try.ntmps34
 try go_wp2_with (first|((with_reducible refine gate_dst (N:=2) rfl ?_);refine box_event ?hg (N:=2) ?hd (cs:=#[.int .i64 0,.slice none 0 0,.slice none 0 0,.slice none 0 0]) (t:=30) ?hr ?_;(case hd => rfl);(case hg => rfl);(case hr => first|(go_simp;done)|(go_simp;rfl));intro gb349 hg w7 hbox hb;have n0_:=mk_ (st_ (qb_ HB) hb);have n1_:=mk_ (hbox);have n2_:=mk_ ((by rw [hg];exact (bz_ (qb_ HB)) : w.heap.size ≤ gb349));have n3_:=mk_ ((by rw [hg];exact (bz_ (qb_ HB)) : w.heap.size ≤ gb349));clear HB;have HB:=n0_;have BK349:=n1_;have GW349:=n2_;have GE349:=n3_;clear n0_ n1_ n2_ n3_;clear hb hbox hg)|((with_reducible refine gate_callee (f:=51) rfl ?_);refine goesL_ (some 8) rfl rfl Try.func51 (by kernel_rfl) rfl #[.slice A0 l0.length c0] rfl qm_ ?_;(with_reducible refine (spec_l21Open.calls _ _ l0 t350 t351 w _ ?side1 ?side2 ?side3 A2.out).mono ?_);(case side1 => exact u1_ HB GE349);(case side2 => exact HR0.out);(case side3 => exact HC0.out);rintro e w8 ⟨g352,rfl,hi,hb,hb2⟩;refine ⟨_,rfl,?_⟩;have n0_:=mk_ (blk_below (g:=gb349) (o:=.cells #[.int .i64 0,.slice none 0 0,.slice none 0 0,.slice none 0 0] 30 (0,0)) (qk_ BK349) hb2);have n1_:=mk_ (hb);have n2_:=mk_ (hi);have n3_:=mk_ (IsS84.ne_blk hi (blk_below (g:=gb349) (o:=.cells #[.int .i64 0,.slice none 0 0,.slice none 0 0,.slice none 0 0] 30 (0,0)) (qk_ BK349) hb2) (by decide));have n4_:=mk_ (Ne.symm (IsS84.ne_blk hi (blk_below (g:=gb349) (o:=.cells #[.int .i64 0,.slice none 0 0,.slice none 0 0,.slice none 0 0] 30 (0,0)) (qk_ BK349) hb2) (by decide)));clear BK349;clear HB;have BK349:=n0_;have HB:=n1_;have HI352:=n2_;have NB352_349:=n3_;have NB349_352:=n4_;clear n0_ n1_ n2_ n3_ n4_;(try clear hb);(try clear hb2);(try clear hk);(try clear hi))|((with_reducible refine gate_callee (f:=52) rfl ?_);refine goesL_ (some 10) rfl rfl Try.func52 (by kernel_rfl) rfl #[.pointer (some ⟨g352,0,none⟩)] rfl qm_ ?_;(with_reducible refine (spec_l19Net.calls k g352 t350 t351 t353 t354 t357 t360 t363 w _ ?side1 ?side2 A3.out).mono ?_);(case side1 => exact u9_ HI352 NB352_349);(case side2 => exact u11_ HB HI352 GE349);rintro e w9 ⟨v355,v358,v361,rfl,ho0,ho1,ho2,hi,hb,hk⟩;refine ⟨_,rfl,?_⟩;have n0_:=mk_ (KeepBut.blk hk (g':=gb349) (o:=.cells #[.int .i64 0,.slice none 0 0,.slice none 0 0,.slice none 0 0] 30 (0,0)) (qk_ BK349) NB349_352.out (by simp));have n1_:=mk_ (Kd.R_lower ho0 (bz_ (u11_ HB HI352 GE349)));have n2_:=mk_ (Kd.R_lower ho1 (bz_ (u11_ HB HI352 GE349)));have n3_:=mk_ (Kd.Q_lower ho2 (bz_ (u11_ HB HI352 GE349)));have n4_:=mk_ (hb);have n5_:=mk_ (hi);clear BK349;clear HB;clear HI352;have BK349:=n0_;have HO356:=n1_;have HO359:=n2_;have HO362:=n3_;have HB:=n4_;have HI352:=n5_;clear n0_ n1_ n2_ n3_ n4_ n5_;(try clear hb);(try clear hb2);(try clear hk);(try clear hi);(try clear ho0);(try clear ho1);(try clear ho2))|((with_reducible refine gate_dst (N:=6) rfl ?_);refine box_event ?hg (N:=6) ?hd (cs:=#[.int .i64 0,.slice none 0 0,.slice none 0 0,.slice none 0 0]) (t:=30) ?hr ?_;(case hd => rfl);(case hg => rfl);(case hr => first|(go_simp;done)|(go_simp;rfl));intro gb364 hg w10 hbox hb;have n0_:=mk_ (rb_ (qr_ HO356) hb);have n1_:=mk_ (rb_ (qr_ HO359) hb);have n2_:=mk_ (Kd.Q_below (by (with_reducible repeat (first|apply Kd.Q_alloc|apply Kd.Q_drewN|apply Kd.Q_drew));exact HO362.out) hb);have n3_:=mk_ (blk_below (g:=gb349) (o:=.cells #[.int .i64 0,.slice none 0 0,.slice none 0 0,.slice none 0 0] 30 (0,0)) (qk_ BK349) hb);have n4_:=mk_ (IsS84.below (u9_ HI352 NB352_349) hb);have n5_:=mk_ (st_ (u11_ HB HI352 GE349) hb);have n6_:=mk_ (hbox);have n7_:=mk_ ((by rw [hg];exact (bz_ (u11_ HB HI352 GE349)) : w.heap.size ≤ gb364));have n8_:=mk_ ((by rw [hg];exact (bz_ (u11_ HB HI352 GE349)) : w.heap.size ≤ gb364));have n9_:=mk_ ((by rw [hg];exact Nat.ne_of_lt (blk_lt (g:=gb349) (o:=.cells #[.int .i64 0,.slice none 0 0,.slice none 0 0,.slice none 0 0] 30 (0,0)) (qk_ BK349)) : gb349 ≠ gb364));have n10_:=mk_ ((by rw [hg];exact Nat.ne_of_gt (blk_lt (g:=gb349) (o:=.cells #[.int .i64 0,.slice none 0 0,.slice none 0 0,.slice none 0 0] 30 (0,0)) (qk_ BK349)) : gb364 ≠ gb349));have n11_:=mk_ ((by rw [hg];exact Nat.ne_of_lt (IsS84.lt (show IsS84 w _ g352 t350 t363 from u9_ HI352 NB352_349)) : g352 ≠ gb364));have n12_:=mk_ ((by rw [hg];exact Nat.ne_of_gt (IsS84.lt (show IsS84 w _ g352 t350 t363 from u9_ HI352 NB352_349)) : gb364 ≠ g352));clear HO356;clear HO359;clear HO362;clear BK349;clear HI352;clear HB;have HO356:=n0_;have HO359:=n1_;have HO362:=n2_;have BK349:=n3_;have HI352:=n4_;have HB:=n5_;have BK364:=n6_;have GW364:=n7_;have GE364:=n8_;have NB349_364:=n9_;have NB364_349:=n10_;have NB352_364:=n11_;have NB364_352:=n12_;clear n0_ n1_ n2_ n3_ n4_ n5_ n6_ n7_ n8_ n9_ n10_ n11_ n12_;clear hb hbox hg;have hnb11:=NB364_349.out;have hnc11:=NB349_364.out;have hnb12:=NB364_352.out;have hnc12:=NB352_364.out;have hcz13_0 : w10.cell? ⟨gb364,0,none⟩ = some (.int .i64 0):=(bc_ BK364.out 0).trans rfl;have hcz13_1 : w10.cell? ⟨gb364,1,none⟩ = some (.slice none 0 0):=(bc_ BK364.out 1).trans rfl;have hcz13_2 : w10.cell? ⟨gb364,2,none⟩ = some (.slice none 0 0):=(bc_ BK364.out 2).trans rfl;have hcz13_3 : w10.cell? ⟨gb364,3,none⟩ = some (.slice none 0 0):=(bc_ BK364.out 3).trans rfl;have hfz13_0:=bf_ BK364.out 0;have hfz13_1:=bf_ BK364.out 1;have hfz13_2:=bf_ BK364.out 2;have hfz13_3:=bf_ BK364.out 3;obtain ⟨Ao14,co14,eo14⟩:=Kd.R_slice HO356.out;subst eo14;obtain ⟨Ao15,co15,eo15⟩:=Kd.R_slice HO359.out;subst eo15;obtain ⟨Ao16,co16,eo16,_⟩:=Kd.Q_slice HO362.out;subst eo16))
 have n0_ : Aside0 (Kd.R k51 51 ((((w10.setCell ⟨gb364,0,none⟩ (.int .i64 t353)).setCell ⟨gb364,1,none⟩ (.slice Ao14 t354.length co14)).setCell ⟨gb364,2,none⟩ (.slice Ao15 t357.length co15)).setCell ⟨gb364,3,none⟩ (.slice Ao16 t360.length co16)) w.heap.size (fun _ => True) (.slice Ao14 t354.length co14) t354):=⟨by (with_reducible repeat (first|apply ra_|apply rn_|apply rd_));exact rm_ (rf_ (p:=⟨gb364,3,none⟩) (rf_ (p:=⟨gb364,2,none⟩) (rf_ (p:=⟨gb364,1,none⟩) (rf_ (p:=⟨gb364,0,none⟩) (rt_ HO356.out BK364.out (by decide)) (fun _ hk => hk.2) (.int .i64 t353)) (fun _ hk => hk.2) (.slice Ao14 t354.length co14)) (fun _ hk => hk.2) (.slice Ao15 t357.length co15)) (fun _ hk => hk.2) (.slice Ao16 t360.length co16)) (fun _ hk => trivial)⟩
 have n1_ : Aside0 (Kd.R (Kd.int .i64) 3 ((((w10.setCell ⟨gb364,0,none⟩ (.int .i64 t353)).setCell ⟨gb364,1,none⟩ (.slice Ao14 t354.length co14)).setCell ⟨gb364,2,none⟩ (.slice Ao15 t357.length co15)).setCell ⟨gb364,3,none⟩ (.slice Ao16 t360.length co16)) w.heap.size (fun k_ => some k_ ≠ (.slice Ao16 t360.length co16 : Value).ownBlock) (.slice Ao15 t357.length co15) t357):=⟨by (with_reducible repeat (first|apply ra_|apply rn_|apply rd_));exact rm_ (rf_ (p:=⟨gb364,3,none⟩) (rf_ (p:=⟨gb364,2,none⟩) (rf_ (p:=⟨gb364,1,none⟩) (rf_ (p:=⟨gb364,0,none⟩) (rt_ HO359.out BK364.out (by decide)) (fun _ hk => hk.2) (.int .i64 t353)) (fun _ hk => hk.2) (.slice Ao14 t354.length co14)) (fun _ hk => hk.2) (.slice Ao15 t357.length co15)) (fun _ hk => hk.2) (.slice Ao16 t360.length co16)) (fun _ hk => hk.1)⟩
 have n2_ : Aside0 (Kd.Q (Kd.int .i64) 3 ((((w10.setCell ⟨gb364,0,none⟩ (.int .i64 t353)).setCell ⟨gb364,1,none⟩ (.slice Ao14 t354.length co14)).setCell ⟨gb364,2,none⟩ (.slice Ao15 t357.length co15)).setCell ⟨gb364,3,none⟩ (.slice Ao16 t360.length co16)) w.heap.size (fun k_ => some k_ ≠ (.slice Ao15 t357.length co15 : Value).ownBlock) (.slice Ao16 t360.length co16) t360):=⟨by (with_reducible repeat (first|apply Kd.Q_alloc|apply Kd.Q_drewN|apply Kd.Q_drew));exact Kd.Q_mono (Kd.Q_far (p:=⟨gb364,3,none⟩) (Kd.Q_far (p:=⟨gb364,2,none⟩) (Kd.Q_far (p:=⟨gb364,1,none⟩) (Kd.Q_far (p:=⟨gb364,0,none⟩) (Kd.Q_types HO362.out BK364.out (by decide)) (fun _ hk => hk.2) (.int .i64 t353)) (fun _ hk => hk.2) (.slice Ao14 t354.length co14)) (fun _ hk => hk.2) (.slice Ao15 t357.length co15)) (fun _ hk => hk.2) (.slice Ao16 t360.length co16)) (fun _ hk => hk.1)⟩
 have n3_ : Aside0 (((((w10.setCell ⟨gb364,0,none⟩ (.int .i64 t353)).setCell ⟨gb364,1,none⟩ (.slice Ao14 t354.length co14)).setCell ⟨gb364,2,none⟩ (.slice Ao15 t357.length co15)).setCell ⟨gb364,3,none⟩ (.slice Ao16 t360.length co16)).heap[gb349]? = some (.cells #[.int .i64 0,.slice none 0 0,.slice none 0 0,.slice none 0 0] 30 (0,0))):=⟨by (with_reducible repeat (first|refine kn_ ?_ _|refine kd_ ?_|refine ka_ ?_ _));refine blk_far ?_ NB349_364.out _;(with_reducible repeat (first|refine kn_ ?_ _|refine kd_ ?_|refine ka_ ?_ _));refine blk_far ?_ NB349_364.out _;(with_reducible repeat (first|refine kn_ ?_ _|refine kd_ ?_|refine ka_ ?_ _));refine blk_far ?_ NB349_364.out _;(with_reducible repeat (first|refine kn_ ?_ _|refine kd_ ?_|refine ka_ ?_ _));refine blk_far ?_ NB349_364.out _;(with_reducible repeat (first|refine kn_ ?_ _|refine kd_ ?_|refine ka_ ?_ _));exact BK349.out⟩
 have n4_ : Aside0 (((((w10.setCell ⟨gb364,0,none⟩ (.int .i64 t353)).setCell ⟨gb364,1,none⟩ (.slice Ao14 t354.length co14)).setCell ⟨gb364,2,none⟩ (.slice Ao15 t357.length co15)).setCell ⟨gb364,3,none⟩ (.slice Ao16 t360.length co16)).heap[gb364]? = some (.cells #[.int .i64 t353,.slice Ao14 t354.length co14,.slice Ao15 t357.length co15,.slice Ao16 t360.length co16] 30 (0,0))):=⟨by (with_reducible repeat (first|refine kn_ ?_ _|refine kd_ ?_|refine ka_ ?_ _));refine blk_put (cs:=#[.int .i64 t353,.slice Ao14 t354.length co14,.slice Ao15 t357.length co15,.slice none 0 0]) ?_ 3 _ rfl;(with_reducible repeat (first|refine kn_ ?_ _|refine kd_ ?_|refine ka_ ?_ _));refine blk_put (cs:=#[.int .i64 t353,.slice Ao14 t354.length co14,.slice none 0 0,.slice none 0 0]) ?_ 2 _ rfl;(with_reducible repeat (first|refine kn_ ?_ _|refine kd_ ?_|refine ka_ ?_ _));refine blk_put (cs:=#[.int .i64 t353,.slice none 0 0,.slice none 0 0,.slice none 0 0]) ?_ 1 _ rfl;(with_reducible repeat (first|refine kn_ ?_ _|refine kd_ ?_|refine ka_ ?_ _));refine blk_put (cs:=#[.int .i64 0,.slice none 0 0,.slice none 0 0,.slice none 0 0]) ?_ 0 _ rfl;(with_reducible repeat (first|refine kn_ ?_ _|refine kd_ ?_|refine ka_ ?_ _));exact BK364.out⟩
 have n5_ : Aside0 (IsS84 w ((((w10.setCell ⟨gb364,0,none⟩ (.int .i64 t353)).setCell ⟨gb364,1,none⟩ (.slice Ao14 t354.length co14)).setCell ⟨gb364,2,none⟩ (.slice Ao15 t357.length co15)).setCell ⟨gb364,3,none⟩ (.slice Ao16 t360.length co16)) g352 t350 t363):=⟨u12_ HI352 NB352_349 NB352_364⟩
 have n6_ : Aside0 (Below w.heap.size w ((((w10.setCell ⟨gb364,0,none⟩ (.int .i64 t353)).setCell ⟨gb364,1,none⟩ (.slice Ao14 t354.length co14)).setCell ⟨gb364,2,none⟩ (.slice Ao15 t357.length co15)).setCell ⟨gb364,3,none⟩ (.slice Ao16 t360.length co16))):=⟨u13_ HB HI352 GE349 GE364⟩
 (try clear HO356)
 (try clear HO359)
 (try clear HO362)
 (try clear BK349)
 (try clear BK364)
 (try clear HI352)
 (try clear HB)
 generalize ((((w10.setCell ⟨gb364,0,none⟩ (.int .i64 t353)).setCell ⟨gb364,1,none⟩ (.slice Ao14 t354.length co14)).setCell ⟨gb364,2,none⟩ (.slice Ao15 t357.length co15)).setCell ⟨gb364,3,none⟩ (.slice Ao16 t360.length co16)) = w17 at n0_ n1_ n2_ n3_ n4_ n5_ n6_ ⊢
 have HO356:=n0_
 have HO359:=n1_
 have HO362:=n2_
 have BK349:=n3_
 have BK364:=n4_
 have HI352:=n5_
 have HB:=n6_
 clear n0_ n1_ n2_ n3_ n4_ n5_ n6_
 have n0_:=mk_ (rd_ HO356.out)
 have n1_:=mk_ (rd_ HO359.out)
 have n2_:=mk_ (Kd.Q_drew HO362.out)
 have n3_:=mk_ (kd_ BK349.out)
 have n4_:=mk_ (kd_ BK364.out)
 have n5_:=mk_ (IsS84.drew HI352.out)
 have n6_:=mk_ (bd_ HB.out)
 clear HO356
 clear HO359
 clear HO362
 clear BK349
 clear BK364
 clear HI352
 clear HB
 have HO356:=n0_
 have HO359:=n1_
 have HO362:=n2_
 have BK349:=n3_
 have BK364:=n4_
 have HI352:=n5_
 have HB:=n6_
 clear n0_ n1_ n2_ n3_ n4_ n5_ n6_
 refine start_ (n:=20) (S:=fun w' => w'.cell? ⟨gb364,0,none⟩ = some (.int .i64 t353) ∧ w'.cell? ⟨gb364,1,none⟩ = some (.slice Ao14 t354.length co14) ∧ w'.cell? ⟨gb364,2,none⟩ = some (.slice Ao15 t357.length co15) ∧ w'.cell? ⟨gb364,3,none⟩ = some (.slice Ao16 t360.length co16)) (ds:=[]) #[false,false,false,false,false,false,false,false,false,false,false,false,false,false,false,false,false,false,false,false] (by kernel_rfl) rfl rfl ⟨(bc_ BK364.out 0).trans rfl,(bc_ BK364.out 1).trans rfl,(bc_ BK364.out 2).trans rfl,(bc_ BK364.out 3).trans rfl⟩ (fun hHeld => ?_);refine with_tabW spec_DrawTreeWay.tab3 spec_DrawTreeWay.bits3 (fun HT_ HW_ => ?_)
 generalize w17.drew = w18 at HO356 HO359 HO362 BK349 BK364 HI352 HB hHeld ⊢
 refine pure_ (i:=1) (N:=some 12) (v:=?_) (a':=?_) #[false,true,false,false,false,false,false,false,false,false,false,false,false,false,false,false,false,false,false,false] rfl rfl (any_of HT_.out (by kernel_rfl)) (fun _ _ _ h => h) (Or.inl ⟨by rfl,?_⟩) ?_ ?_
 rotate_left
 ·intro w'
  go_simp
  with_reducible rfl
 rotate_left
 ·simp only [Act.put,sx_,sy_,sz_,i64_w,i32_w]
  rfl
 refine pure_ (i:=2) (N:=some 13) (v:=?_) (a':=?_) #[false,true,true,false,false,false,false,false,false,false,false,false,false,false,false,false,false,false,false,false] rfl rfl (any_of HT_.out (by kernel_rfl)) (fun _ _ _ h => h) (Or.inl ⟨by rfl,?_⟩) ?_ ?_
 rotate_left
 ·intro w'
  go_simp
  with_reducible rfl
 rotate_left
 ·simp only [Act.put,sx_,sy_,sz_,i64_w,i32_w]
  rfl
 refine pure_ (i:=7) (N:=some 18) (v:=?_) (a':=?_) #[false,true,true,false,false,false,false,true,false,false,false,false,false,false,false,false,false,false,false,false] rfl rfl (any_of HT_.out (by kernel_rfl)) (fun _ _ _ h => h) (Or.inl ⟨by rfl,?_⟩) ?_ ?_
 rotate_left
 ·intro w'
  go_simp
  with_reducible rfl
 rotate_left
 ·simp only [Act.put,sx_,sy_,sz_,i64_w,i32_w]
  rfl
 refine pure_ (i:=8) (N:=some 19) (v:=?_) (a':=?_) #[false,true,true,false,false,false,false,true,true,false,false,false,false,false,false,false,false,false,false,false] rfl rfl (any_of HT_.out (by kernel_rfl)) (fun _ _ _ h => h) (Or.inl ⟨by rfl,?_⟩) ?_ ?_
 rotate_left
 ·intro w'
  go_simp
  with_reducible rfl
 rotate_left
 ·simp only [Act.put,sx_,sy_,sz_,i64_w,i32_w]
  rfl
 refine pure_ (i:=13) (N:=some 24) (v:=?_) (a':=?_) #[false,true,true,false,false,false,false,true,true,false,false,false,false,true,false,false,false,false,false,false] rfl rfl (any_of HT_.out (by kernel_rfl)) (fun _ _ _ h => h) (Or.inl ⟨by rfl,?_⟩) ?_ ?_
 rotate_left
 ·intro w'
  go_simp
  with_reducible rfl
 rotate_left
 ·simp only [Act.put,sx_,sy_,sz_,i64_w,i32_w]
  rfl
 refine take_ (i:=0) (N:=some 11) (v:=?_) (a':=?_) #[true,true,true,false,false,false,false,true,true,false,false,false,false,true,false,false,false,false,false,false] rfl rfl (take_ofW HT_.out HW_.out (by kernel_rfl)) (fun _ _ _ h => h) (Or.inl ⟨by rfl,?_⟩) hHeld ?_ ?_
 rotate_left
 ·rintro w' ⟨s0,s1,s2,s3⟩
  go_simp
  with_reducible rfl
 rotate_left
 ·simp only [Act.put,sx_,sy_,sz_,i64_w,i32_w]
  rfl
 refine take_ (i:=3) (N:=some 14) (v:=?_) (a':=?_) #[true,true,true,true,false,false,false,true,true,false,false,false,false,true,false,false,false,false,false,false] rfl rfl (take_ofW HT_.out HW_.out (by kernel_rfl)) (fun _ _ _ h => h) (Or.inl ⟨by rfl,?_⟩) hHeld ?_ ?_
 rotate_left
 ·rintro w' ⟨s0,s1,s2,s3⟩
  go_simp
  with_reducible rfl
 rotate_left
 ·simp only [Act.put,sx_,sy_,sz_,i64_w,i32_w]
  rfl
 refine pure_ (i:=4) (N:=some 15) (v:=?_) (a':=?_) #[true,true,true,true,true,false,false,true,true,false,false,false,false,true,false,false,false,false,false,false] rfl rfl (any_of HT_.out (by kernel_rfl)) (fun _ _ _ h => h) (Or.inl ⟨by rfl,?_⟩) ?_ ?_
 rotate_left
 ·intro w'
  go_simp
  with_reducible rfl
 rotate_left
 ·simp only [Act.put,sx_,sy_,sz_,i64_w,i32_w]
  rfl
 refine pure_ (i:=5) (N:=some 16) (v:=?_) (a':=?_) #[true,true,true,true,true,true,false,true,true,false,false,false,false,true,false,false,false,false,false,false] rfl rfl (any_of HT_.out (by kernel_rfl)) (fun _ _ _ h => h) (Or.inl ⟨by rfl,?_⟩) ?_ ?_
 rotate_left
 ·intro w'
  go_simp
  with_reducible rfl
 rotate_left
 ·simp only [Act.put,sx_,sy_,sz_,i64_w,i32_w]
  rfl
 refine take_ (i:=9) (N:=some 20) (v:=?_) (a':=?_) #[true,true,true,true,true,true,false,true,true,true,false,false,false,true,false,false,false,false,false,false] rfl rfl (take_ofW HT_.out HW_.out (by kernel_rfl)) (fun _ _ _ h => h) (Or.inl ⟨by rfl,?_⟩) hHeld ?_ ?_
 rotate_left
 ·rintro w' ⟨s0,s1,s2,s3⟩
  go_simp
  with_reducible rfl
 rotate_left
 ·simp only [Act.put,sx_,sy_,sz_,i64_w,i32_w]
  rfl
 refine pure_ (i:=10) (N:=some 21) (v:=?_) (a':=?_) #[true,true,true,true,true,true,false,true,true,true,true,false,false,true,false,false,false,false,false,false] rfl rfl (any_of HT_.out (by kernel_rfl)) (fun _ _ _ h => h) (Or.inl ⟨by rfl,?_⟩) ?_ ?_
 rotate_left
 ·intro w'
  go_simp
  with_reducible rfl
 rotate_left
 ·simp only [Act.put,sx_,sy_,sz_,i64_w,i32_w]
  rfl
 refine pure_ (i:=11) (N:=some 22) (v:=?_) (a':=?_) #[true,true,true,true,true,true,false,true,true,true,true,true,false,true,false,false,false,false,false,false] rfl rfl (any_of HT_.out (by kernel_rfl)) (fun _ _ _ h => h) (Or.inl ⟨by rfl,?_⟩) ?_ ?_
 rotate_left
 ·intro w'
  go_simp
  with_reducible rfl
 rotate_left
 ·simp only [Act.put,sx_,sy_,sz_,i64_w,i32_w]
  rfl
 refine one_ (i:=6) (N:=some 17) #[true,true,true,true,true,true,true,true,true,true,true,true,false,true,false,false,false,false,false,false] rfl rfl (one_of HT_.out (by kernel_rfl)) (by decide) (fun K hK => ?_)
 refine goes_ Try.func53 (by kernel_rfl) rfl #[.pointer (some ⟨g352,0,none⟩),.int .i64 (wrap64 ((t357.length : Int) + 1))] (by rfl) rfl rfl qm_ ?_
 with_reducible refine (spec_l21Rd_pick.calls k g352 t350 t363 (wrap64 ((t357.length : Int) + 1)) t365 t366 w _ ?side1 ?side2 A4.out).mono ?_
 (case side1 => exact u12_ HI352 NB352_349 NB352_364)
 (case side2 => exact u13_ HB HI352 GE349 GE364)
 rintro e w19 ⟨rfl,hi,hb,hk⟩
 refine ⟨_,rfl,?_⟩
 have n0_:=mk_ (KeepBut.blk hk (g':=gb349) (o:=.cells #[.int .i64 0,.slice none 0 0,.slice none 0 0,.slice none 0 0] 30 (0,0)) (qk_ BK349) NB349_352.out (by simp))
 have n1_:=mk_ (rm_ (Kd.R_keep (IsS84.apart (show IsS84 w _ g352 t350 t363 from u12_ HI352 NB352_349 NB352_364) (qr_ HO356) (by decide)) hk (fun _ h => h.2)) (fun _ h => h.1))
 have n2_:=mk_ (rm_ (Kd.R_keep (IsS84.apart (show IsS84 w _ g352 t350 t363 from u12_ HI352 NB352_349 NB352_364) (qr_ HO359) (by decide)) hk (fun _ h => h.2)) (fun _ h => h.1))
 have n3_:=mk_ (Kd.Q_mono (Kd.Q_keep (IsS84.apartQ (show IsS84 w _ g352 t350 t363 from u12_ HI352 NB352_349 NB352_364) (by (with_reducible repeat (first|apply Kd.Q_alloc|apply Kd.Q_drewN|apply Kd.Q_drew));exact HO362.out) (by decide)) hk (fun _ h => h.2)) (fun _ h => h.1))
 have n4_:=mk_ (KeepBut.blk hk (g':=gb364) (o:=.cells #[.int .i64 t353,.slice Ao14 t354.length co14,.slice Ao15 t357.length co15,.slice Ao16 t360.length co16] 30 (0,0)) (qk_ BK364) NB364_352.out (by simp))
 have n5_:=mk_ (hb)
 have n6_:=mk_ (hi)
 clear BK349
 clear HO356
 clear HO359
 clear HO362
 clear BK364
 clear HB
 clear HI352
 have BK349:=n0_
 have HO356:=n1_
 have HO359:=n2_
 have HO362:=n3_
 have BK364:=n4_
 have HB:=n5_
 have HI352:=n6_
 clear n0_ n1_ n2_ n3_ n4_ n5_ n6_
 (try clear hb)
 (try clear hb2)
 (try clear hk)
 (try clear hi)
 refine hK.out _ _ ⟨(bc_ BK364.out 0).trans rfl,(bc_ BK364.out 1).trans rfl,(bc_ BK364.out 2).trans rfl,(bc_ BK364.out 3).trans rfl⟩ (fun hHeld => ?_)
 clear hK K
 refine norm_ (a':=?_) ?_ ?_
 rotate_left
 ·show Act.put _ (some 17) _ = _
  simp only [Act.put,sx_,sy_,sz_,i64_w,i32_w]
  rfl
 refine one_ (i:=12) (N:=some 23) #[true,true,true,true,true,true,true,true,true,true,true,true,true,true,false,false,false,false,false,false] rfl rfl (one_of HT_.out (by kernel_rfl)) (by decide) (fun K hK => ?_)
 refine goes_ Try.func53 (by kernel_rfl) rfl #[.pointer (some ⟨g352,0,none⟩),.int .i64 (wrap64 ((t357.length : Int) + 2))] (by rfl) rfl rfl qm_ ?_
 with_reducible refine (spec_l21Rd_pick.calls k g352 t350 t366 (wrap64 ((t357.length : Int) + 2)) t367 t368 w _ ?side1 ?side2 A5.out).mono ?_
 (case side1 => exact u12_ HI352 NB352_349 NB352_364)
 (case side2 => exact u13_ HB HI352 GE349 GE364)
 rintro e w20 ⟨rfl,hi,hb,hk⟩
 refine ⟨_,rfl,?_⟩
 have n0_:=mk_ (KeepBut.blk hk (g':=gb349) (o:=.cells #[.int .i64 0,.slice none 0 0,.slice none 0 0,.slice none 0 0] 30 (0,0)) (qk_ BK349) NB349_352.out (by simp))
 have n1_:=mk_ (rm_ (Kd.R_keep (IsS84.apart (show IsS84 w _ g352 t350 t366 from u12_ HI352 NB352_349 NB352_364) (qr_ HO356) (by decide)) hk (fun _ h => h.2)) (fun _ h => h.1))
 have n2_:=mk_ (rm_ (Kd.R_keep (IsS84.apart (show IsS84 w _ g352 t350 t366 from u12_ HI352 NB352_349 NB352_364) (qr_ HO359) (by decide)) hk (fun _ h => h.2)) (fun _ h => h.1))
 have n3_:=mk_ (Kd.Q_mono (Kd.Q_keep (IsS84.apartQ (show IsS84 w _ g352 t350 t366 from u12_ HI352 NB352_349 NB352_364) (by (with_reducible repeat (first|apply Kd.Q_alloc|apply Kd.Q_drewN|apply Kd.Q_drew));exact HO362.out) (by decide)) hk (fun _ h => h.2)) (fun _ h => h.1))
 have n4_:=mk_ (KeepBut.blk hk (g':=gb364) (o:=.cells #[.int .i64 t353,.slice Ao14 t354.length co14,.slice Ao15 t357.length co15,.slice Ao16 t360.length co16] 30 (0,0)) (qk_ BK364) NB364_352.out (by simp))
 have n5_:=mk_ (hb)
 have n6_:=mk_ (hi)
 clear BK349
 clear HO356
 clear HO359
 clear HO362
 clear BK364
 clear HB
 clear HI352
 have BK349:=n0_
 have HO356:=n1_
 have HO359:=n2_
 have HO362:=n3_
 have BK364:=n4_
 have HB:=n5_
 have HI352:=n6_
 clear n0_ n1_ n2_ n3_ n4_ n5_ n6_
 (try clear hb)
 (try clear hb2)
 (try clear hk)
 (try clear hi)
 refine hK.out _ _ ⟨(bc_ BK364.out 0).trans rfl,(bc_ BK364.out 1).trans rfl,(bc_ BK364.out 2).trans rfl,(bc_ BK364.out 3).trans rfl⟩ (fun hHeld => ?_)
 clear hK K
 refine norm_ (a':=?_) ?_ ?_
 rotate_left
 ·show Act.put _ (some 23) _ = _
  simp only [Act.put,sx_,sy_,sz_,i64_w,i32_w]
  rfl
 refine one_ (i:=14) (N:=some 25) #[true,true,true,true,true,true,true,true,true,true,true,true,true,true,true,false,false,false,false,false] rfl rfl (one_of HT_.out (by kernel_rfl)) (by decide) (fun K hK => ?_)
 refine goes_ Try.func53 (by kernel_rfl) rfl #[.pointer (some ⟨g352,0,none⟩),.int .i64 9] (by rfl) rfl rfl qm_ ?_
 with_reducible refine (spec_l21Rd_pick.calls k g352 t350 t368 9 t369 t370 w _ ?side1 ?side2 A6.out).mono ?_
 (case side1 => exact u12_ HI352 NB352_349 NB352_364)
 (case side2 => exact u13_ HB HI352 GE349 GE364)
 rintro e w21 ⟨rfl,hi,hb,hk⟩
 refine ⟨_,rfl,?_⟩
 have n0_:=mk_ (KeepBut.blk hk (g':=gb349) (o:=.cells #[.int .i64 0,.slice none 0 0,.slice none 0 0,.slice none 0 0] 30 (0,0)) (qk_ BK349) NB349_352.out (by simp))
 have n1_:=mk_ (rm_ (Kd.R_keep (IsS84.apart (show IsS84 w _ g352 t350 t368 from u12_ HI352 NB352_349 NB352_364) (qr_ HO356) (by decide)) hk (fun _ h => h.2)) (fun _ h => h.1))
 have n2_:=mk_ (rm_ (Kd.R_keep (IsS84.apart (show IsS84 w _ g352 t350 t368 from u12_ HI352 NB352_349 NB352_364) (qr_ HO359) (by decide)) hk (fun _ h => h.2)) (fun _ h => h.1))
 have n3_:=mk_ (Kd.Q_mono (Kd.Q_keep (IsS84.apartQ (show IsS84 w _ g352 t350 t368 from u12_ HI352 NB352_349 NB352_364) (by (with_reducible repeat (first|apply Kd.Q_alloc|apply Kd.Q_drewN|apply Kd.Q_drew));exact HO362.out) (by decide)) hk (fun _ h => h.2)) (fun _ h => h.1))
 have n4_:=mk_ (KeepBut.blk hk (g':=gb364) (o:=.cells #[.int .i64 t353,.slice Ao14 t354.length co14,.slice Ao15 t357.length co15,.slice Ao16 t360.length co16] 30 (0,0)) (qk_ BK364) NB364_352.out (by simp))
 have n5_:=mk_ (hb)
 have n6_:=mk_ (hi)
 clear BK349
 clear HO356
 clear HO359
 clear HO362
 clear BK364
 clear HB
 clear HI352
 have BK349:=n0_
 have HO356:=n1_
 have HO359:=n2_
 have HO362:=n3_
 have BK364:=n4_
 have HB:=n5_
 have HI352:=n6_
 clear n0_ n1_ n2_ n3_ n4_ n5_ n6_
 (try clear hb)
 (try clear hb2)
 (try clear hk)
 (try clear hi)
 refine hK.out _ _ ⟨(bc_ BK364.out 0).trans rfl,(bc_ BK364.out 1).trans rfl,(bc_ BK364.out 2).trans rfl,(bc_ BK364.out 3).trans rfl⟩ (fun hHeld => ?_)
 clear hK K
 refine norm_ (a':=?_) ?_ ?_
 rotate_left
 ·show Act.put _ (some 25) _ = _
  simp only [Act.put,sx_,sy_,sz_,i64_w,i32_w]
  rfl
 refine pure_ (i:=15) (N:=some 26) (v:=?_) (a':=?_) #[true,true,true,true,true,true,true,true,true,true,true,true,true,true,true,true,false,false,false,false] rfl rfl (any_of HT_.out (by kernel_rfl)) (fun _ _ _ h => h) (Or.inl ⟨by rfl,?_⟩) ?_ ?_
 rotate_left
 ·intro w'
  go_simp
  with_reducible rfl
 rotate_left
 ·simp only [Act.put,sx_,sy_,sz_,i64_w,i32_w]
  rfl
 refine pure_ (i:=16) (N:=some 27) (v:=?_) (a':=?_) #[true,true,true,true,true,true,true,true,true,true,true,true,true,true,true,true,true,false,false,false] rfl rfl (any_of HT_.out (by kernel_rfl)) (fun _ _ _ h => h) (Or.inl ⟨by rfl,?_⟩) ?_ ?_
 rotate_left
 ·intro w'
  go_simp
  with_reducible rfl
 rotate_left
 ·simp only [Act.put,sx_,sy_,sz_,i64_w,i32_w]
  rfl
 refine one_ (i:=17) (N:=none) #[true,true,true,true,true,true,true,true,true,true,true,true,true,true,true,true,true,true,false,false] rfl rfl (one_of HT_.out (by kernel_rfl)) (by decide) (fun K hK => ?_)
 have hs22 : w21.cell? ⟨gb349,0,none⟩ = some (.int .i64 0):=(bc_ BK349.out 0).trans rfl
 have hfs22:=bf_ BK349.out 0
 have hns22_1:=NB364_349.out
 have hms22_1:=NB349_364.out
 have hs23 : w21.cell? ⟨gb349,1,none⟩ = some (.slice none 0 0):=(bc_ BK349.out 1).trans rfl
 have hfs23:=bf_ BK349.out 1
 have hns23_1:=NB364_349.out
 have hms23_1:=NB349_364.out
 have hs24 : w21.cell? ⟨gb349,2,none⟩ = some (.slice none 0 0):=(bc_ BK349.out 2).trans rfl
 have hfs24:=bf_ BK349.out 2
 have hns24_1:=NB364_349.out
 have hms24_1:=NB349_364.out
 have hs25 : w21.cell? ⟨gb349,3,none⟩ = some (.slice none 0 0):=(bc_ BK349.out 3).trans rfl
 have hfs25:=bf_ BK349.out 3
 have hns25_1:=NB364_349.out
 have hms25_1:=NB349_364.out
 refine skip_ (w1:=?_) (by rfl) rfl ?_ ?_
 rotate_left
 ·go_simp
  rfl
 refine hK.out _ _ ⟨((cell_far (p:=⟨gb349,_,none⟩) NB364_349.out _).trans (((cell_far (p:=⟨gb349,_,none⟩) NB364_349.out _).trans (((cell_far (p:=⟨gb349,_,none⟩) NB364_349.out _).trans (((cell_far (p:=⟨gb349,_,none⟩) NB364_349.out _).trans (hHeld.1)))))))),((cell_far (p:=⟨gb349,_,none⟩) NB364_349.out _).trans (((cell_far (p:=⟨gb349,_,none⟩) NB364_349.out _).trans (((cell_far (p:=⟨gb349,_,none⟩) NB364_349.out _).trans (((cell_far (p:=⟨gb349,_,none⟩) NB364_349.out _).trans (hHeld.2.1)))))))),((cell_far (p:=⟨gb349,_,none⟩) NB364_349.out _).trans (((cell_far (p:=⟨gb349,_,none⟩) NB364_349.out _).trans (((cell_far (p:=⟨gb349,_,none⟩) NB364_349.out _).trans (((cell_far (p:=⟨gb349,_,none⟩) NB364_349.out _).trans (hHeld.2.2.1)))))))),((cell_far (p:=⟨gb349,_,none⟩) NB364_349.out _).trans (((cell_far (p:=⟨gb349,_,none⟩) NB364_349.out _).trans (((cell_far (p:=⟨gb349,_,none⟩) NB364_349.out _).trans (((cell_far (p:=⟨gb349,_,none⟩) NB364_349.out _).trans (hHeld.2.2.2))))))))⟩ (fun hHeld => ?_)
 clear hK K
 refine pure_ (i:=18) (N:=some 3) (v:=?_) (a':=?_) #[true,true,true,true,true,true,true,true,true,true,true,true,true,true,true,true,true,true,true,false] rfl rfl (any_of HT_.out (by kernel_rfl)) (fun _ _ _ h => h) (Or.inl ⟨by rfl,?_⟩) ?_ ?_
 rotate_left
 ·intro w'
  go_simp
  with_reducible rfl
 rotate_left
 ·simp only [Act.put,sx_,sy_,sz_,i64_w,i32_w]
  rfl
 refine pure_ (i:=19) (N:=some 4) (v:=?_) (a':=?_) #[true,true,true,true,true,true,true,true,true,true,true,true,true,true,true,true,true,true,true,true] rfl rfl (any_of HT_.out (by kernel_rfl)) (fun _ _ _ h => h) (Or.inl ⟨by rfl,?_⟩) ?_ ?_
 rotate_left
 ·intro w'
  go_simp
  with_reducible rfl
 rotate_left
 ·simp only [Act.put,sx_,sy_,sz_,i64_w,i32_w]
  rfl
 refine done_ (done_of HT_.out (by kernel_rfl)) ?_
 try go_wp2
 refine bodyPost_ret (results_ctt rfl _ _ gb349 30 #[.int .i64 t353,.slice Ao14 t354.length co14,.slice Ao15 t357.length co15,.slice Ao16 t360.length co16] (0,0) _ rfl (by (with_reducible repeat (first|refine kn_ ?_ _|refine kd_ ?_|refine ka_ ?_ _));refine blk_put (cs:=#[.int .i64 t353,.slice Ao14 t354.length co14,.slice Ao15 t357.length co15,.slice none 0 0]) ?_ 3 _ rfl;(with_reducible repeat (first|refine kn_ ?_ _|refine kd_ ?_|refine ka_ ?_ _));refine blk_put (cs:=#[.int .i64 t353,.slice Ao14 t354.length co14,.slice none 0 0,.slice none 0 0]) ?_ 2 _ rfl;(with_reducible repeat (first|refine kn_ ?_ _|refine kd_ ?_|refine ka_ ?_ _));refine blk_put (cs:=#[.int .i64 t353,.slice none 0 0,.slice none 0 0,.slice none 0 0]) ?_ 1 _ rfl;(with_reducible repeat (first|refine kn_ ?_ _|refine kd_ ?_|refine ka_ ?_ _));refine blk_put (cs:=#[.int .i64 0,.slice none 0 0,.slice none 0 0,.slice none 0 0]) ?_ 0 _ rfl;(with_reducible repeat (first|refine kn_ ?_ _|refine kd_ ?_|refine ka_ ?_ _));exact BK349.out) Try.underlying30 rfl (by kernel_rfl)) rfl ?_
 exact ⟨_,_,_,qe_,by (with_reducible repeat (first|apply ra_|apply rn_|apply rd_));exact rm_ (rf_ (p:=⟨gb349,3,none⟩) (rf_ (p:=⟨gb349,2,none⟩) (rf_ (p:=⟨gb349,1,none⟩) (rf_ (p:=⟨gb349,0,none⟩) (rt_ HO356.out BK349.out (by decide)) (fun _ hk => hk.2) (.int .i64 t353)) (fun _ hk => hk.2) (.slice Ao14 t354.length co14)) (fun _ hk => hk.2) (.slice Ao15 t357.length co15)) (fun _ hk => hk.2) (.slice Ao16 t360.length co16)) (fun _ hk => trivial),by (with_reducible repeat (first|apply ra_|apply rn_|apply rd_));exact rm_ (rf_ (p:=⟨gb349,3,none⟩) (rf_ (p:=⟨gb349,2,none⟩) (rf_ (p:=⟨gb349,1,none⟩) (rf_ (p:=⟨gb349,0,none⟩) (rt_ HO359.out BK349.out (by decide)) (fun _ hk => hk.2) (.int .i64 t353)) (fun _ hk => hk.2) (.slice Ao14 t354.length co14)) (fun _ hk => hk.2) (.slice Ao15 t357.length co15)) (fun _ hk => hk.2) (.slice Ao16 t360.length co16)) (fun _ hk => hk.1),by (with_reducible repeat (first|apply Kd.Q_alloc|apply Kd.Q_drewN|apply Kd.Q_drew));exact Kd.Q_mono (Kd.Q_far (p:=⟨gb349,3,none⟩) (Kd.Q_far (p:=⟨gb349,2,none⟩) (Kd.Q_far (p:=⟨gb349,1,none⟩) (Kd.Q_far (p:=⟨gb349,0,none⟩) (Kd.Q_types HO362.out BK349.out (by decide)) (fun _ hk => hk.2) (.int .i64 t353)) (fun _ hk => hk.2) (.slice Ao14 t354.length co14)) (fun _ hk => hk.2) (.slice Ao15 t357.length co15)) (fun _ hk => hk.2) (.slice Ao16 t360.length co16)) (fun _ hk => hk.1),u13_ HB HI352 GE349 GE364⟩

/-! ### impl_Net_ups: function 66 -/
def impl_Net_ups.l0 : Nat → Int → List Int → List Int → Int → List (S51) → List Int → List Int → Option (List Int)
 | 0,_,_,_,_,_,_,_ => none
 | k + 1,x1,x5,x6,x372000,x372001,x372002,x372003 => (impl_upOf.f k x372001 x5 x1).bind fun bt375 => (if bt375.1 < 0 then (some x6) else (if x6.length < 17592186044416 then (impl_Net_ups.l0 k bt375.2 x5 (x6 ++ [bt375.1]) x372000 x372001 x372002 x372003) else (none)))
def impl_Net_ups.f (k : Nat) (a0_0 : Int) (l0_1 : List (S51)) (l0_2 : List Int) (l0_3 : List Int) (a1 : Int) : Option (List Int):=(impl_costsOf.f k a0_0 l0_1).bind fun t372 => (impl_Net_ups.l0 k a1 t372 ([] : List Int) a0_0 l0_1 l0_2 l0_3)
theorem impl_Net_ups.mono_l : ∀ k,(∀ y0 y1 y2 y3 y4 y5 y6,LeO (impl_Net_ups.l0 k y0 y1 y2 y3 y4 y5 y6) (impl_Net_ups.l0 (k + 1) y0 y1 y2 y3 y4 y5 y6))
 | 0 => fun _ _ _ _ _ _ _ r h => by simp [impl_Net_ups.l0] at h
 | k + 1 => by
  have ih0:=impl_Net_ups.mono_l k
  ·intro y0 y1 y2 y3 y4 y5 y6
   unfold impl_Net_ups.l0
   repeat' first
   | (with_reducible exact ih0 _ _ _ _ _ _ _)
   | (with_reducible exact impl_costsOf.mono _ _ _)
   | (with_reducible exact impl_upOf.mono _ _ _ _)
   | (with_reducible exact LeO.refl _)
   | (with_reducible exact LeO.none _)
   | (with_reducible refine LeO.ite ?_ ?_)
   | (with_reducible refine LeO.bind ?_ (fun _ => ?_))
   | exact ih0 _ _ _ _ _ _ _
   | exact impl_costsOf.mono _ _ _
   | exact impl_upOf.mono _ _ _ _
   | exact LeO.none _
   | refine LeO.ite ?_ ?_
   | refine LeO.bind ?_ (fun _ => ?_)
theorem impl_Net_ups.mono : ∀ a0 a1 a2 a3 a4 k,LeO (impl_Net_ups.f k a0 a1 a2 a3 a4) (impl_Net_ups.f (k + 1) a0 a1 a2 a3 a4):=by
 intro a0 a1 a2 a3 a4 k
 have ih0:=impl_Net_ups.mono_l k
 unfold impl_Net_ups.f
 repeat' first
   | (with_reducible exact ih0 _ _ _ _ _ _ _)
   | (with_reducible exact impl_costsOf.mono _ _ _)
   | (with_reducible exact impl_upOf.mono _ _ _ _)
   | (with_reducible exact LeO.refl _)
   | (with_reducible exact LeO.none _)
   | (with_reducible refine LeO.ite ?_ ?_)
   | (with_reducible refine LeO.bind ?_ (fun _ => ?_))
   | exact ih0 _ _ _ _ _ _ _
   | exact impl_costsOf.mono _ _ _
   | exact impl_upOf.mono _ _ _ _
   | exact LeO.none _
   | refine LeO.ite ?_ ?_
   | refine LeO.bind ?_ (fun _ => ?_)
set_option maxHeartbeats 8000000 in
set_option maxRecDepth 100000 in
theorem impl_Net_ups.calls (k : Nat) (a0_0 : Int) (A0_1 : Option Addr) (c0_1 : Nat) (l0_1 : List (S51)) (A0_2 : Option Addr) (c0_2 : Nat) (l0_2 : List Int) (A0_3 : Option Addr) (c0_3 : Nat) (l0_3 : List Int) (a1 : Int) (r : List Int) (w : World) (hr0_1 : Kd.C k51 w A0_1 l0_1.length l0_1) (hc0_1 : l0_1.length ≤ c0_1) (hr0_2 : Kd.C (Kd.int .i64) w A0_2 l0_2.length l0_2) (hc0_2 : l0_2.length ≤ c0_2) (hr0_3 : Kd.C (Kd.int .i64) w A0_3 l0_3.length l0_3) (hc0_3 : l0_3.length ≤ c0_3) (h : impl_Net_ups.f k a0_0 l0_1 l0_2 l0_3 a1 = some r) :
  Calls Try.prog 66 #[.agg #[.int .i64 a0_0,.slice A0_1 l0_1.length c0_1,.slice A0_2 l0_2.length c0_2,.slice A0_3 l0_3.length c0_3],.int .i64 a1] w fun e w' => ∃ v0_ : Value,e = .returned (v0_) ∧ Kd.R (Kd.int .i64) 3 w' w.heap.size (fun _ => True) v0_ r ∧ Below w.heap.size w w':=by
 have hu30:=Try.underlying30
 have HR0_1:=mk_ hr0_1
 have HC0_1:=mk_ hc0_1
 clear hr0_1 hc0_1
 have HR0_2:=mk_ hr0_2
 have HC0_2:=mk_ hc0_2
 clear hr0_2 hc0_2
 have HR0_3:=mk_ hr0_3
 have HC0_3:=mk_ hc0_3
 clear hr0_3 hc0_3
 have HB:=mk_ (Below.refl w.heap.size w)
 have H : ((impl_costsOf.f k a0_0 l0_1).bind fun t372 => (impl_Net_ups.l0 k a1 t372 ([] : List Int) a0_0 l0_1 l0_2 l0_3)) = some r:=h
 clear h
 replace H:=Option.bind_eq_some_iff.mp H
 obtain ⟨t372,A30,H⟩:=H
 replace H : (impl_Net_ups.l0 k a1 t372 ([] : List Int) a0_0 l0_1 l0_2 l0_3) = some r:=H
 have A3:=mk_ A30
 clear A30
 have H':=mk_ H
 clear H
 go_enter Try.func66,Try.ntmps66
 go_wp2_with (first|((with_reducible refine gate_dst (N:=2) rfl ?_);refine box_event ?hg (N:=2) ?hd (cs:=#[.int .i64 a0_0,.slice A0_1 l0_1.length c0_1,.slice A0_2 l0_2.length c0_2,.slice A0_3 l0_3.length c0_3]) (t:=30) ?hr ?_;(case hd => rfl);(case hg => rfl);(case hr => first|(go_simp;done)|(go_simp;rfl));intro gb371 hg w4 hbox hb;have n0_:=mk_ (st_ (qb_ HB) hb);have n1_:=mk_ (hbox);have n2_:=mk_ ((by rw [hg];exact (bz_ (qb_ HB)) : w.heap.size ≤ gb371));have n3_:=mk_ ((by rw [hg];exact (bz_ (qb_ HB)) : w.heap.size ≤ gb371));clear HB;have HB:=n0_;have BK371:=n1_;have GW371:=n2_;have GE371:=n3_;clear n0_ n1_ n2_ n3_;clear hb hbox hg;have hcz5_0 : w4.cell? ⟨gb371,0,none⟩ = some (.int .i64 a0_0):=(bc_ BK371.out 0).trans rfl;have hcz5_1 : w4.cell? ⟨gb371,1,none⟩ = some (.slice A0_1 l0_1.length c0_1):=(bc_ BK371.out 1).trans rfl;have hcz5_2 : w4.cell? ⟨gb371,2,none⟩ = some (.slice A0_2 l0_2.length c0_2):=(bc_ BK371.out 2).trans rfl;have hcz5_3 : w4.cell? ⟨gb371,3,none⟩ = some (.slice A0_3 l0_3.length c0_3):=(bc_ BK371.out 3).trans rfl;have hfz5_0:=bf_ BK371.out 0;have hfz5_1:=bf_ BK371.out 1;have hfz5_2:=bf_ BK371.out 2;have hfz5_3:=bf_ BK371.out 3)|((with_reducible refine gate_callee (f:=62) rfl ?_);refine goesL_ (some 13) rfl rfl Try.func62 (by kernel_rfl) rfl #[.int .i64 a0_0,.slice A0_1 l0_1.length c0_1] rfl qm_ ?_;(with_reducible refine (impl_costsOf.calls k a0_0 _ _ l0_1 t372 _ ?side1 ?side2 A3.out).mono ?_);(case side1 => exact qn_ HR0_1 HB);(case side2 => exact HC0_1.out);rintro e w6 ⟨v373,rfl,ho0,hb⟩;refine ⟨_,rfl,?_⟩;have n0_:=mk_ (Kd.R_lower ho0 (bz_ (qc_ HB GE371)));have n1_:=mk_ (blk_below (g:=gb371) (o:=.cells #[.int .i64 a0_0,.slice A0_1 l0_1.length c0_1,.slice A0_2 l0_2.length c0_2,.slice A0_3 l0_3.length c0_3] 30 (0,0)) (qk_ BK371) hb);have n2_:=mk_ (st_ (qc_ HB GE371) hb);clear BK371;clear HB;have HO374:=n0_;have BK371:=n1_;have HB:=n2_;clear n0_ n1_ n2_;(try clear hb);(try clear hb2);(try clear hk);(try clear hi);(try clear ho0)))
 go_loopg [1,6] k (fun kq v1 v6 w' => ∃ (x1_1 : Int) (x6_1 : List Int),v1 = .int .i64 x1_1 ∧ Aside0 (impl_Net_ups.l0 kq x1_1 t372 x6_1 a0_0 l0_1 l0_2 l0_3 = some r) ∧ Aside0 (kq ≤ k) ∧ Aside0 (Kd.R (Kd.int .i64) 3 w' w.heap.size (fun k_ => some k_ ≠ (v6 : Value).ownBlock) v373 t372) ∧ Aside0 (Kd.R (Kd.int .i64) 3 w' w.heap.size (fun k_ => some k_ ≠ (v373 : Value).ownBlock) v6 x6_1) ∧ Aside0 (w'.heap[gb371]? = some (.cells #[.int .i64 a0_0,(.slice A0_1 l0_1.length c0_1),(.slice A0_2 l0_2.length c0_2),(.slice A0_3 l0_3.length c0_3)] 30 (0,0))) ∧ Aside0 (Below w.heap.size w w'))
 case atStart => exact ⟨(a1),(([] : List Int)),qf_,H',⟨Nat.le_refl _⟩,⟨by (with_reducible repeat (first|apply ra_|apply rn_|apply rd_));exact rm_ HO374.out (fun _ hk => (by simp [Value.ownBlock]))⟩,⟨by first|exact Kd.R_nil _ _ _ _ _|exact Kd.N_nil _ _ _ _ _|exact Kd.V_nil _ _ _ _ _|exact Kd.Q_nil _ _ _ _ _|exact Kd.S_nil _ _ _ _ _⟩,⟨qk_ BK371⟩,⟨u1_ HB GE371⟩⟩
 case round =>
  clear H'
  try clear p2
  try clear c6
  try clear hcz5_0
  try clear hcz5_1
  try clear hcz5_2
  try clear hcz5_3
  try clear hfz5_0
  try clear hfz5_1
  try clear hfz5_2
  try clear hfz5_3
  obtain ⟨x1_1,x6_1,rfl,HA,HK1,HO_5,HO_6,BK371,HB⟩:=hrel
  cases gk with
  | zero => exact absurd HA.out (by simp [impl_Net_ups.l0])
  | succ k1 =>
   have H:=HA.out
   clear HA
   simp only [impl_Net_ups.l0] at H
   replace H:=Option.bind_eq_some_iff.mp H
   obtain ⟨⟨t375,t376⟩,A70,H⟩:=H
   replace H : (if t375 < 0 then (some x6_1) else (if x6_1.length < 17592186044416 then (impl_Net_ups.l0 k1 t376 t372 (x6_1 ++ [t375]) a0_0 l0_1 l0_2 l0_3) else (none))) = some r:=H
   have A7:=mk_ A70
   clear A70
   by_cases c8 : t375 < 0
   ·rw [if_pos c8] at H
    have c8b0 : decide (t375 < 0) = true:=decide_eq_true c8
    clear c8
    obtain rfl:=Option.some.inj H
    have hcz9_0 : wr.cell? ⟨gb371,0,none⟩ = some (.int .i64 a0_0):=(bc_ BK371.out 0).trans rfl
    have hcz9_1 : wr.cell? ⟨gb371,1,none⟩ = some (.slice A0_1 l0_1.length c0_1):=(bc_ BK371.out 1).trans rfl
    have hcz9_2 : wr.cell? ⟨gb371,2,none⟩ = some (.slice A0_2 l0_2.length c0_2):=(bc_ BK371.out 2).trans rfl
    have hcz9_3 : wr.cell? ⟨gb371,3,none⟩ = some (.slice A0_3 l0_3.length c0_3):=(bc_ BK371.out 3).trans rfl
    have hfz9_0:=bf_ BK371.out 0
    have hfz9_1:=bf_ BK371.out 1
    have hfz9_2:=bf_ BK371.out 2
    have hfz9_3:=bf_ BK371.out 3
    obtain ⟨Ao10,co10,eo10⟩:=Kd.R_slice HO_5.out
    subst eo10
    go_wp2_with (first|((with_reducible refine gate_callee (f:=63) rfl ?_);refine goesL_ (some 19) rfl rfl Try.func63 (by kernel_rfl) rfl #[.slice A0_1 l0_1.length c0_1,.slice Ao10 t372.length co10,.int .i64 x1_1] rfl qm_ ?_;(with_reducible refine (impl_upOf.calls k1 _ _ l0_1 _ _ t372 x1_1 t375 t376 _ ?side1 ?side2 ?side3 ?side4 A7.out).mono ?_);(case side1 => exact qn_ HR0_1 HB);(case side2 => exact HC0_1.out);(case side3 => repeat (first|exact (rr_ HO_5.out).2.2|(with_reducible refine ca_ ?_ _)|(with_reducible refine cn_ ?_ _)|(with_reducible refine cd_ ?_)));(case side4 => exact (rr_ HO_5.out).2.1);rintro e w11 ⟨rfl,hb⟩;refine ⟨_,rfl,?_⟩;have n0_:=mk_ (rb_ (qr_ HO_5) hb);have n1_:=mk_ (rb_ (qr_ HO_6) hb);have n2_:=mk_ (blk_below (g:=gb371) (o:=.cells #[.int .i64 a0_0,.slice A0_1 l0_1.length c0_1,.slice A0_2 l0_2.length c0_2,.slice A0_3 l0_3.length c0_3] 30 (0,0)) (qk_ BK371) hb);have n3_:=mk_ (st_ (qc_ HB GE371) hb);clear HO_5;clear HO_6;clear BK371;clear HB;have HO_5:=n0_;have HO_6:=n1_;have BK371:=n2_;have HB:=n3_;clear n0_ n1_ n2_ n3_;(try clear hb);(try clear hb2);(try clear hk);(try clear hi)))
    go_ret
    exact ⟨_,qe_,by (with_reducible repeat (first|apply ra_|apply rn_|apply rd_));exact rm_ HO_6.out (fun _ hk => trivial),u1_ HB GE371⟩
   ·rw [if_neg c8] at H
    have c8b0 : decide (t375 < 0) = false:=decide_eq_false c8
    clear c8
    by_cases c12 : x6_1.length < 17592186044416
    ·rw [if_pos c12] at H
     have LMc12:=mk_ c12
     clear c12
     obtain ⟨y377,hy377⟩ : ∃ y_ : List Int,y_ = (x6_1 ++ [t375]):=⟨_,rfl⟩
     replace H : (impl_Net_ups.l0 k1 t376 t372 y377 a0_0 l0_1 l0_2 l0_3) = some r:=by first|(rw [hy377];with_reducible exact H)|(have H2_:=(Option.bind_some _ _).symm.trans H;rw [hy377];with_reducible exact H2_)|(have H2_:=(Option.bind_some _ _).symm.trans H;with_reducible exact H2_)|with_reducible exact H|(rw [hy377];exact H)|exact H
     have Ny377:=mk_ hy377
     clear hy377
     have H':=mk_ H
     clear H
     have hcz13_0 : wr.cell? ⟨gb371,0,none⟩ = some (.int .i64 a0_0):=(bc_ BK371.out 0).trans rfl
     have hcz13_1 : wr.cell? ⟨gb371,1,none⟩ = some (.slice A0_1 l0_1.length c0_1):=(bc_ BK371.out 1).trans rfl
     have hcz13_2 : wr.cell? ⟨gb371,2,none⟩ = some (.slice A0_2 l0_2.length c0_2):=(bc_ BK371.out 2).trans rfl
     have hcz13_3 : wr.cell? ⟨gb371,3,none⟩ = some (.slice A0_3 l0_3.length c0_3):=(bc_ BK371.out 3).trans rfl
     have hfz13_0:=bf_ BK371.out 0
     have hfz13_1:=bf_ BK371.out 1
     have hfz13_2:=bf_ BK371.out 2
     have hfz13_3:=bf_ BK371.out 3
     obtain ⟨Ao14,co14,eo14⟩:=Kd.R_slice HO_5.out
     subst eo14
     go_wp2_with (first|((with_reducible refine gate_callee (f:=63) rfl ?_);refine goesL_ (some 19) rfl rfl Try.func63 (by kernel_rfl) rfl #[.slice A0_1 l0_1.length c0_1,.slice Ao14 t372.length co14,.int .i64 x1_1] rfl qm_ ?_;(with_reducible refine (impl_upOf.calls k1 _ _ l0_1 _ _ t372 x1_1 t375 t376 _ ?side1 ?side2 ?side3 ?side4 A7.out).mono ?_);(case side1 => exact qn_ HR0_1 HB);(case side2 => exact HC0_1.out);(case side3 => repeat (first|exact (rr_ HO_5.out).2.2|(with_reducible refine ca_ ?_ _)|(with_reducible refine cn_ ?_ _)|(with_reducible refine cd_ ?_)));(case side4 => exact (rr_ HO_5.out).2.1);rintro e w15 ⟨rfl,hb⟩;refine ⟨_,rfl,?_⟩;have n0_:=mk_ (rb_ (qr_ HO_5) hb);have n1_:=mk_ (rb_ (qr_ HO_6) hb);have n2_:=mk_ (blk_below (g:=gb371) (o:=.cells #[.int .i64 a0_0,.slice A0_1 l0_1.length c0_1,.slice A0_2 l0_2.length c0_2,.slice A0_3 l0_3.length c0_3] 30 (0,0)) (qk_ BK371) hb);have n3_:=mk_ (st_ (qc_ HB GE371) hb);clear HO_5;clear HO_6;clear BK371;clear HB;have HO_5:=n0_;have HO_6:=n1_;have BK371:=n2_;have HB:=n3_;clear n0_ n1_ n2_ n3_;(try clear hb);(try clear hb2);(try clear hk);(try clear hi))|((with_reducible refine gate_builtin (b:=.append) (xs:=#[.tmp 25,.tmp 27]) rfl ?_);at_builtin;refine Kd.R_append (Kd.int .i64) (w0:=w) w.heap.size rfl (.tmp 25) (.tmp 27) 23 3 (.int .i64 0) 8 rfl Try.underlying23 info3 rfl (by decide) (by omega) u6 x6_1 t375 [.int .i64 t375] (fun k_ => some k_ ≠ (.slice Ao14 t372.length co14 : Value).ownBlock) (fun _ => False) rfl rfl ?aP (fun _ hk => hk.elim) ?aF ?aO ?aB ?aS ?aL ?_;(case aP => exact rfl);(case aB => exact (qc_ HB GE371));(case aF => exact (fun k_ hk => Kd.fresh' (Kd.R_lt (qr_ HO_5)) k_ hk));(case aO => exact (qr_ HO_6));(case aS => exact (bz_ (qc_ HB GE371)));(case aL => have:=LMc12.out;omega);intro v378 w16 ho hb hg hat;rw [← Ny377.out] at ho;have n0_:=mk_ (Kd.R_after (ok:=(fun _ => True)) (by (with_reducible repeat (first|apply ra_|apply rn_|apply rd_));exact rm_ HO_5.out (fun _ hk => ⟨trivial,hk⟩)) hg hat);have n1_:=mk_ (blk_grown (g:=gb371) (o:=.cells #[.int .i64 a0_0,.slice A0_1 l0_1.length c0_1,.slice A0_2 l0_2.length c0_2,.slice A0_3 l0_3.length c0_3] 30 (0,0)) (qk_ BK371) hg (Kd.R_ne HO_6.out BK371.out (by decide)));have n2_:=mk_ (hb);have n3_:=mk_ (ho);clear HO_5;clear BK371;clear HB;clear HO_6;have HO_5:=n0_;have BK371:=n1_;have HB:=n2_;have HO379:=n3_;clear n0_ n1_ n2_ n3_;clear ho hb hg hat))
     go_roundg k1
     case measure => have:=HK1.out;omega
     case rel => exact ⟨(t376),(y377),qf_,H',⟨by have:=HK1.out;omega⟩,⟨by (with_reducible repeat (first|apply ra_|apply rn_|apply rd_));exact rm_ HO_5.out (fun _ hk => hk.2)⟩,⟨qr_ HO379⟩,⟨qk_ BK371⟩,⟨u1_ HB GE371⟩⟩
    ·rw [if_neg c12] at H
     exact absurd H (by simp)

/-! ### slices_Index_int_int: function 87 -/
def slices_Index_int_int.l0 : Nat → List Int → Int → Int → Int → Option (Int)
 | 0,_,_,_,_ => none
 | k + 1,x0,x1,x7,x8 => if x8 < x7 then (if 0 ≤ x8 then (if x8 < (x0.length : Int) then (if x1 = (rd x0 x8) then (some x8) else (slices_Index_int_int.l0 k x0 x1 x7 (wrap64 (x8 + 1)))) else (none)) else (none)) else (some (-1))
def slices_Index_int_int.f (k : Nat) (l0 : List Int) (a1 : Int) : Option (Int):=slices_Index_int_int.l0 k l0 a1 (l0.length : Int) 0
theorem slices_Index_int_int.mono_l : ∀ k,(∀ y0 y1 y2 y3,LeO (slices_Index_int_int.l0 k y0 y1 y2 y3) (slices_Index_int_int.l0 (k + 1) y0 y1 y2 y3))
 | 0 => fun _ _ _ _ r h => by simp [slices_Index_int_int.l0] at h
 | k + 1 => by
  have ih0:=slices_Index_int_int.mono_l k
  ·intro y0 y1 y2 y3
   unfold slices_Index_int_int.l0
   repeat' first
   | (with_reducible exact ih0 _ _ _ _)
   | (with_reducible exact LeO.refl _)
   | (with_reducible exact LeO.none _)
   | (with_reducible refine LeO.ite ?_ ?_)
   | (with_reducible refine LeO.bind ?_ (fun _ => ?_))
   | exact ih0 _ _ _ _
   | exact LeO.none _
   | refine LeO.ite ?_ ?_
   | refine LeO.bind ?_ (fun _ => ?_)
theorem slices_Index_int_int.mono : ∀ a0 a1 k,LeO (slices_Index_int_int.f k a0 a1) (slices_Index_int_int.f (k + 1) a0 a1):=by
 intro a0 a1 k
 have ih0:=slices_Index_int_int.mono_l k
 unfold slices_Index_int_int.f
 repeat' first
   | (with_reducible exact ih0 _ _ _ _)
   | (with_reducible exact LeO.refl _)
   | (with_reducible exact LeO.none _)
   | (with_reducible refine LeO.ite ?_ ?_)
   | (with_reducible refine LeO.bind ?_ (fun _ => ?_))
   | exact ih0 _ _ _ _
   | exact LeO.none _
   | refine LeO.ite ?_ ?_
   | refine LeO.bind ?_ (fun _ => ?_)
set_option maxHeartbeats 8000000 in
set_option maxRecDepth 100000 in
theorem slices_Index_int_int.calls (k : Nat) (A0 : Option Addr) (c0 : Nat) (l0 : List Int) (a1 : Int) (r : Int) (w : World) (hr0 : Kd.C (Kd.int .i64) w A0 l0.length l0) (hc0 : l0.length ≤ c0) (h : slices_Index_int_int.f k l0 a1 = some r) :
  Calls Try.prog 87 #[.slice A0 l0.length c0,.int .i64 a1] w fun e w' => e = .returned (.int .i64 r) ∧ Drawn0 w w':=by
 have HR0:=mk_ hr0
 have HC0:=mk_ hc0
 clear hr0 hc0
 have H : (slices_Index_int_int.l0 k l0 a1 (l0.length : Int) 0) = some r:=h
 clear h
 have H':=mk_ H
 clear H
 go_enter Try.func87,Try.ntmps87
 go_wp2
 go_loopg [8] k (fun kq v8 w' => ∃ (x8_1 : Int),v8 = .int .i64 x8_1 ∧ Aside0 (slices_Index_int_int.l0 kq l0 a1 (l0.length : Int) x8_1 = some r) ∧ Aside0 (kq ≤ k) ∧ Drawn0 w w')
 case atStart => exact ⟨(0),qf_,H',⟨Nat.le_refl _⟩,by repeat (first|exact Drawn0.refl _|apply Drawn0.step)⟩
 case round =>
  clear H'
  try clear p2
  obtain ⟨x8_1,rfl,HA,HK1,⟨m1,rfl⟩⟩:=hrel
  cases gk with
  | zero => exact absurd HA.out (by simp [slices_Index_int_int.l0])
  | succ k1 =>
   have H:=HA.out
   clear HA
   simp only [slices_Index_int_int.l0] at H
   by_cases c3 : x8_1 < (l0.length : Int)
   ·rw [if_pos c3] at H
    have c3b0 : decide (x8_1 < (l0.length : Int)) = true:=decide_eq_true c3
    clear c3
    by_cases c4 : 0 ≤ x8_1
    ·rw [if_pos c4] at H
     have c4b0 : decide (0 ≤ x8_1) = true:=decide_eq_true c4
     clear c4
     by_cases c5 : x8_1 < (l0.length : Int)
     ·rw [if_pos c5] at H
      have c5b0 : decide (x8_1 < (l0.length : Int)) = true:=decide_eq_true c5
      clear c5
      by_cases c6 : a1 = (rd l0 x8_1)
      ·rw [if_pos c6] at H
       have c6b0 : (a1 == (rd l0 x8_1)) = true:=beq_iff_eq.mpr c6
       have c6b1 : (a1 != (rd l0 x8_1)) = false:=bne_eq_false_iff_eq.mpr c6
       clear c6
       obtain rfl:=Option.some.inj H
       have p380 : 0 ≤ (x8_1 : Int):=od_ qa_
       have q380 : x8_1 < (l0.length : Int):=od_ qa_
       obtain ⟨ad380,e380,hx380_0⟩:=Kd.at_int HR0.out x8_1 p380 q380
       cases e380
       replace p380:=eq_true p380
       replace q380:=eq_true q380
       go_wp2
       go_ret
       exact ⟨by first|rfl|(simp;done)|(simp [*];done),by repeat (first|exact Drawn0.refl _|apply Drawn0.step)⟩
      ·rw [if_neg c6] at H
       have c6b0 : (a1 == (rd l0 x8_1)) = false:=beq_eq_false_iff_ne.mpr c6
       have c6b1 : (a1 != (rd l0 x8_1)) = true:=bne_iff_ne.mpr c6
       have H':=mk_ H
       clear H
       have p380 : 0 ≤ (x8_1 : Int):=od_ qa_
       have q380 : x8_1 < (l0.length : Int):=od_ qa_
       obtain ⟨ad380,e380,hx380_0⟩:=Kd.at_int HR0.out x8_1 p380 q380
       cases e380
       replace p380:=eq_true p380
       replace q380:=eq_true q380
       go_wp2
       go_roundg k1
       case measure => have:=HK1.out;omega
       case rel => exact ⟨(wrap64 (x8_1 + 1)),qf_,H',⟨by have:=HK1.out;omega⟩,by repeat (first|exact Drawn0.refl _|apply Drawn0.step)⟩
     ·rw [if_neg c5] at H
      exact absurd H (by simp)
    ·rw [if_neg c4] at H
     exact absurd H (by simp)
   ·rw [if_neg c3] at H
    have c3b0 : decide (x8_1 < (l0.length : Int)) = false:=decide_eq_false c3
    clear c3
    obtain rfl:=Option.some.inj H
    go_wp2
    go_ret
    exact ⟨by first|rfl|(simp;done)|(simp [*];done),by repeat (first|exact Drawn0.refl _|apply Drawn0.step)⟩

/-! ### slices_Contains_int_int: function 67 -/
def slices_Contains_int_int.f (k : Nat) (l0 : List Int) (a1 : Int) : Option (Bool):=(slices_Index_int_int.f k l0 a1).bind fun t381 => (some (decide (t381 ≥ 0)))
theorem slices_Contains_int_int.mono : ∀ a0 a1 k,LeO (slices_Contains_int_int.f k a0 a1) (slices_Contains_int_int.f (k + 1) a0 a1):=by
 intro a0 a1 k
 unfold slices_Contains_int_int.f
 repeat' first
   | (with_reducible exact slices_Index_int_int.mono _ _ _)
   | (with_reducible exact LeO.refl _)
   | (with_reducible exact LeO.none _)
   | (with_reducible refine LeO.ite ?_ ?_)
   | (with_reducible refine LeO.bind ?_ (fun _ => ?_))
   | exact slices_Index_int_int.mono _ _ _
   | exact LeO.none _
   | refine LeO.ite ?_ ?_
   | refine LeO.bind ?_ (fun _ => ?_)
set_option maxHeartbeats 8000000 in
set_option maxRecDepth 100000 in
theorem slices_Contains_int_int.calls (k : Nat) (A0 : Option Addr) (c0 : Nat) (l0 : List Int) (a1 : Int) (r : Bool) (w : World) (hr0 : Kd.C (Kd.int .i64) w A0 l0.length l0) (hc0 : l0.length ≤ c0) (h : slices_Contains_int_int.f k l0 a1 = some r) :
  Calls Try.prog 67 #[.slice A0 l0.length c0,.int .i64 a1] w fun e w' => e = .returned (.bool r) ∧ Drawn0 w w':=by
 have HR0:=mk_ hr0
 have HC0:=mk_ hc0
 clear hr0 hc0
 have H : ((slices_Index_int_int.f k l0 a1).bind fun t381 => (some (decide (t381 ≥ 0)))) = some r:=h
 clear h
 replace H:=Option.bind_eq_some_iff.mp H
 obtain ⟨t381,A30,H⟩:=H
 replace H : (some (decide (t381 ≥ 0))) = some r:=H
 have A3:=mk_ A30
 clear A30
 obtain rfl:=Option.some.inj H
 go_enter Try.func67,Try.ntmps67
 go_wp2_with (first|((with_reducible refine gate_callee (f:=87) rfl ?_);refine goesL_ (some 7) rfl rfl Try.func87 (by kernel_rfl) rfl #[.slice A0 l0.length c0,.int .i64 a1] rfl qm_ ?_;(with_reducible refine (slices_Index_int_int.calls k _ _ l0 a1 t381 _ ?side1 ?side2 A3.out).mono ?_);(case side1 => repeat (first|exact HR0.out|(with_reducible refine ca_ ?_ _)|(with_reducible refine cn_ ?_ _)|(with_reducible refine cd_ ?_)));(case side2 => exact HC0.out);rintro e w' ⟨rfl,⟨nd,rfl⟩⟩;refine ⟨_,rfl,?_⟩))
 go_ret
 exact ⟨by first|rfl|(simp;done)|(simp [*];done),by repeat (first|exact Drawn0.refl _|apply Drawn0.step)⟩

end Go.Proofs.Ytdamdcdjodmemaa.PAll
