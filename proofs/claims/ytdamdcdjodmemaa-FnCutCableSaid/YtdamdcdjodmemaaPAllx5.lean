/- Proved here: contracts of functions of the given program, or lemmas on them, for the laws of this seat. Written by xprint.py, a program of this session, on the ground of the kit's print; parts by hand: wip/x/ext. -/
import Derived.Test.YtdamdcdjodmemaaPAllx0
import Derived.Test.YtdamdcdjodmemaaPAllx1
import Derived.Test.YtdamdcdjodmemaaPAllx4
namespace Go.Proofs.Ytdamdcdjodmemaa.PAll
open Go.RowKit Go.Proofs.YtdamdcdjodmemaaW.PrintWords Go.Proofs.YtdamdcdjodmemaaW.PrintLast Go.Proofs.YtdamdcdjodmemaaW.PrintMore
attribute [local go_sem] max2_int min2_int max_two min_two max_three min_three max_four min_four   -- for this text's walks alone
set_option linter.unusedVariables false
set_option linter.unusedSimpArgs false

/-! ### spec_l19Net: function 52 -/
def spec_l19Net.l0 : Nat → Int → Int → List Int → Int → Int → List (S51) → List Int → List Int → Option (Int × (List (S51)) × List Int × List Int × Int)
 | 0,_,_,_,_,_,_,_,_ => none
 | k + 1,x4,x6,x1000,x1001,x221000,x221001,x221002,x221003 => if x6 > 0 then ((spec_l21Rd_pick.f k x1000 x1001 x4).bind fun bt231 => (if x221002.length < 17592186044416 then ((spec_l21Rd_num.f k x1000 bt231.2 (([1,2,3] : List Int))).bind fun bt239 => ((spec_l21Rd_pick.f k x1000 bt239.2 bt239.1).bind fun bt241 => (if x221003.length < 17592186044416 then (spec_l19Net.l0 k x4 (wrap64 (x6 - 1)) x1000 bt241.2 x221000 x221001 (x221002 ++ [bt231.1]) (x221003 ++ [wrap64 (1 + bt241.1)])) else (none)))) else (none))) else ((spec_l21Rd_pick.f k x1000 x1001 80).bind fun bt246 => (if bt246.1 = 0 then (if 0 < (x221002.length : Int) then (some (x221000,x221001,(x221002.set (0 : Int).toNat x4),x221003,bt246.2)) else (none)) else (if bt246.1 = 1 then (if 0 < (x221003.length : Int) then (some (x221000,x221001,x221002,(x221003.set (0 : Int).toNat 0),bt246.2)) else (none)) else (if bt246.1 = 2 then (if 1 ≤ (x221003.length : Int) then (some (x221000,x221001,x221002,(x221003.drop (1 : Int).toNat),bt246.2)) else (none)) else (if bt246.1 = 3 then (some (9,x221001,x221002,x221003,bt246.2)) else (some (x221000,x221001,x221002,x221003,bt246.2)))))))
def spec_l19Net.f (k : Nat) (s0_0 : List Int) (s0_1 : Int) : Option (Int × (List (S51)) × List Int × List Int × Int):=(spec_l7Cables.f k s0_0 s0_1).bind fun bt221 => ((spec_l21Rd_num.f k s0_0 bt221.2.2 (([4,6,3,10,2,1,15] : List Int))).bind fun bt229 => (spec_l19Net.l0 k bt221.1 bt229.1 s0_0 bt229.2 bt221.1 bt221.2.1 ([] : List Int) ([] : List Int)))
theorem spec_l19Net.mono_l : ∀ k,(∀ y0 y1 y2 y3 y4 y5 y6 y7,LeO (spec_l19Net.l0 k y0 y1 y2 y3 y4 y5 y6 y7) (spec_l19Net.l0 (k + 1) y0 y1 y2 y3 y4 y5 y6 y7))
 | 0 => fun _ _ _ _ _ _ _ _ r h => by simp [spec_l19Net.l0] at h
 | k + 1 => by
  have ih0:=spec_l19Net.mono_l k
  ·intro y0 y1 y2 y3 y4 y5 y6 y7
   unfold spec_l19Net.l0
   repeat' first
   | (with_reducible exact ih0 _ _ _ _ _ _ _ _)
   | (with_reducible exact spec_l21Rd_num.mono _ _ _ _)
   | (with_reducible exact spec_l21Rd_pick.mono _ _ _ _)
   | (with_reducible exact spec_l7Cables.mono _ _ _)
   | (with_reducible exact LeO.refl _)
   | (with_reducible exact LeO.none _)
   | (with_reducible refine LeO.ite ?_ ?_)
   | (with_reducible refine LeO.bind ?_ (fun _ => ?_))
   | exact ih0 _ _ _ _ _ _ _ _
   | exact spec_l21Rd_num.mono _ _ _ _
   | exact spec_l21Rd_pick.mono _ _ _ _
   | exact spec_l7Cables.mono _ _ _
   | exact LeO.none _
   | refine LeO.ite ?_ ?_
   | refine LeO.bind ?_ (fun _ => ?_)
theorem spec_l19Net.mono : ∀ a0 a1 k,LeO (spec_l19Net.f k a0 a1) (spec_l19Net.f (k + 1) a0 a1):=by
 intro a0 a1 k
 have ih0:=spec_l19Net.mono_l k
 unfold spec_l19Net.f
 repeat' first
   | (with_reducible exact ih0 _ _ _ _ _ _ _ _)
   | (with_reducible exact spec_l21Rd_num.mono _ _ _ _)
   | (with_reducible exact spec_l21Rd_pick.mono _ _ _ _)
   | (with_reducible exact spec_l7Cables.mono _ _ _)
   | (with_reducible exact LeO.refl _)
   | (with_reducible exact LeO.none _)
   | (with_reducible refine LeO.ite ?_ ?_)
   | (with_reducible refine LeO.bind ?_ (fun _ => ?_))
   | exact ih0 _ _ _ _ _ _ _ _
   | exact spec_l21Rd_num.mono _ _ _ _
   | exact spec_l21Rd_pick.mono _ _ _ _
   | exact spec_l7Cables.mono _ _ _
   | exact LeO.none _
   | refine LeO.ite ?_ ?_
   | refine LeO.bind ?_ (fun _ => ?_)
def spec_l19Net.T8 : Bool × List (List Nat × List Nat):=(true,[([],[]),([0],[0]),([],[]),([],[]),([2,3],[2,3]),([4],[4]),([1,5,4],[1,5]),([0,1,2,3,4,5,6],[]),([7,6,6,0,1,2,3,4,5,6],[6,7])])
def spec_l19Net.B8 : List Nat:=[0,1,0,0,12,28,63,127,255]
theorem spec_l19Net.tab8 : rtab .any (opsOf Try.f52 8) = spec_l19Net.T8:=by kernel_rfl
theorem spec_l19Net.bits8 : waitsOk spec_l19Net.T8.2 spec_l19Net.B8 = true:=by kernel_rfl
def spec_l19Net.T9 : Bool × List (List Nat × List Nat):=(true,[([],[]),([0],[0]),([],[]),([],[]),([],[]),([3,4],[3,4]),([2,5,5],[2,5]),([6],[6]),([7],[7]),([1,8,6],[1,8]),([0,1,2,3,4,5,6,7,8,9],[]),([10,9,9,0,1,2,3,4,5,6,7,8,9],[9,10])])
def spec_l19Net.B9 : List Nat:=[0,1,0,0,0,24,60,124,252,511,1023,2047]
theorem spec_l19Net.tab9 : rtab .any (opsOf Try.f52 9) = spec_l19Net.T9:=by kernel_rfl
theorem spec_l19Net.bits9 : waitsOk spec_l19Net.T9.2 spec_l19Net.B9 = true:=by kernel_rfl
set_option maxHeartbeats 8000000 in
set_option maxRecDepth 100000 in
theorem spec_l19Net.calls (k : Nat) (g : Nat) (s0_0 : List Int) (s0_1 : Int) (r1 : Int) (r2 : List (S51)) (r3 : List Int) (r4 : List Int) (r5 : Int) (w0 w : World) (hI : IsS84 w0 w g s0_0 s0_1) (hB : Below w0.heap.size w0 w) (h : spec_l19Net.f k s0_0 s0_1 = some (r1,r2,r3,r4,r5)) :
  Calls Try.prog 52 #[.pointer (some ⟨g,0,none⟩)] w fun e w' => ∃ v1_ v2_ v3_ : Value,e = .returned (.agg #[.int .i64 r1,v1_,v2_,v3_]) ∧ Kd.R k51 51 w' w.heap.size (fun _ => True) v1_ r2 ∧ Kd.R (Kd.int .i64) 3 w' w.heap.size (fun k_ => some k_ ≠ (v3_ : Value).ownBlock) v2_ r3 ∧ Kd.Q (Kd.int .i64) 3 w' w.heap.size (fun k_ => some k_ ≠ (v2_ : Value).ownBlock) v3_ r4 ∧ IsS84 w0 w' g s0_0 r5 ∧ Below w0.heap.size w0 w' ∧ KeepBut w w' g none:=by
 have hu30:=Try.underlying30
 have HI0:=mk_ hI
 have HK:=mk_ (KeepBut.refl w g none)
 have HL:=mk_ hB.size
 clear hI
 have HW0:=mk_ hB.size
 have HB:=mk_ hB
 clear hB
 have H : ((spec_l7Cables.f k s0_0 s0_1).bind fun bt221 => ((spec_l21Rd_num.f k s0_0 bt221.2.2 (([4,6,3,10,2,1,15] : List Int))).bind fun bt229 => (spec_l19Net.l0 k bt221.1 bt229.1 s0_0 bt229.2 bt221.1 bt221.2.1 ([] : List Int) ([] : List Int)))) = some (r1,r2,r3,r4,r5):=h
 clear h
 replace H:=Option.bind_eq_some_iff.mp H
 obtain ⟨⟨t221,t222,t225⟩,A20,H⟩:=H
 replace H : ((spec_l21Rd_num.f k s0_0 t225 (([4,6,3,10,2,1,15] : List Int))).bind fun bt229 => (spec_l19Net.l0 k t221 bt229.1 s0_0 bt229.2 t221 t222 ([] : List Int) ([] : List Int))) = some (r1,r2,r3,r4,r5):=H
 have A2:=mk_ A20
 clear A20
 obtain ⟨y226,hy226⟩ : ∃ y_ : List Int,y_ = (([4,6,3,10,2,1,15] : List Int)):=⟨_,rfl⟩
 replace H : ((spec_l21Rd_num.f k s0_0 t225 y226).bind fun bt229 => (spec_l19Net.l0 k t221 bt229.1 s0_0 bt229.2 t221 t222 ([] : List Int) ([] : List Int))) = some (r1,r2,r3,r4,r5):=by first|(rw [hy226];with_reducible exact H)|(have H2_:=(Option.bind_some _ _).symm.trans H;rw [hy226];with_reducible exact H2_)|(have H2_:=(Option.bind_some _ _).symm.trans H;with_reducible exact H2_)|with_reducible exact H|(rw [hy226];exact H)|exact H
 have Ny226:=mk_ hy226
 clear hy226
 replace H:=Option.bind_eq_some_iff.mp H
 obtain ⟨⟨t229,t230⟩,A30,H⟩:=H
 replace H : (spec_l19Net.l0 k t221 t229 s0_0 t230 t221 t222 ([] : List Int) ([] : List Int)) = some (r1,r2,r3,r4,r5):=H
 have A3:=mk_ A30
 clear A30
 have H':=mk_ H
 clear H
 go_enter Try.func52,Try.ntmps52
 go_wp2_with (first|((with_reducible refine gate_dst (N:=2) rfl ?_);refine box_event ?hg (N:=2) ?hd (cs:=#[.int .i64 0,.slice none 0 0,.slice none 0 0,.slice none 0 0]) (t:=30) ?hr ?_;(case hd => rfl);(case hg => rfl);(case hr => first|(go_simp;done)|(go_simp;rfl));intro gb219 hg w4 hbox hb;have n0_:=mk_ (IsS84.below (by repeat (first|(with_reducible first|exact HI0.out|apply IsS84.alloc|apply IsS84.drewN|apply IsS84.drew|apply IsS84.set_1)|exact HI0.out)) hb);have n1_:=mk_ (KeepBut.trans (by repeat (first|(with_reducible first|exact HK.out|apply KeepBut.set_|apply keep_drewN|apply keep_drew|apply keep_alloc)|exact HK.out)) (KeepBut.of_below hb g none) (.inl rfl));have n2_:=mk_ (st_ (by repeat (first|(with_reducible first|exact HB.out|apply ba_|apply bn_|apply bd_|refine bs_ ?_ (IsS84.ge HI0.out))|exact HB.out)) hb);have n3_:=mk_ (hbox);have n4_:=mk_ ((by rw [hg];exact (keep_size (w:=w) (g:=g) (row:=none) (by repeat (first|(with_reducible first|exact HK.out|apply KeepBut.set_|apply keep_drewN|apply keep_drew|apply keep_alloc)|exact HK.out))) : w.heap.size ≤ gb219));have n5_:=mk_ ((Nat.le_trans HW0.out (by rw [hg];exact (keep_size (w:=w) (g:=g) (row:=none) (by repeat (first|(with_reducible first|exact HK.out|apply KeepBut.set_|apply keep_drewN|apply keep_drew|apply keep_alloc)|exact HK.out))) : w.heap.size ≤ gb219) : w0.heap.size ≤ gb219));have n6_:=mk_ ((by rw [hg];exact Nat.ne_of_lt (IsS84.lt (show IsS84 w0 _ g s0_0 s0_1 from by repeat (first|(with_reducible first|exact HI0.out|apply IsS84.alloc|apply IsS84.drewN|apply IsS84.drew|apply IsS84.set_1)|exact HI0.out))) : g ≠ gb219));have n7_:=mk_ ((by rw [hg];exact Nat.ne_of_gt (IsS84.lt (show IsS84 w0 _ g s0_0 s0_1 from by repeat (first|(with_reducible first|exact HI0.out|apply IsS84.alloc|apply IsS84.drewN|apply IsS84.drew|apply IsS84.set_1)|exact HI0.out))) : gb219 ≠ g));clear HI0;clear HK;clear HB;have HI0:=n0_;have HK:=n1_;have HB:=n2_;have BK219:=n3_;have GW219:=n4_;have GE219:=n5_;have NB0_219:=n6_;have NB219_0:=n7_;clear n0_ n1_ n2_ n3_ n4_ n5_ n6_ n7_;clear hb hbox hg)|((with_reducible refine gate_dst (N:=3) rfl ?_);refine box_event ?hg (N:=3) ?hd (cs:=#[.int .i64 0,.slice none 0 0,.slice none 0 0,.slice none 0 0]) (t:=30) ?hr ?_;(case hd => rfl);(case hg => rfl);(case hr => first|(go_simp;done)|(go_simp;rfl));intro gb220 hg w5 hbox hb;have n0_:=mk_ (IsS84.below (by repeat (first|(with_reducible first|exact HI0.out|apply IsS84.alloc|apply IsS84.drewN|apply IsS84.drew|apply IsS84.set_1|refine IsS84.far ?_ NB0_219.out _)|exact HI0.out)) hb);have n1_:=mk_ (blk_below (g:=gb219) (o:=.cells #[.int .i64 0,.slice none 0 0,.slice none 0 0,.slice none 0 0] 30 (0,0)) (qk_ BK219) hb);have n2_:=mk_ (KeepBut.trans (by repeat (first|(with_reducible first|exact HK.out|apply KeepBut.set_|apply keep_drewN|apply keep_drew|apply keep_alloc|refine keep_far ?_ GW219.out _)|exact HK.out)) (KeepBut.of_below hb g none) (.inl rfl));have n3_:=mk_ (st_ (by repeat (first|(with_reducible first|exact HB.out|apply ba_|apply bn_|apply bd_|refine bs_ ?_ (IsS84.ge HI0.out)|refine bs_ ?_ GE219.out)|exact HB.out)) hb);have n4_:=mk_ (hbox);have n5_:=mk_ ((by rw [hg];exact (keep_size (w:=w) (g:=g) (row:=none) (by repeat (first|(with_reducible first|exact HK.out|apply KeepBut.set_|apply keep_drewN|apply keep_drew|apply keep_alloc|refine keep_far ?_ GW219.out _)|exact HK.out))) : w.heap.size ≤ gb220));have n6_:=mk_ ((Nat.le_trans HW0.out (by rw [hg];exact (keep_size (w:=w) (g:=g) (row:=none) (by repeat (first|(with_reducible first|exact HK.out|apply KeepBut.set_|apply keep_drewN|apply keep_drew|apply keep_alloc|refine keep_far ?_ GW219.out _)|exact HK.out))) : w.heap.size ≤ gb220) : w0.heap.size ≤ gb220));have n7_:=mk_ ((by rw [hg];exact Nat.ne_of_lt (blk_lt (g:=gb219) (o:=.cells #[.int .i64 0,.slice none 0 0,.slice none 0 0,.slice none 0 0] 30 (0,0)) (qk_ BK219)) : gb219 ≠ gb220));have n8_:=mk_ ((by rw [hg];exact Nat.ne_of_gt (blk_lt (g:=gb219) (o:=.cells #[.int .i64 0,.slice none 0 0,.slice none 0 0,.slice none 0 0] 30 (0,0)) (qk_ BK219)) : gb220 ≠ gb219));have n9_:=mk_ ((by rw [hg];exact Nat.ne_of_lt (IsS84.lt (show IsS84 w0 _ g s0_0 s0_1 from by repeat (first|(with_reducible first|exact HI0.out|apply IsS84.alloc|apply IsS84.drewN|apply IsS84.drew|apply IsS84.set_1|refine IsS84.far ?_ NB0_219.out _)|exact HI0.out))) : g ≠ gb220));have n10_:=mk_ ((by rw [hg];exact Nat.ne_of_gt (IsS84.lt (show IsS84 w0 _ g s0_0 s0_1 from by repeat (first|(with_reducible first|exact HI0.out|apply IsS84.alloc|apply IsS84.drewN|apply IsS84.drew|apply IsS84.set_1|refine IsS84.far ?_ NB0_219.out _)|exact HI0.out))) : gb220 ≠ g));clear HI0;clear BK219;clear HK;clear HB;have HI0:=n0_;have BK219:=n1_;have HK:=n2_;have HB:=n3_;have BK220:=n4_;have GW220:=n5_;have GE220:=n6_;have NB219_220:=n7_;have NB220_219:=n8_;have NB0_220:=n9_;have NB220_0:=n10_;clear n0_ n1_ n2_ n3_ n4_ n5_ n6_ n7_ n8_ n9_ n10_;clear hb hbox hg;have hnb6:=NB220_219.out;have hnc6:=NB219_220.out;have hnb7:=NB220_0.out;have hnc7:=NB0_220.out;have hcz8_0 : w5.cell? ⟨gb220,0,none⟩ = some (.int .i64 0):=(bc_ BK220.out 0).trans rfl;have hcz8_1 : w5.cell? ⟨gb220,1,none⟩ = some (.slice none 0 0):=(bc_ BK220.out 1).trans rfl;have hcz8_2 : w5.cell? ⟨gb220,2,none⟩ = some (.slice none 0 0):=(bc_ BK220.out 2).trans rfl;have hcz8_3 : w5.cell? ⟨gb220,3,none⟩ = some (.slice none 0 0):=(bc_ BK220.out 3).trans rfl;have hfz8_0:=bf_ BK220.out 0;have hfz8_1:=bf_ BK220.out 1;have hfz8_2:=bf_ BK220.out 2;have hfz8_3:=bf_ BK220.out 3)|((with_reducible refine gate_callee (f:=77) rfl ?_);refine goesL_ (some 10) rfl rfl Try.func77 (by kernel_rfl) rfl #[.pointer (some ⟨g,0,none⟩)] rfl qm_ ?_;(with_reducible refine (spec_l7Cables.calls k g s0_0 s0_1 t221 t222 t225 w0 _ ?side1 ?side2 A2.out).mono ?_);(case side1 => repeat (first|(with_reducible first|exact HI0.out|apply IsS84.alloc|apply IsS84.drewN|apply IsS84.drew|apply IsS84.set_1|refine IsS84.far ?_ NB0_219.out _|refine IsS84.far ?_ NB0_220.out _)|exact HI0.out));(case side2 => repeat (first|(with_reducible first|exact HB.out|apply ba_|apply bn_|apply bd_|refine bs_ ?_ (IsS84.ge HI0.out)|refine bs_ ?_ GE219.out|refine bs_ ?_ GE220.out)|exact HB.out));rintro e w9 ⟨v223,rfl,ho0,hi,hb,hk⟩;refine ⟨_,rfl,?_⟩;have n0_:=mk_ (KeepBut.blk hk (g':=gb219) (o:=.cells #[.int .i64 0,.slice none 0 0,.slice none 0 0,.slice none 0 0] 30 (0,0)) (by (with_reducible repeat (first|refine kn_ ?_ _|refine kd_ ?_|refine ka_ ?_ _));refine blk_far ?_ NB219_220.out _;(with_reducible repeat (first|refine kn_ ?_ _|refine kd_ ?_|refine ka_ ?_ _));refine blk_far ?_ NB219_220.out _;(with_reducible repeat (first|refine kn_ ?_ _|refine kd_ ?_|refine ka_ ?_ _));refine blk_far ?_ NB219_220.out _;(with_reducible repeat (first|refine kn_ ?_ _|refine kd_ ?_|refine ka_ ?_ _));refine blk_far ?_ NB219_220.out _;(with_reducible repeat (first|refine kn_ ?_ _|refine kd_ ?_|refine ka_ ?_ _));exact BK219.out) NB219_0.out (by simp));have n1_:=mk_ (KeepBut.blk hk (g':=gb220) (o:=.cells #[.int .i64 0,.slice none 0 0,.slice none 0 0,.slice none 0 0] 30 (0,0)) (by (with_reducible repeat (first|refine kn_ ?_ _|refine kd_ ?_|refine ka_ ?_ _));refine blk_put (cs:=#[.int .i64 0,.slice none 0 0,.slice none 0 0,.slice none 0 0]) ?_ 3 _ rfl;(with_reducible repeat (first|refine kn_ ?_ _|refine kd_ ?_|refine ka_ ?_ _));refine blk_put (cs:=#[.int .i64 0,.slice none 0 0,.slice none 0 0,.slice none 0 0]) ?_ 2 _ rfl;(with_reducible repeat (first|refine kn_ ?_ _|refine kd_ ?_|refine ka_ ?_ _));refine blk_put (cs:=#[.int .i64 0,.slice none 0 0,.slice none 0 0,.slice none 0 0]) ?_ 1 _ rfl;(with_reducible repeat (first|refine kn_ ?_ _|refine kd_ ?_|refine ka_ ?_ _));refine blk_put (cs:=#[.int .i64 0,.slice none 0 0,.slice none 0 0,.slice none 0 0]) ?_ 0 _ rfl;(with_reducible repeat (first|refine kn_ ?_ _|refine kd_ ?_|refine ka_ ?_ _));exact BK220.out) NB220_0.out (by simp));have n2_:=mk_ (Kd.R_lower ho0 (keep_size (w:=w) (g:=g) (row:=none) (by repeat (first|(with_reducible first|exact HK.out|apply KeepBut.set_|apply keep_drewN|apply keep_drew|apply keep_alloc|refine keep_far ?_ GW219.out _|refine keep_far ?_ GW220.out _)|exact HK.out))));have n3_:=mk_ (KeepBut.trans (by repeat (first|(with_reducible first|exact HK.out|apply KeepBut.set_|apply keep_drewN|apply keep_drew|apply keep_alloc|refine keep_far ?_ GW219.out _|refine keep_far ?_ GW220.out _)|exact HK.out)) hk (.inl rfl));have n4_:=mk_ (hb);have n5_:=mk_ (hi);clear BK219;clear BK220;clear HK;clear HB;clear HI0;have BK219:=n0_;have BK220:=n1_;have HO224:=n2_;have HK:=n3_;have HB:=n4_;have HI0:=n5_;clear n0_ n1_ n2_ n3_ n4_ n5_;(try clear hb);(try clear hb2);(try clear hk);(try clear hi);(try clear ho0);have hcz10_0 : w9.cell? ⟨gb220,0,none⟩ = some (.int .i64 0):=(bc_ BK220.out 0).trans rfl;have hcz10_1 : w9.cell? ⟨gb220,1,none⟩ = some (.slice none 0 0):=(bc_ BK220.out 1).trans rfl;have hcz10_2 : w9.cell? ⟨gb220,2,none⟩ = some (.slice none 0 0):=(bc_ BK220.out 2).trans rfl;have hcz10_3 : w9.cell? ⟨gb220,3,none⟩ = some (.slice none 0 0):=(bc_ BK220.out 3).trans rfl;have hfz10_0:=bf_ BK220.out 0;have hfz10_1:=bf_ BK220.out 1;have hfz10_2:=bf_ BK220.out 2;have hfz10_3:=bf_ BK220.out 3;obtain ⟨Ao11,co11,eo11⟩:=Kd.R_slice HO224.out;subst eo11)|((with_reducible refine gate_dst (N:=18) rfl ?_);refine Kd.R_lit (Kd.int .i64) _ 3 ?hg (N:=18) ?hd (xs:=([4,6,3,10,2,1,15] : List Int)) (inner:=[.int .i64 4,.int .i64 6,.int .i64 3,.int .i64 10,.int .i64 2,.int .i64 1,.int .i64 15]) (ok:=fun _ => True) (okp:=fun _ => True) ?hr ?hp (fun _ hk => hk) trivial (Below.refl _ _) (Nat.le_refl _) (by simp) ?_;(case hd => rfl);(case hg => rfl);(case hr => first|(go_simp;done)|(go_simp;rfl));(case hp => exact (Reps.one (show Kd.M (Kd.int .i64) _ _ _ 4 [.int .i64 4] from rfl) (Reps.one (show Kd.M (Kd.int .i64) _ _ _ 6 [.int .i64 6] from rfl) (Reps.one (show Kd.M (Kd.int .i64) _ _ _ 3 [.int .i64 3] from rfl) (Reps.one (show Kd.M (Kd.int .i64) _ _ _ 10 [.int .i64 10] from rfl) (Reps.one (show Kd.M (Kd.int .i64) _ _ _ 2 [.int .i64 2] from rfl) (Reps.one (show Kd.M (Kd.int .i64) _ _ _ 1 [.int .i64 1] from rfl) (Reps.one (show Kd.M (Kd.int .i64) _ _ _ 15 [.int .i64 15] from rfl) (Reps.none _ _)))))))));intro v227 w12 ho13 hb hg_ hnew_;clear hg_ hnew_;(first|rw [← Ny226.out] at ho13|(simp only [Int.reduceToNat] at ho13;rw [← Ny226.out] at ho13));have n0_:=mk_ (rb_ (by (with_reducible repeat (first|apply ra_|apply rn_|apply rd_));exact (rm_ (rf_ (p:=⟨gb220,1,none⟩) (rf_ (p:=⟨gb220,0,none⟩) (rt_ HO224.out BK220.out (by decide)) (fun _ hk => hk.2) (.int .i64 t221)) (fun _ hk => hk.2) (.slice Ao11 t222.length co11)) (fun _ h_ => h_.1))) hb);have n1_:=mk_ (Kd.R_lower ho13 (keep_size (w:=w) (g:=g) (row:=none) (by repeat (first|(with_reducible first|exact HK.out|apply KeepBut.set_|apply keep_drewN|apply keep_drew|apply keep_alloc|refine keep_far ?_ GW219.out _|refine keep_far ?_ GW220.out _)|exact HK.out))));have n2_:=mk_ (IsS84.below (show IsS84 w0 ((w9.setCell ⟨gb220,0,none⟩ (.int .i64 t221)).setCell ⟨gb220,1,none⟩ (.slice Ao11 t222.length co11)) g s0_0 t225 from by repeat (first|(with_reducible first|exact HI0.out|apply IsS84.alloc|apply IsS84.drewN|apply IsS84.drew|apply IsS84.set_1|refine IsS84.far ?_ NB0_219.out _|refine IsS84.far ?_ NB0_220.out _)|exact HI0.out)) hb);have n3_:=mk_ (blk_below (g:=gb219) (o:=.cells #[.int .i64 0,.slice none 0 0,.slice none 0 0,.slice none 0 0] 30 (0,0)) (by (with_reducible repeat (first|refine kn_ ?_ _|refine kd_ ?_|refine ka_ ?_ _));refine blk_far ?_ NB219_220.out _;(with_reducible repeat (first|refine kn_ ?_ _|refine kd_ ?_|refine ka_ ?_ _));refine blk_far ?_ NB219_220.out _;(with_reducible repeat (first|refine kn_ ?_ _|refine kd_ ?_|refine ka_ ?_ _));exact BK219.out) hb);have n4_:=mk_ (blk_below (g:=gb220) (o:=.cells #[.int .i64 t221,.slice Ao11 t222.length co11,.slice none 0 0,.slice none 0 0] 30 (0,0)) (by (with_reducible repeat (first|refine kn_ ?_ _|refine kd_ ?_|refine ka_ ?_ _));refine blk_put (cs:=#[.int .i64 t221,.slice none 0 0,.slice none 0 0,.slice none 0 0]) ?_ 1 _ rfl;(with_reducible repeat (first|refine kn_ ?_ _|refine kd_ ?_|refine ka_ ?_ _));refine blk_put (cs:=#[.int .i64 0,.slice none 0 0,.slice none 0 0,.slice none 0 0]) ?_ 0 _ rfl;(with_reducible repeat (first|refine kn_ ?_ _|refine kd_ ?_|refine ka_ ?_ _));exact BK220.out) hb);have n5_:=mk_ (KeepBut.trans (by repeat (first|(with_reducible first|exact HK.out|apply KeepBut.set_|apply keep_drewN|apply keep_drew|apply keep_alloc|refine keep_far ?_ GW219.out _|refine keep_far ?_ GW220.out _)|exact HK.out)) (KeepBut.of_below hb g none) (.inl rfl));have n6_:=mk_ (st_ (by repeat (first|(with_reducible first|exact HB.out|apply ba_|apply bn_|apply bd_|refine bs_ ?_ (IsS84.ge HI0.out)|refine bs_ ?_ GE219.out|refine bs_ ?_ GE220.out)|exact HB.out)) hb);clear HO224;clear HI0;clear BK219;clear BK220;clear HK;clear HB;have HO224:=n0_;have HO228:=n1_;have HI0:=n2_;have BK219:=n3_;have BK220:=n4_;have HK:=n5_;have HB:=n6_;clear n0_ n1_ n2_ n3_ n4_ n5_ n6_;clear hb ho13;obtain ⟨Ao14,co14,eo14⟩:=Kd.R_slice HO228.out;subst eo14)|((with_reducible refine gate_callee (f:=78) rfl ?_);refine goesL_ (some 19) rfl rfl Try.func78 (by kernel_rfl) rfl #[.pointer (some ⟨g,0,none⟩),.slice Ao14 y226.length co14] rfl qm_ ?_;(with_reducible refine (spec_l21Rd_num.calls k g s0_0 t225 _ _ y226 t229 t230 w0 _ ?side1 ?side2 ?side3 ?side4 ?side5 A3.out).mono ?_);(case side1 => repeat (first|(with_reducible first|exact HI0.out|apply IsS84.alloc|apply IsS84.drewN|apply IsS84.drew|apply IsS84.set_1|refine IsS84.far ?_ NB0_219.out _|refine IsS84.far ?_ NB0_220.out _)|exact HI0.out));(case side2 => repeat (first|(with_reducible first|exact HB.out|apply ba_|apply bn_|apply bd_|refine bs_ ?_ (IsS84.ge HI0.out)|refine bs_ ?_ GE219.out|refine bs_ ?_ GE220.out)|exact HB.out));(case side3 => repeat (first|exact (rr_ HO228.out).2.2|(with_reducible refine ca_ ?_ _)|(with_reducible refine cn_ ?_ _)|(with_reducible refine cd_ ?_)));(case side4 => exact (rr_ HO228.out).2.1);(case side5 => exact far_slice (IsS84.own_ne HI0.out HO228.out (by decide)));rintro e w15 ⟨rfl,hi,hb,hk⟩;refine ⟨_,rfl,?_⟩;have n0_:=mk_ (KeepBut.blk hk (g':=gb219) (o:=.cells #[.int .i64 0,.slice none 0 0,.slice none 0 0,.slice none 0 0] 30 (0,0)) (qk_ BK219) NB219_0.out (by simp));have n1_:=mk_ (KeepBut.blk hk (g':=gb220) (o:=.cells #[.int .i64 t221,.slice Ao11 t222.length co11,.slice none 0 0,.slice none 0 0] 30 (0,0)) (qk_ BK220) NB220_0.out (by simp));have n2_:=mk_ (rm_ (Kd.R_keep (IsS84.apart (show IsS84 w0 _ g s0_0 t225 from by repeat (first|(with_reducible first|exact HI0.out|apply IsS84.alloc|apply IsS84.drewN|apply IsS84.drew|apply IsS84.set_1|refine IsS84.far ?_ NB0_219.out _|refine IsS84.far ?_ NB0_220.out _)|exact HI0.out)) (qr_ HO224) (by decide)) hk (fun _ h => h.2)) (fun _ h => h.1));have n3_:=mk_ (rm_ (Kd.R_keep (IsS84.apart (show IsS84 w0 _ g s0_0 t225 from by repeat (first|(with_reducible first|exact HI0.out|apply IsS84.alloc|apply IsS84.drewN|apply IsS84.drew|apply IsS84.set_1|refine IsS84.far ?_ NB0_219.out _|refine IsS84.far ?_ NB0_220.out _)|exact HI0.out)) (qr_ HO228) (by decide)) hk (fun _ h => h.2)) (fun _ h => h.1));have n4_:=mk_ (KeepBut.trans (by repeat (first|(with_reducible first|exact HK.out|apply KeepBut.set_|apply keep_drewN|apply keep_drew|apply keep_alloc|refine keep_far ?_ GW219.out _|refine keep_far ?_ GW220.out _)|exact HK.out)) hk (.inl rfl));have n5_:=mk_ (hb);have n6_:=mk_ (hi);clear BK219;clear BK220;clear HO224;clear HO228;clear HK;clear HB;clear HI0;have BK219:=n0_;have BK220:=n1_;have HO224:=n2_;have HO228:=n3_;have HK:=n4_;have HB:=n5_;have HI0:=n6_;clear n0_ n1_ n2_ n3_ n4_ n5_ n6_;(try clear hb);(try clear hb2);(try clear hk);(try clear hi)))
 go_loopg [6] k (fun kq v6 w' => ∃ (x6_1 : Int) (x1001_1 : Int) (x221002_1 : List Int) (x221003_1 : List Int) (u221002 : Value) (u221003 : Value),v6 = .int .i64 x6_1 ∧ Aside0 (spec_l19Net.l0 kq t221 x6_1 s0_0 x1001_1 t221 t222 x221002_1 x221003_1 = some (r1,r2,r3,r4,r5)) ∧ Aside0 (kq ≤ k) ∧ Aside0 (Kd.R k51 51 w' w.heap.size (fun _ => True) (.slice Ao11 t222.length co11) t222) ∧ Aside0 (Kd.R (Kd.int .i64) 3 w' w.heap.size (fun k_ => some k_ ≠ (u221003 : Value).ownBlock) u221002 x221002_1) ∧ Aside0 (Kd.Q (Kd.int .i64) 3 w' w.heap.size (fun k_ => some k_ ≠ (u221002 : Value).ownBlock) u221003 x221003_1) ∧ Aside0 (w'.heap[gb219]? = some (.cells #[.int .i64 0,(.slice none 0 0),(.slice none 0 0),(.slice none 0 0)] 30 (0,0))) ∧ Aside0 (w'.heap[gb220]? = some (.cells #[.int .i64 t221,(.slice Ao11 t222.length co11),u221002,u221003] 30 (0,0))) ∧ Aside0 (IsS84 w0 w' g s0_0 x1001_1) ∧ Aside0 (KeepBut w w' g none) ∧ Aside0 (Below w0.heap.size w0 w'))
 case atStart => exact ⟨(t229),(t230),(([] : List Int)),(([] : List Int)),(.slice none 0 0),(.slice none 0 0),(by first|rfl|(simp;done)|(simp [*];done)),H',⟨Nat.le_refl _⟩,⟨by (with_reducible repeat (first|apply ra_|apply rn_|apply rd_));exact HO224.out⟩,⟨by first|exact Kd.R_nil _ _ _ _ _|exact Kd.N_nil _ _ _ _ _|exact Kd.V_nil _ _ _ _ _|exact Kd.Q_nil _ _ _ _ _|exact Kd.S_nil _ _ _ _ _⟩,⟨Kd.Q_of_R (by first|exact Kd.R_nil _ _ _ _ _|exact Kd.N_nil _ _ _ _ _|exact Kd.V_nil _ _ _ _ _|exact Kd.Q_nil _ _ _ _ _|exact Kd.S_nil _ _ _ _ _)⟩,⟨by (with_reducible repeat (first|refine kn_ ?_ _|refine kd_ ?_|refine ka_ ?_ _));exact BK219.out⟩,⟨by (with_reducible repeat (first|refine kn_ ?_ _|refine kd_ ?_|refine ka_ ?_ _));exact BK220.out⟩,⟨by repeat (first|(with_reducible first|exact HI0.out|apply IsS84.alloc|apply IsS84.drewN|apply IsS84.drew|apply IsS84.set_1|refine IsS84.far ?_ NB0_219.out _|refine IsS84.far ?_ NB0_220.out _)|exact HI0.out)⟩,⟨by repeat (first|(with_reducible first|exact HK.out|apply KeepBut.set_|apply keep_drewN|apply keep_drew|apply keep_alloc|refine keep_far ?_ GW219.out _|refine keep_far ?_ GW220.out _)|exact HK.out)⟩,⟨by repeat (first|(with_reducible first|exact HB.out|apply ba_|apply bn_|apply bd_|refine bs_ ?_ (IsS84.ge HI0.out)|refine bs_ ?_ GE219.out|refine bs_ ?_ GE220.out)|exact HB.out)⟩⟩
 case round =>
  clear H'
  try clear p2
  try clear c5
  try clear c6
  try clear c7
  try clear hcz10_0
  try clear hcz10_1
  try clear hcz10_2
  try clear hcz10_3
  try clear hcz8_0
  try clear hcz8_1
  try clear hcz8_2
  try clear hcz8_3
  try clear hfz10_0
  try clear hfz10_1
  try clear hfz10_2
  try clear hfz10_3
  try clear hfz8_0
  try clear hfz8_1
  try clear hfz8_2
  try clear hfz8_3
  obtain ⟨x6_1,x1001_1,x221002_1,x221003_1,u221002,u221003,rfl,HA,HK1,HO_221001,HO_221002,HO_221003,BK219,BK220,HI0,HK,HB⟩:=hrel
  cases gk with
  | zero => exact absurd HA.out (by simp [spec_l19Net.l0])
  | succ k1 =>
   have H:=HA.out
   clear HA
   simp only [spec_l19Net.l0] at H
   by_cases c16 : x6_1 > 0
   ·rw [if_pos c16] at H
    have c16b0 : decide (0 < x6_1) = true:=decide_eq_true c16
    clear c16
    replace H:=Option.bind_eq_some_iff.mp H
    obtain ⟨⟨t231,t232⟩,A170,H⟩:=H
    replace H : (if x221002_1.length < 17592186044416 then ((spec_l21Rd_num.f k1 s0_0 t232 (([1,2,3] : List Int))).bind fun bt239 => ((spec_l21Rd_pick.f k1 s0_0 bt239.2 bt239.1).bind fun bt241 => (if x221003_1.length < 17592186044416 then (spec_l19Net.l0 k1 t221 (wrap64 (x6_1 - 1)) s0_0 bt241.2 t221 t222 (x221002_1 ++ [t231]) (x221003_1 ++ [wrap64 (1 + bt241.1)])) else (none)))) else (none)) = some (r1,r2,r3,r4,r5):=H
    have A17:=mk_ A170
    clear A170
    by_cases c18 : x221002_1.length < 17592186044416
    ·rw [if_pos c18] at H
     have LMc18:=mk_ c18
     clear c18
     obtain ⟨y233,hy233⟩ : ∃ y_ : List Int,y_ = (x221002_1 ++ [t231]):=⟨_,rfl⟩
     replace H : ((spec_l21Rd_num.f k1 s0_0 t232 (([1,2,3] : List Int))).bind fun bt239 => ((spec_l21Rd_pick.f k1 s0_0 bt239.2 bt239.1).bind fun bt241 => (if x221003_1.length < 17592186044416 then (spec_l19Net.l0 k1 t221 (wrap64 (x6_1 - 1)) s0_0 bt241.2 t221 t222 y233 (x221003_1 ++ [wrap64 (1 + bt241.1)])) else (none)))) = some (r1,r2,r3,r4,r5):=by first|(rw [hy233];with_reducible exact H)|(have H2_:=(Option.bind_some _ _).symm.trans H;rw [hy233];with_reducible exact H2_)|(have H2_:=(Option.bind_some _ _).symm.trans H;with_reducible exact H2_)|with_reducible exact H|(rw [hy233];exact H)|exact H
     have Ny233:=mk_ hy233
     clear hy233
     obtain ⟨y236,hy236⟩ : ∃ y_ : List Int,y_ = (([1,2,3] : List Int)):=⟨_,rfl⟩
     replace H : ((spec_l21Rd_num.f k1 s0_0 t232 y236).bind fun bt239 => ((spec_l21Rd_pick.f k1 s0_0 bt239.2 bt239.1).bind fun bt241 => (if x221003_1.length < 17592186044416 then (spec_l19Net.l0 k1 t221 (wrap64 (x6_1 - 1)) s0_0 bt241.2 t221 t222 y233 (x221003_1 ++ [wrap64 (1 + bt241.1)])) else (none)))) = some (r1,r2,r3,r4,r5):=by first|(rw [hy236];with_reducible exact H)|(have H2_:=(Option.bind_some _ _).symm.trans H;rw [hy236];with_reducible exact H2_)|(have H2_:=(Option.bind_some _ _).symm.trans H;with_reducible exact H2_)|with_reducible exact H|(rw [hy236];exact H)|exact H
     have Ny236:=mk_ hy236
     clear hy236
     replace H:=Option.bind_eq_some_iff.mp H
     obtain ⟨⟨t239,t240⟩,A190,H⟩:=H
     replace H : ((spec_l21Rd_pick.f k1 s0_0 t240 t239).bind fun bt241 => (if x221003_1.length < 17592186044416 then (spec_l19Net.l0 k1 t221 (wrap64 (x6_1 - 1)) s0_0 bt241.2 t221 t222 y233 (x221003_1 ++ [wrap64 (1 + bt241.1)])) else (none))) = some (r1,r2,r3,r4,r5):=H
     have A19:=mk_ A190
     clear A190
     replace H:=Option.bind_eq_some_iff.mp H
     obtain ⟨⟨t241,t242⟩,A200,H⟩:=H
     replace H : (if x221003_1.length < 17592186044416 then (spec_l19Net.l0 k1 t221 (wrap64 (x6_1 - 1)) s0_0 t242 t221 t222 y233 (x221003_1 ++ [wrap64 (1 + t241)])) else (none)) = some (r1,r2,r3,r4,r5):=H
     have A20:=mk_ A200
     clear A200
     by_cases c21 : x221003_1.length < 17592186044416
     ·rw [if_pos c21] at H
      have LMc21:=mk_ c21
      clear c21
      obtain ⟨y243,hy243⟩ : ∃ y_ : List Int,y_ = (x221003_1 ++ [wrap64 (1 + t241)]):=⟨_,rfl⟩
      replace H : (spec_l19Net.l0 k1 t221 (wrap64 (x6_1 - 1)) s0_0 t242 t221 t222 y233 y243) = some (r1,r2,r3,r4,r5):=by first|(rw [hy243];with_reducible exact H)|(have H2_:=(Option.bind_some _ _).symm.trans H;rw [hy243];with_reducible exact H2_)|(have H2_:=(Option.bind_some _ _).symm.trans H;with_reducible exact H2_)|with_reducible exact H|(rw [hy243];exact H)|exact H
      have Ny243:=mk_ hy243
      clear hy243
      have H':=mk_ H
      clear H
      try go_wp2
      have n0_:=mk_ (rd_ HO_221001.out)
      have n1_:=mk_ (rd_ HO_221002.out)
      have n2_:=mk_ (Kd.Q_drew HO_221003.out)
      have n3_:=mk_ (kd_ BK219.out)
      have n4_:=mk_ (kd_ BK220.out)
      have n5_:=mk_ (IsS84.drew HI0.out)
      have n6_:=mk_ (keep_drew HK.out)
      have n7_:=mk_ (bd_ HB.out)
      clear HO_221001
      clear HO_221002
      clear HO_221003
      clear BK219
      clear BK220
      clear HI0
      clear HK
      clear HB
      have HO_221001:=n0_
      have HO_221002:=n1_
      have HO_221003:=n2_
      have BK219:=n3_
      have BK220:=n4_
      have HI0:=n5_
      have HK:=n6_
      have HB:=n7_
      clear n0_ n1_ n2_ n3_ n4_ n5_ n6_ n7_
      refine start_ (n:=9) (S:=fun w' => w'.cell? ⟨gb220,0,none⟩ = some (.int .i64 t221) ∧ w'.cell? ⟨gb220,1,none⟩ = some (.slice Ao11 t222.length co11) ∧ w'.cell? ⟨gb220,2,none⟩ = some (u221002) ∧ w'.cell? ⟨gb220,3,none⟩ = some (u221003)) (ds:=[8]) #[false,false,false,false,false,false,false,false,false] (by kernel_rfl) rfl rfl ⟨(bc_ BK220.out 0).trans rfl,(bc_ BK220.out 1).trans rfl,(bc_ BK220.out 2).trans rfl,(bc_ BK220.out 3).trans rfl⟩ (fun hHeld => ?_);refine with_tabW spec_l19Net.tab8 spec_l19Net.bits8 (fun HT_ HW_ => ?_)
      generalize wr.drew = w22 at HO_221001 HO_221002 HO_221003 BK219 BK220 HI0 HK HB hHeld ⊢
      refine pure_ (i:=0) (N:=some 24) (v:=?_) (a':=?_) #[true,false,false,false,false,false,false,false,false] rfl rfl (any_of HT_.out (by kernel_rfl)) (fun _ _ _ h => h) (Or.inl ⟨by rfl,?_⟩) ?_ ?_
      rotate_left
      ·intro w'
       go_simp
       with_reducible rfl
      rotate_left
      ·simp only [Act.put,sx_,sy_,sz_,i64_w,i32_w]
       rfl
      refine pure_ (i:=2) (N:=some 26) (v:=?_) (a':=?_) #[true,false,true,false,false,false,false,false,false] rfl rfl (any_of HT_.out (by kernel_rfl)) (fun _ _ _ h => h) (Or.inl ⟨by rfl,?_⟩) ?_ ?_
      rotate_left
      ·intro w'
       go_simp
       with_reducible rfl
      rotate_left
      ·simp only [Act.put,sx_,sy_,sz_,i64_w,i32_w]
       rfl
      refine pure_ (i:=3) (N:=some 27) (v:=?_) (a':=?_) #[true,false,true,true,false,false,false,false,false] rfl rfl (any_of HT_.out (by kernel_rfl)) (fun _ _ _ h => h) (Or.inl ⟨by rfl,?_⟩) ?_ ?_
      rotate_left
      ·intro w'
       go_simp
       with_reducible rfl
      rotate_left
      ·simp only [Act.put,sx_,sy_,sz_,i64_w,i32_w]
       rfl
      refine take_ (i:=1) (N:=some 25) (v:=?_) (a':=?_) #[true,true,true,true,false,false,false,false,false] rfl rfl (take_ofW HT_.out HW_.out (by kernel_rfl)) (fun _ _ _ h => h) (Or.inl ⟨by rfl,?_⟩) hHeld ?_ ?_
      rotate_left
      ·rintro w' ⟨s0,s1,s2,s3⟩
       go_simp
       with_reducible rfl
      rotate_left
      ·simp only [Act.put,sx_,sy_,sz_,i64_w,i32_w]
       rfl
      refine one_ (i:=4) (N:=some 28) #[true,true,true,true,true,false,false,false,false] rfl rfl (one_of HT_.out (by kernel_rfl)) (by decide) (fun K hK => ?_)
      refine goes_ Try.func53 (by kernel_rfl) rfl #[.pointer (some ⟨g,0,none⟩),.int .i64 t221] (by rfl) rfl rfl qm_ ?_
      with_reducible refine (spec_l21Rd_pick.calls k1 g s0_0 x1001_1 t221 t231 t232 w0 _ ?side1 ?side2 A17.out).mono ?_
      (case side1 => repeat (first|(with_reducible first|exact HI0.out|apply IsS84.alloc|apply IsS84.drewN|apply IsS84.drew|apply IsS84.set_1|refine IsS84.far ?_ NB0_219.out _|refine IsS84.far ?_ NB0_220.out _)|exact HI0.out))
      (case side2 => repeat (first|(with_reducible first|exact HB.out|apply ba_|apply bn_|apply bd_|refine bs_ ?_ (IsS84.ge HI0.out)|refine bs_ ?_ GE219.out|refine bs_ ?_ GE220.out)|exact HB.out))
      rintro e w23 ⟨rfl,hi,hb,hk⟩
      refine ⟨_,rfl,?_⟩
      have n0_:=mk_ (rm_ (Kd.R_keep (IsS84.apart (show IsS84 w0 _ g s0_0 x1001_1 from by repeat (first|(with_reducible first|exact HI0.out|apply IsS84.alloc|apply IsS84.drewN|apply IsS84.drew|apply IsS84.set_1|refine IsS84.far ?_ NB0_219.out _|refine IsS84.far ?_ NB0_220.out _)|exact HI0.out)) (qr_ HO_221001) (by decide)) hk (fun _ h => h.2)) (fun _ h => h.1))
      have n1_:=mk_ (rm_ (Kd.R_keep (IsS84.apart (show IsS84 w0 _ g s0_0 x1001_1 from by repeat (first|(with_reducible first|exact HI0.out|apply IsS84.alloc|apply IsS84.drewN|apply IsS84.drew|apply IsS84.set_1|refine IsS84.far ?_ NB0_219.out _|refine IsS84.far ?_ NB0_220.out _)|exact HI0.out)) (qr_ HO_221002) (by decide)) hk (fun _ h => h.2)) (fun _ h => h.1))
      have n2_:=mk_ (Kd.Q_mono (Kd.Q_keep (IsS84.apartQ (show IsS84 w0 _ g s0_0 x1001_1 from by repeat (first|(with_reducible first|exact HI0.out|apply IsS84.alloc|apply IsS84.drewN|apply IsS84.drew|apply IsS84.set_1|refine IsS84.far ?_ NB0_219.out _|refine IsS84.far ?_ NB0_220.out _)|exact HI0.out)) (by (with_reducible repeat (first|apply Kd.Q_alloc|apply Kd.Q_drewN|apply Kd.Q_drew));exact HO_221003.out) (by decide)) hk (fun _ h => h.2)) (fun _ h => h.1))
      have n3_:=mk_ (KeepBut.blk hk (g':=gb219) (o:=.cells #[.int .i64 0,.slice none 0 0,.slice none 0 0,.slice none 0 0] 30 (0,0)) (qk_ BK219) NB219_0.out (by simp))
      have n4_:=mk_ (KeepBut.blk hk (g':=gb220) (o:=.cells #[.int .i64 t221,.slice Ao11 t222.length co11,u221002,u221003] 30 (0,0)) (qk_ BK220) NB220_0.out (by simp))
      have n5_:=mk_ (KeepBut.trans (by repeat (first|(with_reducible first|exact HK.out|apply KeepBut.set_|apply keep_drewN|apply keep_drew|apply keep_alloc|refine keep_far ?_ GW219.out _|refine keep_far ?_ GW220.out _)|exact HK.out)) hk (.inl rfl))
      have n6_:=mk_ (hb)
      have n7_:=mk_ (hi)
      clear HO_221001
      clear HO_221002
      clear HO_221003
      clear BK219
      clear BK220
      clear HK
      clear HB
      clear HI0
      have HO_221001:=n0_
      have HO_221002:=n1_
      have HO_221003:=n2_
      have BK219:=n3_
      have BK220:=n4_
      have HK:=n5_
      have HB:=n6_
      have HI0:=n7_
      clear n0_ n1_ n2_ n3_ n4_ n5_ n6_ n7_
      (try clear hb)
      (try clear hb2)
      (try clear hk)
      (try clear hi)
      refine hK.out _ _ ⟨(bc_ BK220.out 0).trans rfl,(bc_ BK220.out 1).trans rfl,(bc_ BK220.out 2).trans rfl,(bc_ BK220.out 3).trans rfl⟩ (fun hHeld => ?_)
      clear hK K
      refine norm_ (a':=?_) ?_ ?_
      rotate_left
      ·show Act.put _ (some 28) _ = _
       simp only [Act.put,sx_,sy_,sz_,i64_w,i32_w]
       rfl
      refine one_ (i:=5) (N:=some 29) #[true,true,true,true,true,true,false,false,false] rfl rfl (one_of HT_.out (by kernel_rfl)) (by decide) (fun K hK => ?_)
      refine value_ (w1:=?_) (v:=?_) (by rfl) rfl ?_ ?_
      rotate_left 2
      ·go_simp
       constructor
       ·rfl
       ·rfl
      refine hK.out _ _ ⟨(bc_ (ka_ BK220.out _) 0).trans rfl,(bc_ (ka_ BK220.out _) 1).trans rfl,(bc_ (ka_ BK220.out _) 2).trans rfl,(bc_ (ka_ BK220.out _) 3).trans rfl⟩ (fun hHeld => ?_)
      clear hK K
      refine norm_ (a':=?_) ?_ ?_
      rotate_left
      ·show Act.put _ (some 29) _ = _
       simp only [Act.put,sx_,sy_,sz_,i64_w,i32_w]
       rfl
      refine one_ (i:=6) (N:=some 30) #[true,true,true,true,true,true,true,false,false] rfl rfl (one_of HT_.out (by kernel_rfl)) (by decide) (fun K hK => ?_)
      refine Kd.R_append_step (Kd.int .i64) w.heap.size (by rfl) (.tmp 25) (.tmp 29) 23 3 (.int .i64 0) 8 rfl Try.underlying23 info3 rfl (by decide) (by omega) u221002 x221002_1 t231 [.int .i64 t231] (fun k_ => some k_ ≠ (u221003 : Value).ownBlock) (fun _ => False) rfl rfl ?aP (fun _ hk => hk.elim) ?aF ?aO (Below.refl _ _) ?aS ?aL ?_
      (case aP => exact rfl)
      (case aF => exact (fun k_ hk => Kd.fresh' (Kd.Q_lt (by (with_reducible repeat (first|apply Kd.Q_alloc|apply Kd.Q_drewN|apply Kd.Q_drew));exact HO_221003.out)) k_ hk))
      (case aO => exact (qr_ HO_221002))
      (case aS => exact (keep_size (w:=w) (g:=g) (row:=none) (by repeat (first|(with_reducible first|exact HK.out|apply KeepBut.set_|apply keep_drewN|apply keep_drew|apply keep_alloc|refine keep_far ?_ GW219.out _|refine keep_far ?_ GW220.out _)|exact HK.out))))
      (case aL => have:=LMc18.out;omega)
      intro v234 w24 ho hb hg hat
      rw [← Ny233.out] at ho
      have n0_:=mk_ (Kd.R_over' (qr_ HO_221001) (Kd.R_typed (qr_ HO_221002)) (by decide) hg)
      have n1_:=mk_ (Kd.Q_after (ok:=(fun _ => True)) (by (with_reducible repeat (first|apply Kd.Q_alloc|apply Kd.Q_drewN|apply Kd.Q_drew));exact Kd.Q_mono HO_221003.out (fun _ hk => ⟨trivial,hk⟩)) hg hat)
      have n2_:=mk_ (blk_grown (g:=gb219) (o:=.cells #[.int .i64 0,.slice none 0 0,.slice none 0 0,.slice none 0 0] 30 (0,0)) (qk_ BK219) hg (Kd.R_ne HO_221002.out BK219.out (by decide)))
      have n3_:=mk_ (blk_grown (g:=gb220) (o:=.cells #[.int .i64 t221,.slice Ao11 t222.length co11,u221002,u221003] 30 (0,0)) (qk_ BK220) hg (Kd.R_ne HO_221002.out BK220.out (by decide)))
      have n4_:=mk_ (IsS84.grown (by repeat (first|(with_reducible first|exact HI0.out|apply IsS84.alloc|apply IsS84.drewN|apply IsS84.drew|apply IsS84.set_1|refine IsS84.far ?_ NB0_219.out _|refine IsS84.far ?_ NB0_220.out _)|exact HI0.out)) hg (IsS84.own_ne HI0.out HO_221002.out (by decide)))
      have n5_:=mk_ (below_weaken (by repeat (first|(with_reducible first|exact HB.out|apply ba_|apply bn_|apply bd_|refine bs_ ?_ (IsS84.ge HI0.out)|refine bs_ ?_ GE219.out|refine bs_ ?_ GE220.out)|exact HB.out)) HL.out hb)
      have n6_:=mk_ (KeepBut.trans (by repeat (first|(with_reducible first|exact HK.out|apply KeepBut.set_|apply keep_drewN|apply keep_drew|apply keep_alloc|refine keep_far ?_ GW219.out _|refine keep_far ?_ GW220.out _)|exact HK.out)) (KeepBut.of_grown hg g) (Kd.R_base2 HO_221002.out))
      have n7_:=mk_ (ho)
      clear HO_221001
      clear HO_221003
      clear BK219
      clear BK220
      clear HI0
      clear HB
      clear HK
      clear HO_221002
      have HO_221001:=n0_
      have HO_221003:=n1_
      have BK219:=n2_
      have BK220:=n3_
      have HI0:=n4_
      have HB:=n5_
      have HK:=n6_
      have HO235:=n7_
      clear n0_ n1_ n2_ n3_ n4_ n5_ n6_ n7_
      clear ho hb hg hat
      obtain ⟨Ao25,co25,eo25⟩:=Kd.R_slice HO235.out
      (first|subst eo25|(injection eo25 with f1_ f2_ f3_;have f4_:=f1_.symm;have f5_:=f3_.symm;clear f1_ f2_ f3_;subst f4_;subst f5_))
      refine hK.out _ _ ⟨(bc_ BK220.out 0).trans rfl,(bc_ BK220.out 1).trans rfl,(bc_ BK220.out 2).trans rfl,(bc_ BK220.out 3).trans rfl⟩ (fun hHeld => ?_)
      clear hK K
      refine norm_ (a':=?_) ?_ ?_
      rotate_left
      ·show Act.put _ (some 30) _ = _
       simp only [Act.put,sx_,sy_,sz_,i64_w,i32_w]
       rfl
      refine pure_ (i:=7) (N:=some 31) (v:=?_) (a':=?_) #[true,true,true,true,true,true,true,true,false] rfl rfl (any_of HT_.out (by kernel_rfl)) (fun _ _ _ h => h) (Or.inl ⟨by rfl,?_⟩) ?_ ?_
      rotate_left
      ·intro w'
       go_simp
       with_reducible rfl
      rotate_left
      ·simp only [Act.put,sx_,sy_,sz_,i64_w,i32_w]
       rfl
      refine last_ (i:=8) (N:=none) #[true,true,true,true,true,true,true,true,true] rfl rfl (one_of HT_.out (by kernel_rfl)) (by decide) (fun K hK => ?_)
      have hs26 : w24.cell? ⟨gb220,2,none⟩ = some (u221002):=(bc_ BK220.out 2).trans rfl
      have hfs26:=bf_ BK220.out 2
      have hns26_0:=NB219_220.out
      have hms26_0:=NB220_219.out
      refine skip_ (w1:=?_) (by rfl) rfl ?_ ?_
      rotate_left
      ·go_simp
       rfl
      refine hK.out _ _ ?_
      clear hK K
      refine done_ (done_of HT_.out (by kernel_rfl)) ?_
      try go_wp2
      have n0_ : Aside0 (Kd.R k51 51 (w24.setCell ⟨gb220,2,none⟩ (.slice Ao25 y233.length co25)) w.heap.size (fun _ => True) (.slice Ao11 t222.length co11) t222):=⟨by (with_reducible repeat (first|apply ra_|apply rn_|apply rd_));exact rm_ (rf_ (p:=⟨gb220,2,none⟩) (rt_ HO_221001.out BK220.out (by decide)) (fun _ hk => hk.2) (.slice Ao25 y233.length co25)) (fun _ hk => trivial)⟩
      have n1_ : Aside0 (Kd.Q (Kd.int .i64) 3 (w24.setCell ⟨gb220,2,none⟩ (.slice Ao25 y233.length co25)) w.heap.size (fun k_ => some k_ ≠ (.slice Ao25 y233.length co25 : Value).ownBlock) u221003 x221003_1):=⟨by (with_reducible repeat (first|apply Kd.Q_alloc|apply Kd.Q_drewN|apply Kd.Q_drew));exact Kd.Q_mono (Kd.Q_far (p:=⟨gb220,2,none⟩) (Kd.Q_types HO_221003.out BK220.out (by decide)) (fun _ hk => hk.2) (.slice Ao25 y233.length co25)) (fun _ hk => hk.1.2)⟩
      have n2_ : Aside0 (Kd.R (Kd.int .i64) 3 (w24.setCell ⟨gb220,2,none⟩ (.slice Ao25 y233.length co25)) w.heap.size (fun k_ => some k_ ≠ (u221003 : Value).ownBlock) (.slice Ao25 y233.length co25) y233):=⟨by (with_reducible repeat (first|apply ra_|apply rn_|apply rd_));exact rm_ (rf_ (p:=⟨gb220,2,none⟩) (rt_ HO235.out BK220.out (by decide)) (fun _ hk => hk.2) (.slice Ao25 y233.length co25)) (fun _ hk => hk.1)⟩
      have n3_ : Aside0 ((w24.setCell ⟨gb220,2,none⟩ (.slice Ao25 y233.length co25)).heap[gb219]? = some (.cells #[.int .i64 0,.slice none 0 0,.slice none 0 0,.slice none 0 0] 30 (0,0))):=⟨by (with_reducible repeat (first|refine kn_ ?_ _|refine kd_ ?_|refine ka_ ?_ _));refine blk_far ?_ NB219_220.out _;(with_reducible repeat (first|refine kn_ ?_ _|refine kd_ ?_|refine ka_ ?_ _));exact BK219.out⟩
      have n4_ : Aside0 ((w24.setCell ⟨gb220,2,none⟩ (.slice Ao25 y233.length co25)).heap[gb220]? = some (.cells #[.int .i64 t221,.slice Ao11 t222.length co11,.slice Ao25 y233.length co25,u221003] 30 (0,0))):=⟨by (with_reducible repeat (first|refine kn_ ?_ _|refine kd_ ?_|refine ka_ ?_ _));refine blk_put (cs:=#[.int .i64 t221,.slice Ao11 t222.length co11,u221002,u221003]) ?_ 2 _ rfl;(with_reducible repeat (first|refine kn_ ?_ _|refine kd_ ?_|refine ka_ ?_ _));exact BK220.out⟩
      have n5_ : Aside0 (IsS84 w0 (w24.setCell ⟨gb220,2,none⟩ (.slice Ao25 y233.length co25)) g s0_0 t232):=⟨by repeat (first|(with_reducible first|exact HI0.out|apply IsS84.alloc|apply IsS84.drewN|apply IsS84.drew|apply IsS84.set_1|refine IsS84.far ?_ NB0_219.out _|refine IsS84.far ?_ NB0_220.out _)|exact HI0.out)⟩
      have n6_ : Aside0 (KeepBut w (w24.setCell ⟨gb220,2,none⟩ (.slice Ao25 y233.length co25)) g none):=⟨by repeat (first|(with_reducible first|exact HK.out|apply KeepBut.set_|apply keep_drewN|apply keep_drew|apply keep_alloc|refine keep_far ?_ GW219.out _|refine keep_far ?_ GW220.out _)|exact HK.out)⟩
      have n7_ : Aside0 (Below w0.heap.size w0 (w24.setCell ⟨gb220,2,none⟩ (.slice Ao25 y233.length co25))):=⟨by repeat (first|(with_reducible first|exact HB.out|apply ba_|apply bn_|apply bd_|refine bs_ ?_ (IsS84.ge HI0.out)|refine bs_ ?_ GE219.out|refine bs_ ?_ GE220.out)|exact HB.out)⟩
      (try clear HO_221001)
      (try clear HO_221003)
      (try clear HO235)
      (try clear BK219)
      (try clear BK220)
      (try clear HI0)
      (try clear HK)
      (try clear HB)
      generalize (w24.setCell ⟨gb220,2,none⟩ (.slice Ao25 y233.length co25)) = w27 at n0_ n1_ n2_ n3_ n4_ n5_ n6_ n7_ ⊢
      have HO_221001:=n0_
      have HO_221003:=n1_
      have HO235:=n2_
      have BK219:=n3_
      have BK220:=n4_
      have HI0:=n5_
      have HK:=n6_
      have HB:=n7_
      clear n0_ n1_ n2_ n3_ n4_ n5_ n6_ n7_
      have n0_:=mk_ (rd_ HO_221001.out)
      have n1_:=mk_ (Kd.Q_drew HO_221003.out)
      have n2_:=mk_ (rd_ HO235.out)
      have n3_:=mk_ (kd_ BK219.out)
      have n4_:=mk_ (kd_ BK220.out)
      have n5_:=mk_ (IsS84.drew HI0.out)
      have n6_:=mk_ (keep_drew HK.out)
      have n7_:=mk_ (bd_ HB.out)
      clear HO_221001
      clear HO_221003
      clear HO235
      clear BK219
      clear BK220
      clear HI0
      clear HK
      clear HB
      have HO_221001:=n0_
      have HO_221003:=n1_
      have HO235:=n2_
      have BK219:=n3_
      have BK220:=n4_
      have HI0:=n5_
      have HK:=n6_
      have HB:=n7_
      clear n0_ n1_ n2_ n3_ n4_ n5_ n6_ n7_
      refine start_ (n:=12) (S:=fun w' => w'.cell? ⟨gb220,0,none⟩ = some (.int .i64 t221) ∧ w'.cell? ⟨gb220,1,none⟩ = some (.slice Ao11 t222.length co11) ∧ w'.cell? ⟨gb220,2,none⟩ = some (.slice Ao25 y233.length co25) ∧ w'.cell? ⟨gb220,3,none⟩ = some (u221003)) (ds:=[11]) #[false,false,false,false,false,false,false,false,false,false,false,false] (by kernel_rfl) rfl rfl ⟨(bc_ BK220.out 0).trans rfl,(bc_ BK220.out 1).trans rfl,(bc_ BK220.out 2).trans rfl,(bc_ BK220.out 3).trans rfl⟩ (fun hHeld => ?_);refine with_tabW spec_l19Net.tab9 spec_l19Net.bits9 (fun HT_ HW_ => ?_)
      generalize w27.drew = w28 at HO_221001 HO_221003 HO235 BK219 BK220 HI0 HK HB hHeld ⊢
      refine pure_ (i:=0) (N:=some 32) (v:=?_) (a':=?_) #[true,false,false,false,false,false,false,false,false,false,false,false] rfl rfl (any_of HT_.out (by kernel_rfl)) (fun _ _ _ h => h) (Or.inl ⟨by rfl,?_⟩) ?_ ?_
      rotate_left
      ·intro w'
       go_simp
       with_reducible rfl
      rotate_left
      ·simp only [Act.put,sx_,sy_,sz_,i64_w,i32_w]
       rfl
      refine pure_ (i:=2) (N:=some 34) (v:=?_) (a':=?_) #[true,false,true,false,false,false,false,false,false,false,false,false] rfl rfl (any_of HT_.out (by kernel_rfl)) (fun _ _ _ h => h) (Or.inl ⟨by rfl,?_⟩) ?_ ?_
      rotate_left
      ·intro w'
       go_simp
       with_reducible rfl
      rotate_left
      ·simp only [Act.put,sx_,sy_,sz_,i64_w,i32_w]
       rfl
      refine pure_ (i:=3) (N:=some 35) (v:=?_) (a':=?_) #[true,false,true,true,false,false,false,false,false,false,false,false] rfl rfl (any_of HT_.out (by kernel_rfl)) (fun _ _ _ h => h) (Or.inl ⟨by rfl,?_⟩) ?_ ?_
      rotate_left
      ·intro w'
       go_simp
       with_reducible rfl
      rotate_left
      ·simp only [Act.put,sx_,sy_,sz_,i64_w,i32_w]
       rfl
      refine take_ (i:=1) (N:=some 33) (v:=?_) (a':=?_) #[true,true,true,true,false,false,false,false,false,false,false,false] rfl rfl (take_ofW HT_.out HW_.out (by kernel_rfl)) (fun _ _ _ h => h) (Or.inl ⟨by rfl,?_⟩) hHeld ?_ ?_
      rotate_left
      ·rintro w' ⟨s0,s1,s2,s3⟩
       go_simp
       with_reducible rfl
      rotate_left
      ·simp only [Act.put,sx_,sy_,sz_,i64_w,i32_w]
       rfl
      refine one_ (i:=4) (N:=some 36) #[true,true,true,true,true,false,false,false,false,false,false,false] rfl rfl (one_of HT_.out (by kernel_rfl)) (by decide) (fun K hK => ?_)
      refine Kd.R_lit_step (Kd.int .i64) _ 3 ?hg (N:=36) ?hd (xs:=([1,2,3] : List Int)) (inner:=[.int .i64 1,.int .i64 2,.int .i64 3]) (ok:=fun _ => True) (okp:=fun _ => True) ?hr ?hp (fun _ hk => hk) trivial (Below.refl _ _) (Nat.le_refl _) (by simp) ?_;(case hd => rfl);(case hg => rfl);(case hr => first|(go_simp;done)|(go_simp;rfl));(case hp => exact (Reps.one (show Kd.M (Kd.int .i64) _ _ _ 1 [.int .i64 1] from rfl) (Reps.one (show Kd.M (Kd.int .i64) _ _ _ 2 [.int .i64 2] from rfl) (Reps.one (show Kd.M (Kd.int .i64) _ _ _ 3 [.int .i64 3] from rfl) (Reps.none _ _)))))
      intro v237 w29 ho30 hb hg_ hnew_
      clear hg_ hnew_
      (first|rw [← Ny236.out] at ho30|(simp only [Int.reduceToNat] at ho30;rw [← Ny236.out] at ho30))
      have n0_:=mk_ (rb_ (qr_ HO_221001) hb)
      have n1_:=mk_ (Kd.Q_elder' (by (with_reducible repeat (first|apply Kd.Q_alloc|apply Kd.Q_drewN|apply Kd.Q_drew));exact HO_221003.out) (Kd.R_base ho30) hb)
      have n2_:=mk_ (re_ (qr_ HO235) (Kd.R_base ho30) hb)
      have n3_:=mk_ (Kd.R_lower (Kd.R_new' (Kd.R_new' ho30 (Kd.Q_lt (by (with_reducible repeat (first|apply Kd.Q_alloc|apply Kd.Q_drewN|apply Kd.Q_drew));exact HO_221003.out))) (Kd.R_lt (qr_ HO235))) (keep_size (w:=w) (g:=g) (row:=none) (by repeat (first|(with_reducible first|exact HK.out|apply KeepBut.set_|apply keep_drewN|apply keep_drew|apply keep_alloc|refine keep_far ?_ GW219.out _|refine keep_far ?_ GW220.out _)|exact HK.out))))
      have n4_:=mk_ (blk_below (g:=gb219) (o:=.cells #[.int .i64 0,.slice none 0 0,.slice none 0 0,.slice none 0 0] 30 (0,0)) (qk_ BK219) hb)
      have n5_:=mk_ (blk_below (g:=gb220) (o:=.cells #[.int .i64 t221,.slice Ao11 t222.length co11,.slice Ao25 y233.length co25,u221003] 30 (0,0)) (qk_ BK220) hb)
      have n6_:=mk_ (IsS84.below (by repeat (first|(with_reducible first|exact HI0.out|apply IsS84.alloc|apply IsS84.drewN|apply IsS84.drew|apply IsS84.set_1|refine IsS84.far ?_ NB0_219.out _|refine IsS84.far ?_ NB0_220.out _)|exact HI0.out)) hb)
      have n7_:=mk_ (KeepBut.trans (by repeat (first|(with_reducible first|exact HK.out|apply KeepBut.set_|apply keep_drewN|apply keep_drew|apply keep_alloc|refine keep_far ?_ GW219.out _|refine keep_far ?_ GW220.out _)|exact HK.out)) (KeepBut.of_below hb g none) (.inl rfl))
      have n8_:=mk_ (st_ (by repeat (first|(with_reducible first|exact HB.out|apply ba_|apply bn_|apply bd_|refine bs_ ?_ (IsS84.ge HI0.out)|refine bs_ ?_ GE219.out|refine bs_ ?_ GE220.out)|exact HB.out)) hb)
      clear HO_221001
      clear HO_221003
      clear HO235
      clear BK219
      clear BK220
      clear HI0
      clear HK
      clear HB
      have HO_221001:=n0_
      have HO_221003:=n1_
      have HO235:=n2_
      have HO238:=n3_
      have BK219:=n4_
      have BK220:=n5_
      have HI0:=n6_
      have HK:=n7_
      have HB:=n8_
      clear n0_ n1_ n2_ n3_ n4_ n5_ n6_ n7_ n8_
      clear hb ho30
      obtain ⟨Ao31,co31,eo31⟩:=Kd.R_slice HO238.out
      (first|subst eo31|(injection eo31 with f1_ f2_ f3_;have f4_:=f1_.symm;have f5_:=f3_.symm;clear f1_ f2_ f3_;subst f4_;subst f5_))
      refine hK.out _ _ ⟨(bc_ BK220.out 0).trans rfl,(bc_ BK220.out 1).trans rfl,(bc_ BK220.out 2).trans rfl,(bc_ BK220.out 3).trans rfl⟩ (fun hHeld => ?_)
      clear hK K
      refine norm_ (a':=?_) ?_ ?_
      rotate_left
      ·show Act.put _ (some 36) _ = _
       simp only [Act.put,sx_,sy_,sz_,i64_w,i32_w]
       rfl
      refine one_ (i:=5) (N:=some 37) #[true,true,true,true,true,true,false,false,false,false,false,false] rfl rfl (one_of HT_.out (by kernel_rfl)) (by decide) (fun K hK => ?_)
      refine goes_ Try.func78 (by kernel_rfl) rfl #[.pointer (some ⟨g,0,none⟩),.slice Ao31 y236.length co31] (by rfl) rfl rfl qm_ ?_
      with_reducible refine (spec_l21Rd_num.calls k1 g s0_0 t232 _ _ y236 t239 t240 w0 _ ?side1 ?side2 ?side3 ?side4 ?side5 A19.out).mono ?_
      (case side1 => repeat (first|(with_reducible first|exact HI0.out|apply IsS84.alloc|apply IsS84.drewN|apply IsS84.drew|apply IsS84.set_1|refine IsS84.far ?_ NB0_219.out _|refine IsS84.far ?_ NB0_220.out _)|exact HI0.out))
      (case side2 => repeat (first|(with_reducible first|exact HB.out|apply ba_|apply bn_|apply bd_|refine bs_ ?_ (IsS84.ge HI0.out)|refine bs_ ?_ GE219.out|refine bs_ ?_ GE220.out)|exact HB.out))
      (case side3 => repeat (first|exact (rr_ HO238.out).2.2|(with_reducible refine ca_ ?_ _)|(with_reducible refine cn_ ?_ _)|(with_reducible refine cd_ ?_)))
      (case side4 => exact (rr_ HO238.out).2.1)
      (case side5 => exact far_slice (IsS84.own_ne HI0.out HO238.out (by decide)))
      rintro e w32 ⟨rfl,hi,hb,hk⟩
      refine ⟨_,rfl,?_⟩
      have n0_:=mk_ (rm_ (Kd.R_keep (IsS84.apart (show IsS84 w0 _ g s0_0 t232 from by repeat (first|(with_reducible first|exact HI0.out|apply IsS84.alloc|apply IsS84.drewN|apply IsS84.drew|apply IsS84.set_1|refine IsS84.far ?_ NB0_219.out _|refine IsS84.far ?_ NB0_220.out _)|exact HI0.out)) (qr_ HO_221001) (by decide)) hk (fun _ h => h.2)) (fun _ h => h.1))
      have n1_:=mk_ (Kd.Q_mono (Kd.Q_keep (IsS84.apartQ (show IsS84 w0 _ g s0_0 t232 from by repeat (first|(with_reducible first|exact HI0.out|apply IsS84.alloc|apply IsS84.drewN|apply IsS84.drew|apply IsS84.set_1|refine IsS84.far ?_ NB0_219.out _|refine IsS84.far ?_ NB0_220.out _)|exact HI0.out)) (by (with_reducible repeat (first|apply Kd.Q_alloc|apply Kd.Q_drewN|apply Kd.Q_drew));exact HO_221003.out) (by decide)) hk (fun _ h => h.2)) (fun _ h => h.1))
      have n2_:=mk_ (KeepBut.blk hk (g':=gb219) (o:=.cells #[.int .i64 0,.slice none 0 0,.slice none 0 0,.slice none 0 0] 30 (0,0)) (qk_ BK219) NB219_0.out (by simp))
      have n3_:=mk_ (KeepBut.blk hk (g':=gb220) (o:=.cells #[.int .i64 t221,.slice Ao11 t222.length co11,.slice Ao25 y233.length co25,u221003] 30 (0,0)) (qk_ BK220) NB220_0.out (by simp))
      have n4_:=mk_ (rm_ (Kd.R_keep (IsS84.apart (show IsS84 w0 _ g s0_0 t232 from by repeat (first|(with_reducible first|exact HI0.out|apply IsS84.alloc|apply IsS84.drewN|apply IsS84.drew|apply IsS84.set_1|refine IsS84.far ?_ NB0_219.out _|refine IsS84.far ?_ NB0_220.out _)|exact HI0.out)) (qr_ HO235) (by decide)) hk (fun _ h => h.2)) (fun _ h => h.1))
      have n5_:=mk_ (rm_ (Kd.R_keep (IsS84.apart (show IsS84 w0 _ g s0_0 t232 from by repeat (first|(with_reducible first|exact HI0.out|apply IsS84.alloc|apply IsS84.drewN|apply IsS84.drew|apply IsS84.set_1|refine IsS84.far ?_ NB0_219.out _|refine IsS84.far ?_ NB0_220.out _)|exact HI0.out)) (qr_ HO238) (by decide)) hk (fun _ h => h.2)) (fun _ h => h.1))
      have n6_:=mk_ (KeepBut.trans (by repeat (first|(with_reducible first|exact HK.out|apply KeepBut.set_|apply keep_drewN|apply keep_drew|apply keep_alloc|refine keep_far ?_ GW219.out _|refine keep_far ?_ GW220.out _)|exact HK.out)) hk (.inl rfl))
      have n7_:=mk_ (hb)
      have n8_:=mk_ (hi)
      clear HO_221001
      clear HO_221003
      clear BK219
      clear BK220
      clear HO235
      clear HO238
      clear HK
      clear HB
      clear HI0
      have HO_221001:=n0_
      have HO_221003:=n1_
      have BK219:=n2_
      have BK220:=n3_
      have HO235:=n4_
      have HO238:=n5_
      have HK:=n6_
      have HB:=n7_
      have HI0:=n8_
      clear n0_ n1_ n2_ n3_ n4_ n5_ n6_ n7_ n8_
      (try clear hb)
      (try clear hb2)
      (try clear hk)
      (try clear hi)
      refine hK.out _ _ ⟨(bc_ BK220.out 0).trans rfl,(bc_ BK220.out 1).trans rfl,(bc_ BK220.out 2).trans rfl,(bc_ BK220.out 3).trans rfl⟩ (fun hHeld => ?_)
      clear hK K
      refine norm_ (a':=?_) ?_ ?_
      rotate_left
      ·show Act.put _ (some 37) _ = _
       simp only [Act.put,sx_,sy_,sz_,i64_w,i32_w]
       rfl
      refine one_ (i:=6) (N:=some 38) #[true,true,true,true,true,true,true,false,false,false,false,false] rfl rfl (one_of HT_.out (by kernel_rfl)) (by decide) (fun K hK => ?_)
      refine goes_ Try.func53 (by kernel_rfl) rfl #[.pointer (some ⟨g,0,none⟩),.int .i64 t239] (by rfl) rfl rfl qm_ ?_
      with_reducible refine (spec_l21Rd_pick.calls k1 g s0_0 t240 t239 t241 t242 w0 _ ?side1 ?side2 A20.out).mono ?_
      (case side1 => repeat (first|(with_reducible first|exact HI0.out|apply IsS84.alloc|apply IsS84.drewN|apply IsS84.drew|apply IsS84.set_1|refine IsS84.far ?_ NB0_219.out _|refine IsS84.far ?_ NB0_220.out _)|exact HI0.out))
      (case side2 => repeat (first|(with_reducible first|exact HB.out|apply ba_|apply bn_|apply bd_|refine bs_ ?_ (IsS84.ge HI0.out)|refine bs_ ?_ GE219.out|refine bs_ ?_ GE220.out)|exact HB.out))
      rintro e w33 ⟨rfl,hi,hb,hk⟩
      refine ⟨_,rfl,?_⟩
      have n0_:=mk_ (rm_ (Kd.R_keep (IsS84.apart (show IsS84 w0 _ g s0_0 t240 from by repeat (first|(with_reducible first|exact HI0.out|apply IsS84.alloc|apply IsS84.drewN|apply IsS84.drew|apply IsS84.set_1|refine IsS84.far ?_ NB0_219.out _|refine IsS84.far ?_ NB0_220.out _)|exact HI0.out)) (qr_ HO_221001) (by decide)) hk (fun _ h => h.2)) (fun _ h => h.1))
      have n1_:=mk_ (Kd.Q_mono (Kd.Q_keep (IsS84.apartQ (show IsS84 w0 _ g s0_0 t240 from by repeat (first|(with_reducible first|exact HI0.out|apply IsS84.alloc|apply IsS84.drewN|apply IsS84.drew|apply IsS84.set_1|refine IsS84.far ?_ NB0_219.out _|refine IsS84.far ?_ NB0_220.out _)|exact HI0.out)) (by (with_reducible repeat (first|apply Kd.Q_alloc|apply Kd.Q_drewN|apply Kd.Q_drew));exact HO_221003.out) (by decide)) hk (fun _ h => h.2)) (fun _ h => h.1))
      have n2_:=mk_ (KeepBut.blk hk (g':=gb219) (o:=.cells #[.int .i64 0,.slice none 0 0,.slice none 0 0,.slice none 0 0] 30 (0,0)) (qk_ BK219) NB219_0.out (by simp))
      have n3_:=mk_ (KeepBut.blk hk (g':=gb220) (o:=.cells #[.int .i64 t221,.slice Ao11 t222.length co11,.slice Ao25 y233.length co25,u221003] 30 (0,0)) (qk_ BK220) NB220_0.out (by simp))
      have n4_:=mk_ (rm_ (Kd.R_keep (IsS84.apart (show IsS84 w0 _ g s0_0 t240 from by repeat (first|(with_reducible first|exact HI0.out|apply IsS84.alloc|apply IsS84.drewN|apply IsS84.drew|apply IsS84.set_1|refine IsS84.far ?_ NB0_219.out _|refine IsS84.far ?_ NB0_220.out _)|exact HI0.out)) (qr_ HO235) (by decide)) hk (fun _ h => h.2)) (fun _ h => h.1))
      have n5_:=mk_ (rm_ (Kd.R_keep (IsS84.apart (show IsS84 w0 _ g s0_0 t240 from by repeat (first|(with_reducible first|exact HI0.out|apply IsS84.alloc|apply IsS84.drewN|apply IsS84.drew|apply IsS84.set_1|refine IsS84.far ?_ NB0_219.out _|refine IsS84.far ?_ NB0_220.out _)|exact HI0.out)) (qr_ HO238) (by decide)) hk (fun _ h => h.2)) (fun _ h => h.1))
      have n6_:=mk_ (KeepBut.trans (by repeat (first|(with_reducible first|exact HK.out|apply KeepBut.set_|apply keep_drewN|apply keep_drew|apply keep_alloc|refine keep_far ?_ GW219.out _|refine keep_far ?_ GW220.out _)|exact HK.out)) hk (.inl rfl))
      have n7_:=mk_ (hb)
      have n8_:=mk_ (hi)
      clear HO_221001
      clear HO_221003
      clear BK219
      clear BK220
      clear HO235
      clear HO238
      clear HK
      clear HB
      clear HI0
      have HO_221001:=n0_
      have HO_221003:=n1_
      have BK219:=n2_
      have BK220:=n3_
      have HO235:=n4_
      have HO238:=n5_
      have HK:=n6_
      have HB:=n7_
      have HI0:=n8_
      clear n0_ n1_ n2_ n3_ n4_ n5_ n6_ n7_ n8_
      (try clear hb)
      (try clear hb2)
      (try clear hk)
      (try clear hi)
      refine hK.out _ _ ⟨(bc_ BK220.out 0).trans rfl,(bc_ BK220.out 1).trans rfl,(bc_ BK220.out 2).trans rfl,(bc_ BK220.out 3).trans rfl⟩ (fun hHeld => ?_)
      clear hK K
      refine norm_ (a':=?_) ?_ ?_
      rotate_left
      ·show Act.put _ (some 38) _ = _
       simp only [Act.put,sx_,sy_,sz_,i64_w,i32_w]
       rfl
      refine pure_ (i:=7) (N:=some 39) (v:=?_) (a':=?_) #[true,true,true,true,true,true,true,true,false,false,false,false] rfl rfl (any_of HT_.out (by kernel_rfl)) (fun _ _ _ h => h) (Or.inl ⟨by rfl,?_⟩) ?_ ?_
      rotate_left
      ·intro w'
       go_simp
       with_reducible rfl
      rotate_left
      ·simp only [Act.put,sx_,sy_,sz_,i64_w,i32_w]
       rfl
      refine one_ (i:=8) (N:=some 40) #[true,true,true,true,true,true,true,true,true,false,false,false] rfl rfl (one_of HT_.out (by kernel_rfl)) (by decide) (fun K hK => ?_)
      refine value_ (w1:=?_) (v:=?_) (by rfl) rfl ?_ ?_
      rotate_left 2
      ·go_simp
       constructor
       ·rfl
       ·rfl
      refine hK.out _ _ ⟨(bc_ (ka_ BK220.out _) 0).trans rfl,(bc_ (ka_ BK220.out _) 1).trans rfl,(bc_ (ka_ BK220.out _) 2).trans rfl,(bc_ (ka_ BK220.out _) 3).trans rfl⟩ (fun hHeld => ?_)
      clear hK K
      refine norm_ (a':=?_) ?_ ?_
      rotate_left
      ·show Act.put _ (some 40) _ = _
       simp only [Act.put,sx_,sy_,sz_,i64_w,i32_w]
       rfl
      refine one_ (i:=9) (N:=some 41) #[true,true,true,true,true,true,true,true,true,true,false,false] rfl rfl (one_of HT_.out (by kernel_rfl)) (by decide) (fun K hK => ?_)
      refine Kd.Q_append_step (Kd.int .i64) w.heap.size (by rfl) (.tmp 33) (.tmp 40) 23 3 (.int .i64 0) 8 rfl Try.underlying23 info3 rfl (by decide) (by omega) u221003 x221003_1 (wrap64 (1 + t241)) [.int .i64 (wrap64 (1 + t241))] (fun k_ => some k_ ≠ (.slice Ao25 y233.length co25 : Value).ownBlock ∧ some k_ ≠ (.slice Ao31 y236.length co31 : Value).ownBlock) (fun _ => False) rfl rfl ?aP (fun _ hk => hk.elim) ?aF ?aO (Below.refl _ _) ?aS ?aL ?_
      (case aP => exact rfl)
      (case aF => exact (fun k_ hk => ⟨Kd.fresh' (Kd.R_lt (qr_ HO235)) k_ hk,Kd.fresh' (Kd.R_lt (qr_ HO238)) k_ hk⟩))
      (case aO => exact (by (with_reducible repeat (first|apply Kd.Q_alloc|apply Kd.Q_drewN|apply Kd.Q_drew));exact HO_221003.out))
      (case aS => exact (keep_size (w:=w) (g:=g) (row:=none) (by repeat (first|(with_reducible first|exact HK.out|apply KeepBut.set_|apply keep_drewN|apply keep_drew|apply keep_alloc|refine keep_far ?_ GW219.out _|refine keep_far ?_ GW220.out _)|exact HK.out))))
      (case aL => have:=LMc21.out;omega)
      intro v244 w34 ho hb hg hat
      rw [← Ny243.out] at ho
      have n0_:=mk_ (Kd.R_over' (qr_ HO_221001) (Kd.Q_typed (by (with_reducible repeat (first|apply Kd.Q_alloc|apply Kd.Q_drewN|apply Kd.Q_drew));exact HO_221003.out)) (by decide) hg)
      have n1_:=mk_ (blk_grown (g:=gb219) (o:=.cells #[.int .i64 0,.slice none 0 0,.slice none 0 0,.slice none 0 0] 30 (0,0)) (qk_ BK219) hg (Kd.Q_ne HO_221003.out BK219.out (by decide)))
      have n2_:=mk_ (blk_grown (g:=gb220) (o:=.cells #[.int .i64 t221,.slice Ao11 t222.length co11,.slice Ao25 y233.length co25,u221003] 30 (0,0)) (qk_ BK220) hg (Kd.Q_ne HO_221003.out BK220.out (by decide)))
      have n3_:=mk_ (IsS84.grown (by repeat (first|(with_reducible first|exact HI0.out|apply IsS84.alloc|apply IsS84.drewN|apply IsS84.drew|apply IsS84.set_1|refine IsS84.far ?_ NB0_219.out _|refine IsS84.far ?_ NB0_220.out _)|exact HI0.out)) hg (IsS84.own_neQ HI0.out HO_221003.out (by decide)))
      have n4_:=mk_ (Kd.R_after (ok:=(fun k_ => some k_ ≠ (.slice Ao31 y236.length co31 : Value).ownBlock)) (by (with_reducible repeat (first|apply ra_|apply rn_|apply rd_));exact rm_ HO235.out (fun _ hk => ⟨hk.2,hk.1⟩)) hg hat)
      have n5_:=mk_ (Kd.R_after (ok:=(fun k_ => some k_ ≠ (.slice Ao25 y233.length co25 : Value).ownBlock)) (by (with_reducible repeat (first|apply ra_|apply rn_|apply rd_));exact rm_ HO238.out (fun _ hk => ⟨hk.2,hk.1.2⟩)) hg hat)
      have n6_:=mk_ (below_weaken (by repeat (first|(with_reducible first|exact HB.out|apply ba_|apply bn_|apply bd_|refine bs_ ?_ (IsS84.ge HI0.out)|refine bs_ ?_ GE219.out|refine bs_ ?_ GE220.out)|exact HB.out)) HL.out hb)
      have n7_:=mk_ (KeepBut.trans (by repeat (first|(with_reducible first|exact HK.out|apply KeepBut.set_|apply keep_drewN|apply keep_drew|apply keep_alloc|refine keep_far ?_ GW219.out _|refine keep_far ?_ GW220.out _)|exact HK.out)) (KeepBut.of_grown hg g) (Kd.Q_base2 HO_221003.out))
      have n8_:=mk_ (ho)
      clear HO_221001
      clear BK219
      clear BK220
      clear HI0
      clear HO235
      clear HO238
      clear HB
      clear HK
      clear HO_221003
      have HO_221001:=n0_
      have BK219:=n1_
      have BK220:=n2_
      have HI0:=n3_
      have HO235:=n4_
      have HO238:=n5_
      have HB:=n6_
      have HK:=n7_
      have HO245:=n8_
      clear n0_ n1_ n2_ n3_ n4_ n5_ n6_ n7_ n8_
      clear ho hb hg hat
      obtain ⟨Ao35,co35,eo35,_⟩:=Kd.Q_slice HO245.out
      (first|subst eo35|(injection eo35 with f1_ f2_ f3_;have f4_:=f1_.symm;have f5_:=f3_.symm;clear f1_ f2_ f3_;subst f4_;subst f5_))
      refine hK.out _ _ ⟨(bc_ BK220.out 0).trans rfl,(bc_ BK220.out 1).trans rfl,(bc_ BK220.out 2).trans rfl,(bc_ BK220.out 3).trans rfl⟩ (fun hHeld => ?_)
      clear hK K
      refine norm_ (a':=?_) ?_ ?_
      rotate_left
      ·show Act.put _ (some 41) _ = _
       simp only [Act.put,sx_,sy_,sz_,i64_w,i32_w]
       rfl
      refine pure_ (i:=10) (N:=some 42) (v:=?_) (a':=?_) #[true,true,true,true,true,true,true,true,true,true,true,false] rfl rfl (any_of HT_.out (by kernel_rfl)) (fun _ _ _ h => h) (Or.inl ⟨by rfl,?_⟩) ?_ ?_
      rotate_left
      ·intro w'
       go_simp
       with_reducible rfl
      rotate_left
      ·simp only [Act.put,sx_,sy_,sz_,i64_w,i32_w]
       rfl
      refine last_ (i:=11) (N:=none) #[true,true,true,true,true,true,true,true,true,true,true,true] rfl rfl (one_of HT_.out (by kernel_rfl)) (by decide) (fun K hK => ?_)
      have hs36 : w34.cell? ⟨gb220,3,none⟩ = some (u221003):=(bc_ BK220.out 3).trans rfl
      have hfs36:=bf_ BK220.out 3
      have hns36_0:=NB219_220.out
      have hms36_0:=NB220_219.out
      refine skip_ (w1:=?_) (by rfl) rfl ?_ ?_
      rotate_left
      ·go_simp
       rfl
      refine hK.out _ _ ?_
      clear hK K
      refine done_ (done_of HT_.out (by kernel_rfl)) ?_
      try go_wp2
      go_roundg k1
      case measure => have:=HK1.out;omega
      case rel => exact ⟨(wrap64 (x6_1 - 1)),(t242),(y233),(y243),(.slice Ao25 y233.length co25),(.slice Ao35 y243.length co35),(by first|rfl|(simp;done)|(simp [*];done)),H',⟨by have:=HK1.out;omega⟩,⟨by (with_reducible repeat (first|apply ra_|apply rn_|apply rd_));exact rm_ (rf_ (p:=⟨gb220,3,none⟩) (rt_ HO_221001.out BK220.out (by decide)) (fun _ hk => hk.2) (.slice Ao35 y243.length co35)) (fun _ hk => trivial)⟩,⟨by (with_reducible repeat (first|apply ra_|apply rn_|apply rd_));exact rm_ (rf_ (p:=⟨gb220,3,none⟩) (rt_ HO235.out BK220.out (by decide)) (fun _ hk => hk.2) (.slice Ao35 y243.length co35)) (fun _ hk => hk.1.2)⟩,⟨by (with_reducible repeat (first|apply Kd.Q_alloc|apply Kd.Q_drewN|apply Kd.Q_drew));exact Kd.Q_mono (Kd.Q_far (p:=⟨gb220,3,none⟩) (Kd.Q_types HO245.out BK220.out (by decide)) (fun _ hk => hk.2) (.slice Ao35 y243.length co35)) (fun _ hk => hk.1.1)⟩,⟨by (with_reducible repeat (first|refine kn_ ?_ _|refine kd_ ?_|refine ka_ ?_ _));refine blk_far ?_ NB219_220.out _;(with_reducible repeat (first|refine kn_ ?_ _|refine kd_ ?_|refine ka_ ?_ _));exact BK219.out⟩,⟨by (with_reducible repeat (first|refine kn_ ?_ _|refine kd_ ?_|refine ka_ ?_ _));refine blk_put (cs:=#[.int .i64 t221,.slice Ao11 t222.length co11,.slice Ao25 y233.length co25,u221003]) ?_ 3 _ rfl;(with_reducible repeat (first|refine kn_ ?_ _|refine kd_ ?_|refine ka_ ?_ _));exact BK220.out⟩,⟨by repeat (first|(with_reducible first|exact HI0.out|apply IsS84.alloc|apply IsS84.drewN|apply IsS84.drew|apply IsS84.set_1|refine IsS84.far ?_ NB0_219.out _|refine IsS84.far ?_ NB0_220.out _)|exact HI0.out)⟩,⟨by repeat (first|(with_reducible first|exact HK.out|apply KeepBut.set_|apply keep_drewN|apply keep_drew|apply keep_alloc|refine keep_far ?_ GW219.out _|refine keep_far ?_ GW220.out _)|exact HK.out)⟩,⟨by repeat (first|(with_reducible first|exact HB.out|apply ba_|apply bn_|apply bd_|refine bs_ ?_ (IsS84.ge HI0.out)|refine bs_ ?_ GE219.out|refine bs_ ?_ GE220.out)|exact HB.out)⟩⟩
     ·rw [if_neg c21] at H
      exact absurd H (by simp)
    ·rw [if_neg c18] at H
     exact absurd H (by simp)
   ·rw [if_neg c16] at H
    have c16b0 : decide (0 < x6_1) = false:=decide_eq_false c16
    clear c16
    replace H:=Option.bind_eq_some_iff.mp H
    obtain ⟨⟨t246,t247⟩,A370,H⟩:=H
    replace H : (if t246 = 0 then (if 0 < (x221002_1.length : Int) then (some (t221,t222,(x221002_1.set (0 : Int).toNat t221),x221003_1,t247)) else (none)) else (if t246 = 1 then (if 0 < (x221003_1.length : Int) then (some (t221,t222,x221002_1,(x221003_1.set (0 : Int).toNat 0),t247)) else (none)) else (if t246 = 2 then (if 1 ≤ (x221003_1.length : Int) then (some (t221,t222,x221002_1,(x221003_1.drop (1 : Int).toNat),t247)) else (none)) else (if t246 = 3 then (some (9,t222,x221002_1,x221003_1,t247)) else (some (t221,t222,x221002_1,x221003_1,t247)))))) = some (r1,r2,r3,r4,r5):=H
    have A37:=mk_ A370
    clear A370
    by_cases c38 : t246 = 0
    ·rw [if_pos c38] at H
     have c38b0 : (t246 == 0) = true:=beq_iff_eq.mpr c38
     have c38b1 : (t246 != 0) = false:=bne_eq_false_iff_eq.mpr c38
     clear c38
     by_cases c39 : 0 < (x221002_1.length : Int)
     ·rw [if_pos c39] at H
      have c39b0 : decide (0 < (x221002_1.length : Int)) = true:=decide_eq_true c39
      have c39b1 : decide (0 < x221002_1.length) = true:=decide_eq_true (by omega)
      clear c39
      obtain ⟨y248,hy248⟩ : ∃ y_ : List Int,y_ = (x221002_1.set (0 : Int).toNat t221):=⟨_,rfl⟩
      replace H : (some (t221,t222,y248,x221003_1,t247)) = some (r1,r2,r3,r4,r5):=by first|(rw [hy248];with_reducible exact H)|(have H2_:=(Option.bind_some _ _).symm.trans H;rw [hy248];with_reducible exact H2_)|(have H2_:=(Option.bind_some _ _).symm.trans H;with_reducible exact H2_)|with_reducible exact H|(rw [hy248];exact H)|exact H
      have Ny248:=mk_ hy248
      clear hy248
      simp only [Option.some.injEq,Prod.mk.injEq] at H
      obtain ⟨rfl,rfl,rfl,rfl,rfl⟩:=H
      go_wp2_with (first|((with_reducible refine gate_callee (f:=53) rfl ?_);refine goesL_ (some 44) rfl rfl Try.func53 (by kernel_rfl) rfl #[.pointer (some ⟨g,0,none⟩),.int .i64 80] rfl qm_ ?_;(with_reducible refine (spec_l21Rd_pick.calls k1 g s0_0 x1001_1 80 t246 t247 w0 _ ?side1 ?side2 A37.out).mono ?_);(case side1 => repeat (first|(with_reducible first|exact HI0.out|apply IsS84.alloc|apply IsS84.drewN|apply IsS84.drew|apply IsS84.set_1|refine IsS84.far ?_ NB0_219.out _|refine IsS84.far ?_ NB0_220.out _)|exact HI0.out));(case side2 => repeat (first|(with_reducible first|exact HB.out|apply ba_|apply bn_|apply bd_|refine bs_ ?_ (IsS84.ge HI0.out)|refine bs_ ?_ GE219.out|refine bs_ ?_ GE220.out)|exact HB.out));rintro e w41 ⟨rfl,hi,hb,hk⟩;refine ⟨_,rfl,?_⟩;have n0_:=mk_ (rm_ (Kd.R_keep (IsS84.apart (show IsS84 w0 _ g s0_0 x1001_1 from by repeat (first|(with_reducible first|exact HI0.out|apply IsS84.alloc|apply IsS84.drewN|apply IsS84.drew|apply IsS84.set_1|refine IsS84.far ?_ NB0_219.out _|refine IsS84.far ?_ NB0_220.out _)|exact HI0.out)) (qr_ HO_221001) (by decide)) hk (fun _ h => h.2)) (fun _ h => h.1));have n1_:=mk_ (rm_ (Kd.R_keep (IsS84.apart (show IsS84 w0 _ g s0_0 x1001_1 from by repeat (first|(with_reducible first|exact HI0.out|apply IsS84.alloc|apply IsS84.drewN|apply IsS84.drew|apply IsS84.set_1|refine IsS84.far ?_ NB0_219.out _|refine IsS84.far ?_ NB0_220.out _)|exact HI0.out)) (qr_ HO_221002) (by decide)) hk (fun _ h => h.2)) (fun _ h => h.1));have n2_:=mk_ (Kd.Q_mono (Kd.Q_keep (IsS84.apartQ (show IsS84 w0 _ g s0_0 x1001_1 from by repeat (first|(with_reducible first|exact HI0.out|apply IsS84.alloc|apply IsS84.drewN|apply IsS84.drew|apply IsS84.set_1|refine IsS84.far ?_ NB0_219.out _|refine IsS84.far ?_ NB0_220.out _)|exact HI0.out)) (by (with_reducible repeat (first|apply Kd.Q_alloc|apply Kd.Q_drewN|apply Kd.Q_drew));exact HO_221003.out) (by decide)) hk (fun _ h => h.2)) (fun _ h => h.1));have n3_:=mk_ (KeepBut.blk hk (g':=gb219) (o:=.cells #[.int .i64 0,.slice none 0 0,.slice none 0 0,.slice none 0 0] 30 (0,0)) (qk_ BK219) NB219_0.out (by simp));have n4_:=mk_ (KeepBut.blk hk (g':=gb220) (o:=.cells #[.int .i64 t221,.slice Ao11 t222.length co11,u221002,u221003] 30 (0,0)) (qk_ BK220) NB220_0.out (by simp));have n5_:=mk_ (KeepBut.trans (by repeat (first|(with_reducible first|exact HK.out|apply KeepBut.set_|apply keep_drewN|apply keep_drew|apply keep_alloc|refine keep_far ?_ GW219.out _|refine keep_far ?_ GW220.out _)|exact HK.out)) hk (.inl rfl));have n6_:=mk_ (hb);have n7_:=mk_ (hi);clear HO_221001;clear HO_221002;clear HO_221003;clear BK219;clear BK220;clear HK;clear HB;clear HI0;have HO_221001:=n0_;have HO_221002:=n1_;have HO_221003:=n2_;have BK219:=n3_;have BK220:=n4_;have HK:=n5_;have HB:=n6_;have HI0:=n7_;clear n0_ n1_ n2_ n3_ n4_ n5_ n6_ n7_;(try clear hb);(try clear hb2);(try clear hk);(try clear hi);have hnb42:=NB220_219.out;have hnc42:=NB219_220.out;have hnb43:=NB220_0.out;have hnc43:=NB0_220.out;have hcz44_0 : w41.cell? ⟨gb220,0,none⟩ = some (.int .i64 t221):=(bc_ BK220.out 0).trans rfl;have hcz44_1 : w41.cell? ⟨gb220,1,none⟩ = some (.slice Ao11 t222.length co11):=(bc_ BK220.out 1).trans rfl;have hcz44_2 : w41.cell? ⟨gb220,2,none⟩ = some (u221002):=(bc_ BK220.out 2).trans rfl;have hcz44_3 : w41.cell? ⟨gb220,3,none⟩ = some (u221003):=(bc_ BK220.out 3).trans rfl;have hfz44_0:=bf_ BK220.out 0;have hfz44_1:=bf_ BK220.out 1;have hfz44_2:=bf_ BK220.out 2;have hfz44_3:=bf_ BK220.out 3;have p40 : 0 ≤ (0 : Int):=(by omega);have q40 : (0 : Int) < ((x221002_1.length : Int) : Int):=od_ qa_;have qi40 : (0 < x221002_1.length) = True:=eq_true (by omega);obtain ⟨go40,co40,eo40,gb40,gl40,cl40,HG40⟩:=Kd.R_form HO_221002.out (by omega);(first|cases eo40|(injection eo40 with ea_ en_ ec_;(first|subst ea_|(injection ea_ with ea_;subst ea_));subst ec_;clear en_));have GB40:=mk_ gb40;have GG40:=mk_ HG40;clear gb40 gl40 HG40;obtain ⟨hx40_0,hf40_0⟩:=Kd.R_celln 0 HO_221002.out (0 : Int) p40 q40;(try rw [show ((0 : Int)).toNat = 0 from rfl] at hx40_0);(try simp only [Nat.reduceMul,Nat.zero_mul,Nat.zero_add,Nat.add_zero,Nat.reduceAdd] at hx40_0);(try rw [show ((0 : Int)).toNat = 0 from rfl] at hf40_0);(try simp only [Nat.reduceMul,Nat.zero_mul,Nat.zero_add,Nat.add_zero,Nat.reduceAdd] at hf40_0);replace p40:=eq_true p40;replace q40:=eq_true q40;obtain ⟨hy45_,hz45_⟩:=Kd.R_celln 0 HO_221002.out (0 : Int) (by omega) (od_ qa_);(try simp only [Int.reduceToNat,Int.toNat_zero,Int.toNat_ofNat,Nat.reduceMul,Nat.zero_mul,Nat.zero_add,Nat.add_zero] at hy45_ hz45_);(try rw [show ((0 : Int)).toNat = 0 from rfl] at hy45_);(try rw [show ((0 : Int)).toNat = 0 from rfl] at hz45_);have HP45:=Kd.R_putg HO_221002.out (0 : Int) t221)|((with_reducible refine gate_store (t:=3) (p:=50) rfl ?_);refine store_event (t:=3) (p:=50) (v:=?vo_w46) (w1:=(w41.setCell ⟨go40,(0 : Int).toNat,none⟩ (.int .i64 t221))) ?hg ?ho ?hn ?hr ?_;(case ho => rfl);(case hg => rfl);(case hn => rfl);(case hr => first|(go_simp;done)|(go_simp;rfl));intro w46 hw;have hg : w41.grownBy w46 (some go40):=(by rw [hw];exact HP45.2);have hp_ : Kd.R (Kd.int .i64) 3 w46 w.heap.size (fun k_ => some k_ ≠ (u221003 : Value).ownBlock) (.slice (some ⟨go40,0,none⟩) x221002_1.length co40) y248:=(by rw [hw,Ny248.out];exact HP45.1);clear HP45;have n0_:=mk_ (Kd.R_over' (v:=(.slice (some ⟨go40,0,none⟩) x221002_1.length co40)) (qr_ HO_221001) (Kd.R_typed HO_221002.out) (by decide) hg);have n1_:=mk_ (hp_);have n2_:=mk_ (Kd.Q_after (v:=(.slice (some ⟨go40,0,none⟩) x221002_1.length co40)) (v1:=(.slice (some ⟨go40,0,none⟩) x221002_1.length co40)) (ok:=(fun _ => True)) (by (with_reducible repeat (first|apply Kd.Q_alloc|apply Kd.Q_drewN|apply Kd.Q_drew));exact Kd.Q_mono HO_221003.out (fun _ hk => ⟨trivial,hk⟩)) hg (.inl rfl));have n3_:=mk_ (blk_grown (g:=gb219) (o:=.cells #[.int .i64 0,.slice none 0 0,.slice none 0 0,.slice none 0 0] 30 (0,0)) (qk_ BK219) hg (Kd.R_ne HO_221002.out BK219.out (by decide)));have n4_:=mk_ (blk_grown (g:=gb220) (o:=.cells #[.int .i64 t221,.slice Ao11 t222.length co11,.slice (some ⟨go40,0,none⟩) x221002_1.length co40,u221003] 30 (0,0)) (qk_ BK220) hg (Kd.R_ne HO_221002.out BK220.out (by decide)));have n5_:=mk_ (IsS84.grown (by repeat (first|(with_reducible first|exact HI0.out|apply IsS84.alloc|apply IsS84.drewN|apply IsS84.drew|apply IsS84.set_1|refine IsS84.far ?_ NB0_219.out _|refine IsS84.far ?_ NB0_220.out _)|exact HI0.out)) hg (IsS84.own_ne HI0.out HO_221002.out (by decide)));have n6_:=mk_ ((by rw [hw];exact bs_ (HB.out) (Nat.le_trans HL.out GB40.out) : Below w0.heap.size w0 w46));have n7_:=mk_ (KeepBut.trans (by repeat (first|(with_reducible first|exact HK.out|apply KeepBut.set_|apply keep_drewN|apply keep_drew|apply keep_alloc|refine keep_far ?_ GW219.out _|refine keep_far ?_ GW220.out _)|exact HK.out)) (KeepBut.of_grown hg g) (Kd.R_base2 HO_221002.out));clear HO_221001;clear HO_221002;clear HO_221003;clear BK219;clear BK220;clear HI0;clear HB;clear HK;have HO_221001:=n0_;have HO_221002:=n1_;have HO_221003:=n2_;have BK219:=n3_;have BK220:=n4_;have HI0:=n5_;have HB:=n6_;have HK:=n7_;clear n0_ n1_ n2_ n3_ n4_ n5_ n6_ n7_;clear hg hw hp_;have hcz47_0 : w46.cell? ⟨gb220,0,none⟩ = some (.int .i64 t221):=(bc_ BK220.out 0).trans rfl;have hcz47_1 : w46.cell? ⟨gb220,1,none⟩ = some (.slice Ao11 t222.length co11):=(bc_ BK220.out 1).trans rfl;have hcz47_2 : w46.cell? ⟨gb220,2,none⟩ = some (.slice (some ⟨go40,0,none⟩) x221002_1.length co40):=(bc_ BK220.out 2).trans rfl;have hcz47_3 : w46.cell? ⟨gb220,3,none⟩ = some (u221003):=(bc_ BK220.out 3).trans rfl;have hfz47_0:=bf_ BK220.out 0;have hfz47_1:=bf_ BK220.out 1;have hfz47_2:=bf_ BK220.out 2;have hfz47_3:=bf_ BK220.out 3;have hnb48:=NB219_0.out;have hnc48:=NB0_219.out;have hcz49_0 : w46.cell? ⟨gb219,0,none⟩ = some (.int .i64 0):=(bc_ BK219.out 0).trans rfl;have hcz49_1 : w46.cell? ⟨gb219,1,none⟩ = some (.slice none 0 0):=(bc_ BK219.out 1).trans rfl;have hcz49_2 : w46.cell? ⟨gb219,2,none⟩ = some (.slice none 0 0):=(bc_ BK219.out 2).trans rfl;have hcz49_3 : w46.cell? ⟨gb219,3,none⟩ = some (.slice none 0 0):=(bc_ BK219.out 3).trans rfl;have hfz49_0:=bf_ BK219.out 0;have hfz49_1:=bf_ BK219.out 1;have hfz49_2:=bf_ BK219.out 2;have hfz49_3:=bf_ BK219.out 3;obtain ⟨Ao50,co50,eo50,_⟩:=Kd.Q_slice HO_221003.out;subst eo50))
      refine bodyPost_ret (results_cell_row rfl _ _ gb219 30 #[.int .i64 t221,.slice Ao11 t222.length co11,.slice (some ⟨go40,0,none⟩) x221002_1.length co40,.slice Ao50 x221003_1.length co50] (0,0) _ rfl (by (with_reducible repeat (first|refine kn_ ?_ _|refine kd_ ?_|refine ka_ ?_ _));refine blk_put (cs:=#[.int .i64 t221,.slice Ao11 t222.length co11,.slice (some ⟨go40,0,none⟩) x221002_1.length co40,.slice none 0 0]) ?_ 3 _ rfl;(with_reducible repeat (first|refine kn_ ?_ _|refine kd_ ?_|refine ka_ ?_ _));refine blk_put (cs:=#[.int .i64 t221,.slice Ao11 t222.length co11,.slice none 0 0,.slice none 0 0]) ?_ 2 _ rfl;(with_reducible repeat (first|refine kn_ ?_ _|refine kd_ ?_|refine ka_ ?_ _));refine blk_put (cs:=#[.int .i64 t221,.slice none 0 0,.slice none 0 0,.slice none 0 0]) ?_ 1 _ rfl;(with_reducible repeat (first|refine kn_ ?_ _|refine kd_ ?_|refine ka_ ?_ _));refine blk_put (cs:=#[.int .i64 0,.slice none 0 0,.slice none 0 0,.slice none 0 0]) ?_ 0 _ rfl;(with_reducible repeat (first|refine kn_ ?_ _|refine kd_ ?_|refine ka_ ?_ _));exact BK219.out) Try.underlying30 rfl (by kernel_rfl)) rfl ?_
      exact ⟨_,_,_,by first|rfl|(simp [errW_none,errW_some] <;> rfl)|(simp [*,errW_none,errW_some] <;> rfl),by (with_reducible repeat (first|apply ra_|apply rn_|apply rd_));exact rm_ (rf_ (p:=⟨gb219,3,none⟩) (rf_ (p:=⟨gb219,2,none⟩) (rf_ (p:=⟨gb219,1,none⟩) (rf_ (p:=⟨gb219,0,none⟩) (rt_ HO_221001.out BK219.out (by decide)) (fun _ hk => hk.2) (.int .i64 t221)) (fun _ hk => hk.2) (.slice Ao11 t222.length co11)) (fun _ hk => hk.2) (.slice (some ⟨go40,0,none⟩) x221002_1.length co40)) (fun _ hk => hk.2) (.slice Ao50 x221003_1.length co50)) (fun _ hk => trivial),by (with_reducible repeat (first|apply ra_|apply rn_|apply rd_));exact rm_ (rf_ (p:=⟨gb219,3,none⟩) (rf_ (p:=⟨gb219,2,none⟩) (rf_ (p:=⟨gb219,1,none⟩) (rf_ (p:=⟨gb219,0,none⟩) (rt_ HO_221002.out BK219.out (by decide)) (fun _ hk => hk.2) (.int .i64 t221)) (fun _ hk => hk.2) (.slice Ao11 t222.length co11)) (fun _ hk => hk.2) (.slice (some ⟨go40,0,none⟩) x221002_1.length co40)) (fun _ hk => hk.2) (.slice Ao50 x221003_1.length co50)) (fun _ hk => hk.1),by (with_reducible repeat (first|apply Kd.Q_alloc|apply Kd.Q_drewN|apply Kd.Q_drew));exact Kd.Q_mono (Kd.Q_far (p:=⟨gb219,3,none⟩) (Kd.Q_far (p:=⟨gb219,2,none⟩) (Kd.Q_far (p:=⟨gb219,1,none⟩) (Kd.Q_far (p:=⟨gb219,0,none⟩) (Kd.Q_types HO_221003.out BK219.out (by decide)) (fun _ hk => hk.2) (.int .i64 t221)) (fun _ hk => hk.2) (.slice Ao11 t222.length co11)) (fun _ hk => hk.2) (.slice (some ⟨go40,0,none⟩) x221002_1.length co40)) (fun _ hk => hk.2) (.slice Ao50 x221003_1.length co50)) (fun _ hk => hk.1.2),by repeat (first|(with_reducible first|exact HI0.out|apply IsS84.alloc|apply IsS84.drewN|apply IsS84.drew|apply IsS84.set_1|refine IsS84.far ?_ NB0_219.out _|refine IsS84.far ?_ NB0_220.out _)|exact HI0.out),by repeat (first|(with_reducible first|exact HB.out|apply ba_|apply bn_|apply bd_|refine bs_ ?_ (IsS84.ge HI0.out)|refine bs_ ?_ GE219.out|refine bs_ ?_ GE220.out)|exact HB.out),by repeat (first|(with_reducible first|exact HK.out|apply KeepBut.set_|apply keep_drewN|apply keep_drew|apply keep_alloc|refine keep_far ?_ GW219.out _|refine keep_far ?_ GW220.out _)|exact HK.out)⟩
     ·rw [if_neg c39] at H
      exact absurd H (by simp)
    ·rw [if_neg c38] at H
     have c38b0 : (t246 == 0) = false:=beq_eq_false_iff_ne.mpr c38
     have c38b1 : (t246 != 0) = true:=bne_iff_ne.mpr c38
     by_cases c51 : t246 = 1
     ·rw [if_pos c51] at H
      have c51b0 : (t246 == 1) = true:=beq_iff_eq.mpr c51
      have c51b1 : (t246 != 1) = false:=bne_eq_false_iff_eq.mpr c51
      clear c51
      by_cases c52 : 0 < (x221003_1.length : Int)
      ·rw [if_pos c52] at H
       have c52b0 : decide (0 < (x221003_1.length : Int)) = true:=decide_eq_true c52
       have c52b1 : decide (0 < x221003_1.length) = true:=decide_eq_true (by omega)
       clear c52
       obtain ⟨y249,hy249⟩ : ∃ y_ : List Int,y_ = (x221003_1.set (0 : Int).toNat 0):=⟨_,rfl⟩
       replace H : (some (t221,t222,x221002_1,y249,t247)) = some (r1,r2,r3,r4,r5):=by first|(rw [hy249];with_reducible exact H)|(have H2_:=(Option.bind_some _ _).symm.trans H;rw [hy249];with_reducible exact H2_)|(have H2_:=(Option.bind_some _ _).symm.trans H;with_reducible exact H2_)|with_reducible exact H|(rw [hy249];exact H)|exact H
       have Ny249:=mk_ hy249
       clear hy249
       simp only [Option.some.injEq,Prod.mk.injEq] at H
       obtain ⟨rfl,rfl,rfl,rfl,rfl⟩:=H
       go_wp2_with (first|((with_reducible refine gate_callee (f:=53) rfl ?_);refine goesL_ (some 44) rfl rfl Try.func53 (by kernel_rfl) rfl #[.pointer (some ⟨g,0,none⟩),.int .i64 80] rfl qm_ ?_;(with_reducible refine (spec_l21Rd_pick.calls k1 g s0_0 x1001_1 80 t246 t247 w0 _ ?side1 ?side2 A37.out).mono ?_);(case side1 => repeat (first|(with_reducible first|exact HI0.out|apply IsS84.alloc|apply IsS84.drewN|apply IsS84.drew|apply IsS84.set_1|refine IsS84.far ?_ NB0_219.out _|refine IsS84.far ?_ NB0_220.out _)|exact HI0.out));(case side2 => repeat (first|(with_reducible first|exact HB.out|apply ba_|apply bn_|apply bd_|refine bs_ ?_ (IsS84.ge HI0.out)|refine bs_ ?_ GE219.out|refine bs_ ?_ GE220.out)|exact HB.out));rintro e w54 ⟨rfl,hi,hb,hk⟩;refine ⟨_,rfl,?_⟩;have n0_:=mk_ (rm_ (Kd.R_keep (IsS84.apart (show IsS84 w0 _ g s0_0 x1001_1 from by repeat (first|(with_reducible first|exact HI0.out|apply IsS84.alloc|apply IsS84.drewN|apply IsS84.drew|apply IsS84.set_1|refine IsS84.far ?_ NB0_219.out _|refine IsS84.far ?_ NB0_220.out _)|exact HI0.out)) (qr_ HO_221001) (by decide)) hk (fun _ h => h.2)) (fun _ h => h.1));have n1_:=mk_ (rm_ (Kd.R_keep (IsS84.apart (show IsS84 w0 _ g s0_0 x1001_1 from by repeat (first|(with_reducible first|exact HI0.out|apply IsS84.alloc|apply IsS84.drewN|apply IsS84.drew|apply IsS84.set_1|refine IsS84.far ?_ NB0_219.out _|refine IsS84.far ?_ NB0_220.out _)|exact HI0.out)) (qr_ HO_221002) (by decide)) hk (fun _ h => h.2)) (fun _ h => h.1));have n2_:=mk_ (Kd.Q_mono (Kd.Q_keep (IsS84.apartQ (show IsS84 w0 _ g s0_0 x1001_1 from by repeat (first|(with_reducible first|exact HI0.out|apply IsS84.alloc|apply IsS84.drewN|apply IsS84.drew|apply IsS84.set_1|refine IsS84.far ?_ NB0_219.out _|refine IsS84.far ?_ NB0_220.out _)|exact HI0.out)) (by (with_reducible repeat (first|apply Kd.Q_alloc|apply Kd.Q_drewN|apply Kd.Q_drew));exact HO_221003.out) (by decide)) hk (fun _ h => h.2)) (fun _ h => h.1));have n3_:=mk_ (KeepBut.blk hk (g':=gb219) (o:=.cells #[.int .i64 0,.slice none 0 0,.slice none 0 0,.slice none 0 0] 30 (0,0)) (qk_ BK219) NB219_0.out (by simp));have n4_:=mk_ (KeepBut.blk hk (g':=gb220) (o:=.cells #[.int .i64 t221,.slice Ao11 t222.length co11,u221002,u221003] 30 (0,0)) (qk_ BK220) NB220_0.out (by simp));have n5_:=mk_ (KeepBut.trans (by repeat (first|(with_reducible first|exact HK.out|apply KeepBut.set_|apply keep_drewN|apply keep_drew|apply keep_alloc|refine keep_far ?_ GW219.out _|refine keep_far ?_ GW220.out _)|exact HK.out)) hk (.inl rfl));have n6_:=mk_ (hb);have n7_:=mk_ (hi);clear HO_221001;clear HO_221002;clear HO_221003;clear BK219;clear BK220;clear HK;clear HB;clear HI0;have HO_221001:=n0_;have HO_221002:=n1_;have HO_221003:=n2_;have BK219:=n3_;have BK220:=n4_;have HK:=n5_;have HB:=n6_;have HI0:=n7_;clear n0_ n1_ n2_ n3_ n4_ n5_ n6_ n7_;(try clear hb);(try clear hb2);(try clear hk);(try clear hi);have hnb55:=NB220_219.out;have hnc55:=NB219_220.out;have hnb56:=NB220_0.out;have hnc56:=NB0_220.out;have hcz57_0 : w54.cell? ⟨gb220,0,none⟩ = some (.int .i64 t221):=(bc_ BK220.out 0).trans rfl;have hcz57_1 : w54.cell? ⟨gb220,1,none⟩ = some (.slice Ao11 t222.length co11):=(bc_ BK220.out 1).trans rfl;have hcz57_2 : w54.cell? ⟨gb220,2,none⟩ = some (u221002):=(bc_ BK220.out 2).trans rfl;have hcz57_3 : w54.cell? ⟨gb220,3,none⟩ = some (u221003):=(bc_ BK220.out 3).trans rfl;have hfz57_0:=bf_ BK220.out 0;have hfz57_1:=bf_ BK220.out 1;have hfz57_2:=bf_ BK220.out 2;have hfz57_3:=bf_ BK220.out 3;have p53 : 0 ≤ (0 : Int):=(by omega);have q53 : (0 : Int) < ((x221003_1.length : Int) : Int):=od_ qa_;have qi53 : (0 < x221003_1.length) = True:=eq_true (by omega);obtain ⟨go53,oo53,co53,eo53,gb53,gl53,cl53,HG53⟩:=Kd.Q_form HO_221003.out (by omega);(first|cases eo53|(injection eo53 with ea_ en_ ec_;(first|subst ea_|(injection ea_ with ea_;subst ea_));subst ec_;clear en_));have GB53:=mk_ gb53;have GG53:=mk_ HG53;clear gb53 gl53 HG53;obtain ⟨hx53_0,hf53_0⟩:=Kd.Q_cell 0 HO_221003.out (0 : Int) p53 q53;(try rw [show ((0 : Int)).toNat = 0 from rfl] at hx53_0);(try simp only [Nat.reduceMul,Nat.zero_mul,Nat.zero_add,Nat.add_zero,Nat.reduceAdd] at hx53_0);(try rw [show ((0 : Int)).toNat = 0 from rfl] at hf53_0);(try simp only [Nat.reduceMul,Nat.zero_mul,Nat.zero_add,Nat.add_zero,Nat.reduceAdd] at hf53_0);replace p53:=eq_true p53;replace q53:=eq_true q53;obtain ⟨hy58_,hz58_⟩:=Kd.Q_cell 0 HO_221003.out (0 : Int) (by omega) (od_ qa_);(try simp only [Int.reduceToNat,Int.toNat_zero,Int.toNat_ofNat,Nat.reduceMul,Nat.zero_mul,Nat.zero_add,Nat.add_zero] at hy58_ hz58_);(try rw [show ((0 : Int)).toNat = 0 from rfl] at hy58_);(try rw [show ((0 : Int)).toNat = 0 from rfl] at hz58_);have HP58:=Kd.Q_putg HO_221003.out (0 : Int) (by omega) (by have h_ : (0 : Int) < ((x221003_1.length : Int) : Int):=od_ qa_;first|exact h_|(have e_:=(Kd.Q_reads' HO_221003.out).1;omega)|simpa using h_) 0)|((with_reducible refine gate_store (t:=3) (p:=55) rfl ?_);refine store_event (t:=3) (p:=55) (v:=?vo_w59) (w1:=(w54.setCell ⟨go53,oo53 + (0 : Int).toNat,none⟩ (.int .i64 0))) ?hg ?ho ?hn ?hr ?_;(case ho => rfl);(case hg => rfl);(case hn => rfl);(case hr => first|(go_simp;done)|(go_simp;rfl));intro w59 hw;have hg : w54.grownBy w59 (some go53):=(by rw [hw];exact HP58.2);have hp_ : Kd.Q (Kd.int .i64) 3 w59 w.heap.size (fun k_ => some k_ ≠ (u221002 : Value).ownBlock) (.slice (some ⟨go53,oo53,none⟩) x221003_1.length co53) y249:=(by rw [hw,Ny249.out];exact HP58.1);clear HP58;have n0_:=mk_ (Kd.R_over' (v:=(.slice (some ⟨go53,oo53,none⟩) x221003_1.length co53)) (qr_ HO_221001) (Kd.Q_typed HO_221003.out) (by decide) hg);have n1_:=mk_ (Kd.R_after (v:=(.slice (some ⟨go53,oo53,none⟩) x221003_1.length co53)) (v1:=(.slice (some ⟨go53,oo53,none⟩) x221003_1.length co53)) (ok:=(fun _ => True)) (by (with_reducible repeat (first|apply ra_|apply rn_|apply rd_));exact rm_ HO_221002.out (fun _ hk => ⟨trivial,hk⟩)) hg (.inl rfl));have n2_:=mk_ (hp_);have n3_:=mk_ (blk_grown (g:=gb219) (o:=.cells #[.int .i64 0,.slice none 0 0,.slice none 0 0,.slice none 0 0] 30 (0,0)) (qk_ BK219) hg (Kd.Q_ne HO_221003.out BK219.out (by decide)));have n4_:=mk_ (blk_grown (g:=gb220) (o:=.cells #[.int .i64 t221,.slice Ao11 t222.length co11,u221002,.slice (some ⟨go53,oo53,none⟩) x221003_1.length co53] 30 (0,0)) (qk_ BK220) hg (Kd.Q_ne HO_221003.out BK220.out (by decide)));have n5_:=mk_ (IsS84.grown (by repeat (first|(with_reducible first|exact HI0.out|apply IsS84.alloc|apply IsS84.drewN|apply IsS84.drew|apply IsS84.set_1|refine IsS84.far ?_ NB0_219.out _|refine IsS84.far ?_ NB0_220.out _)|exact HI0.out)) hg (IsS84.own_neQ HI0.out HO_221003.out (by decide)));have n6_:=mk_ ((by rw [hw];exact bs_ (HB.out) (Nat.le_trans HL.out GB53.out) : Below w0.heap.size w0 w59));have n7_:=mk_ (KeepBut.trans (by repeat (first|(with_reducible first|exact HK.out|apply KeepBut.set_|apply keep_drewN|apply keep_drew|apply keep_alloc|refine keep_far ?_ GW219.out _|refine keep_far ?_ GW220.out _)|exact HK.out)) (KeepBut.of_grown hg g) (Kd.Q_base2 HO_221003.out));clear HO_221001;clear HO_221002;clear HO_221003;clear BK219;clear BK220;clear HI0;clear HB;clear HK;have HO_221001:=n0_;have HO_221002:=n1_;have HO_221003:=n2_;have BK219:=n3_;have BK220:=n4_;have HI0:=n5_;have HB:=n6_;have HK:=n7_;clear n0_ n1_ n2_ n3_ n4_ n5_ n6_ n7_;clear hg hw hp_;have hcz60_0 : w59.cell? ⟨gb220,0,none⟩ = some (.int .i64 t221):=(bc_ BK220.out 0).trans rfl;have hcz60_1 : w59.cell? ⟨gb220,1,none⟩ = some (.slice Ao11 t222.length co11):=(bc_ BK220.out 1).trans rfl;have hcz60_2 : w59.cell? ⟨gb220,2,none⟩ = some (u221002):=(bc_ BK220.out 2).trans rfl;have hcz60_3 : w59.cell? ⟨gb220,3,none⟩ = some (.slice (some ⟨go53,oo53,none⟩) x221003_1.length co53):=(bc_ BK220.out 3).trans rfl;have hfz60_0:=bf_ BK220.out 0;have hfz60_1:=bf_ BK220.out 1;have hfz60_2:=bf_ BK220.out 2;have hfz60_3:=bf_ BK220.out 3;have hnb61:=NB219_0.out;have hnc61:=NB0_219.out;have hcz62_0 : w59.cell? ⟨gb219,0,none⟩ = some (.int .i64 0):=(bc_ BK219.out 0).trans rfl;have hcz62_1 : w59.cell? ⟨gb219,1,none⟩ = some (.slice none 0 0):=(bc_ BK219.out 1).trans rfl;have hcz62_2 : w59.cell? ⟨gb219,2,none⟩ = some (.slice none 0 0):=(bc_ BK219.out 2).trans rfl;have hcz62_3 : w59.cell? ⟨gb219,3,none⟩ = some (.slice none 0 0):=(bc_ BK219.out 3).trans rfl;have hfz62_0:=bf_ BK219.out 0;have hfz62_1:=bf_ BK219.out 1;have hfz62_2:=bf_ BK219.out 2;have hfz62_3:=bf_ BK219.out 3;obtain ⟨Ao63,co63,eo63⟩:=Kd.R_slice HO_221002.out;subst eo63))
       refine bodyPost_ret (results_cell_row rfl _ _ gb219 30 #[.int .i64 t221,.slice Ao11 t222.length co11,.slice Ao63 x221002_1.length co63,.slice (some ⟨go53,oo53,none⟩) x221003_1.length co53] (0,0) _ rfl (by (with_reducible repeat (first|refine kn_ ?_ _|refine kd_ ?_|refine ka_ ?_ _));refine blk_put (cs:=#[.int .i64 t221,.slice Ao11 t222.length co11,.slice Ao63 x221002_1.length co63,.slice none 0 0]) ?_ 3 _ rfl;(with_reducible repeat (first|refine kn_ ?_ _|refine kd_ ?_|refine ka_ ?_ _));refine blk_put (cs:=#[.int .i64 t221,.slice Ao11 t222.length co11,.slice none 0 0,.slice none 0 0]) ?_ 2 _ rfl;(with_reducible repeat (first|refine kn_ ?_ _|refine kd_ ?_|refine ka_ ?_ _));refine blk_put (cs:=#[.int .i64 t221,.slice none 0 0,.slice none 0 0,.slice none 0 0]) ?_ 1 _ rfl;(with_reducible repeat (first|refine kn_ ?_ _|refine kd_ ?_|refine ka_ ?_ _));refine blk_put (cs:=#[.int .i64 0,.slice none 0 0,.slice none 0 0,.slice none 0 0]) ?_ 0 _ rfl;(with_reducible repeat (first|refine kn_ ?_ _|refine kd_ ?_|refine ka_ ?_ _));exact BK219.out) Try.underlying30 rfl (by kernel_rfl)) rfl ?_
       exact ⟨_,_,_,by first|rfl|(simp [errW_none,errW_some] <;> rfl)|(simp [*,errW_none,errW_some] <;> rfl),by (with_reducible repeat (first|apply ra_|apply rn_|apply rd_));exact rm_ (rf_ (p:=⟨gb219,3,none⟩) (rf_ (p:=⟨gb219,2,none⟩) (rf_ (p:=⟨gb219,1,none⟩) (rf_ (p:=⟨gb219,0,none⟩) (rt_ HO_221001.out BK219.out (by decide)) (fun _ hk => hk.2) (.int .i64 t221)) (fun _ hk => hk.2) (.slice Ao11 t222.length co11)) (fun _ hk => hk.2) (.slice Ao63 x221002_1.length co63)) (fun _ hk => hk.2) (.slice (some ⟨go53,oo53,none⟩) x221003_1.length co53)) (fun _ hk => trivial),by (with_reducible repeat (first|apply ra_|apply rn_|apply rd_));exact rm_ (rf_ (p:=⟨gb219,3,none⟩) (rf_ (p:=⟨gb219,2,none⟩) (rf_ (p:=⟨gb219,1,none⟩) (rf_ (p:=⟨gb219,0,none⟩) (rt_ HO_221002.out BK219.out (by decide)) (fun _ hk => hk.2) (.int .i64 t221)) (fun _ hk => hk.2) (.slice Ao11 t222.length co11)) (fun _ hk => hk.2) (.slice Ao63 x221002_1.length co63)) (fun _ hk => hk.2) (.slice (some ⟨go53,oo53,none⟩) x221003_1.length co53)) (fun _ hk => hk.1.2),by (with_reducible repeat (first|apply Kd.Q_alloc|apply Kd.Q_drewN|apply Kd.Q_drew));exact Kd.Q_mono (Kd.Q_far (p:=⟨gb219,3,none⟩) (Kd.Q_far (p:=⟨gb219,2,none⟩) (Kd.Q_far (p:=⟨gb219,1,none⟩) (Kd.Q_far (p:=⟨gb219,0,none⟩) (Kd.Q_types HO_221003.out BK219.out (by decide)) (fun _ hk => hk.2) (.int .i64 t221)) (fun _ hk => hk.2) (.slice Ao11 t222.length co11)) (fun _ hk => hk.2) (.slice Ao63 x221002_1.length co63)) (fun _ hk => hk.2) (.slice (some ⟨go53,oo53,none⟩) x221003_1.length co53)) (fun _ hk => hk.1),by repeat (first|(with_reducible first|exact HI0.out|apply IsS84.alloc|apply IsS84.drewN|apply IsS84.drew|apply IsS84.set_1|refine IsS84.far ?_ NB0_219.out _|refine IsS84.far ?_ NB0_220.out _)|exact HI0.out),by repeat (first|(with_reducible first|exact HB.out|apply ba_|apply bn_|apply bd_|refine bs_ ?_ (IsS84.ge HI0.out)|refine bs_ ?_ GE219.out|refine bs_ ?_ GE220.out)|exact HB.out),by repeat (first|(with_reducible first|exact HK.out|apply KeepBut.set_|apply keep_drewN|apply keep_drew|apply keep_alloc|refine keep_far ?_ GW219.out _|refine keep_far ?_ GW220.out _)|exact HK.out)⟩
      ·rw [if_neg c52] at H
       exact absurd H (by simp)
     ·rw [if_neg c51] at H
      have c51b0 : (t246 == 1) = false:=beq_eq_false_iff_ne.mpr c51
      have c51b1 : (t246 != 1) = true:=bne_iff_ne.mpr c51
      by_cases c64 : t246 = 2
      ·rw [if_pos c64] at H
       have c64b0 : (t246 == 2) = true:=beq_iff_eq.mpr c64
       have c64b1 : (t246 != 2) = false:=bne_eq_false_iff_eq.mpr c64
       clear c64
       by_cases c65 : 1 ≤ (x221003_1.length : Int)
       ·rw [if_pos c65] at H
        have c65b0:=eq_true c65
        have c65b1 : decide (1 ≤ (x221003_1.length : Int)) = true:=decide_eq_true c65
        clear c65
        obtain ⟨y250,hy250⟩ : ∃ y_ : List Int,y_ = (x221003_1.drop (1 : Int).toNat):=⟨_,rfl⟩
        replace H : (some (t221,t222,x221002_1,y250,t247)) = some (r1,r2,r3,r4,r5):=by first|(rw [hy250];with_reducible exact H)|(have H2_:=(Option.bind_some _ _).symm.trans H;rw [hy250];with_reducible exact H2_)|(have H2_:=(Option.bind_some _ _).symm.trans H;with_reducible exact H2_)|with_reducible exact H|(rw [hy250];exact H)|exact H
        have Ny250:=mk_ hy250
        clear hy250
        simp only [Option.some.injEq,Prod.mk.injEq] at H
        obtain ⟨rfl,rfl,rfl,rfl,rfl⟩:=H
        go_wp2_with (first|((with_reducible refine gate_callee (f:=53) rfl ?_);refine goesL_ (some 44) rfl rfl Try.func53 (by kernel_rfl) rfl #[.pointer (some ⟨g,0,none⟩),.int .i64 80] rfl qm_ ?_;(with_reducible refine (spec_l21Rd_pick.calls k1 g s0_0 x1001_1 80 t246 t247 w0 _ ?side1 ?side2 A37.out).mono ?_);(case side1 => repeat (first|(with_reducible first|exact HI0.out|apply IsS84.alloc|apply IsS84.drewN|apply IsS84.drew|apply IsS84.set_1|refine IsS84.far ?_ NB0_219.out _|refine IsS84.far ?_ NB0_220.out _)|exact HI0.out));(case side2 => repeat (first|(with_reducible first|exact HB.out|apply ba_|apply bn_|apply bd_|refine bs_ ?_ (IsS84.ge HI0.out)|refine bs_ ?_ GE219.out|refine bs_ ?_ GE220.out)|exact HB.out));rintro e w66 ⟨rfl,hi,hb,hk⟩;refine ⟨_,rfl,?_⟩;have n0_:=mk_ (rm_ (Kd.R_keep (IsS84.apart (show IsS84 w0 _ g s0_0 x1001_1 from by repeat (first|(with_reducible first|exact HI0.out|apply IsS84.alloc|apply IsS84.drewN|apply IsS84.drew|apply IsS84.set_1|refine IsS84.far ?_ NB0_219.out _|refine IsS84.far ?_ NB0_220.out _)|exact HI0.out)) (qr_ HO_221001) (by decide)) hk (fun _ h => h.2)) (fun _ h => h.1));have n1_:=mk_ (rm_ (Kd.R_keep (IsS84.apart (show IsS84 w0 _ g s0_0 x1001_1 from by repeat (first|(with_reducible first|exact HI0.out|apply IsS84.alloc|apply IsS84.drewN|apply IsS84.drew|apply IsS84.set_1|refine IsS84.far ?_ NB0_219.out _|refine IsS84.far ?_ NB0_220.out _)|exact HI0.out)) (qr_ HO_221002) (by decide)) hk (fun _ h => h.2)) (fun _ h => h.1));have n2_:=mk_ (Kd.Q_mono (Kd.Q_keep (IsS84.apartQ (show IsS84 w0 _ g s0_0 x1001_1 from by repeat (first|(with_reducible first|exact HI0.out|apply IsS84.alloc|apply IsS84.drewN|apply IsS84.drew|apply IsS84.set_1|refine IsS84.far ?_ NB0_219.out _|refine IsS84.far ?_ NB0_220.out _)|exact HI0.out)) (by (with_reducible repeat (first|apply Kd.Q_alloc|apply Kd.Q_drewN|apply Kd.Q_drew));exact HO_221003.out) (by decide)) hk (fun _ h => h.2)) (fun _ h => h.1));have n3_:=mk_ (KeepBut.blk hk (g':=gb219) (o:=.cells #[.int .i64 0,.slice none 0 0,.slice none 0 0,.slice none 0 0] 30 (0,0)) (qk_ BK219) NB219_0.out (by simp));have n4_:=mk_ (KeepBut.blk hk (g':=gb220) (o:=.cells #[.int .i64 t221,.slice Ao11 t222.length co11,u221002,u221003] 30 (0,0)) (qk_ BK220) NB220_0.out (by simp));have n5_:=mk_ (KeepBut.trans (by repeat (first|(with_reducible first|exact HK.out|apply KeepBut.set_|apply keep_drewN|apply keep_drew|apply keep_alloc|refine keep_far ?_ GW219.out _|refine keep_far ?_ GW220.out _)|exact HK.out)) hk (.inl rfl));have n6_:=mk_ (hb);have n7_:=mk_ (hi);clear HO_221001;clear HO_221002;clear HO_221003;clear BK219;clear BK220;clear HK;clear HB;clear HI0;have HO_221001:=n0_;have HO_221002:=n1_;have HO_221003:=n2_;have BK219:=n3_;have BK220:=n4_;have HK:=n5_;have HB:=n6_;have HI0:=n7_;clear n0_ n1_ n2_ n3_ n4_ n5_ n6_ n7_;(try clear hb);(try clear hb2);(try clear hk);(try clear hi);have hnb67:=NB220_219.out;have hnc67:=NB219_220.out;have hnb68:=NB220_0.out;have hnc68:=NB0_220.out;have hcz69_0 : w66.cell? ⟨gb220,0,none⟩ = some (.int .i64 t221):=(bc_ BK220.out 0).trans rfl;have hcz69_1 : w66.cell? ⟨gb220,1,none⟩ = some (.slice Ao11 t222.length co11):=(bc_ BK220.out 1).trans rfl;have hcz69_2 : w66.cell? ⟨gb220,2,none⟩ = some (u221002):=(bc_ BK220.out 2).trans rfl;have hcz69_3 : w66.cell? ⟨gb220,3,none⟩ = some (u221003):=(bc_ BK220.out 3).trans rfl;have hfz69_0:=bf_ BK220.out 0;have hfz69_1:=bf_ BK220.out 1;have hfz69_2:=bf_ BK220.out 2;have hfz69_3:=bf_ BK220.out 3;obtain ⟨Ao70,co70,eo70,_⟩:=Kd.Q_slice HO_221003.out;subst eo70;have q71 : (1 : Int) ≤ ((x221003_1.length : Int) : Int):=od_ qa_;obtain ⟨i071,hi071,_,hsz71,_⟩:=info_parts info3;have hcut71:=cut_from (P:=Try.prog) 23 3 .i64 Try.underlying23 hi071 1 hsz71 Ao70 x221003_1.length co70 1 (by omega) q71;have hr71:=Kd.Q_drop (k:=(1 : Int).toNat) HO_221003.out (by omega);obtain ⟨A71,hA71⟩ : ∃ A1,A1 = (if co70 = (1 : Int).toNat then Ao70 else (Ao70 : Option Addr).map (·.add ((1 : Int).toNat * 1))):=⟨_,rfl⟩;obtain ⟨c71,hc71⟩ : ∃ c1,c1 = co70 - (1 : Int).toNat:=⟨_,rfl⟩;have hy71 : y250.length = x221003_1.length - (1 : Int).toNat:=(by rw [Ny250.out,List.length_drop]);rw [← Ny250.out] at hr71;rw [← hy71,← hA71,← hc71] at hcut71;replace hr71 : Kd.Q (Kd.int .i64) 3 w66 w.heap.size (fun k_ => some k_ ≠ (u221002 : Value).ownBlock) (.slice A71 y250.length c71) y250:=(by rw [hA71,hc71,hy71];exact hr71);have HE71 : Aside0 ((Value.slice A71 y250.length c71).ownBlock = (.slice Ao70 x221003_1.length co70 : Value).ownBlock):=⟨by rw [hA71];split <;> (cases (Ao70 : Option Addr) <;> rfl)⟩;clear hy71 hi071 hsz71 HO_221003 hA71 hc71;have HO252:=mk_ hr71;clear hr71;replace q71:=eq_true q71;have n_:=mk_ (rm_ (ok':=fun k_ => some k_ ≠ (.slice A71 y250.length c71 : Value).ownBlock) HO_221002.out (fun k_ hk => (by rw [HE71.out];exact hk)));clear HO_221002;have HO_221002:=n_;clear n_;have hnb72:=NB219_0.out;have hnc72:=NB0_219.out;have hcz73_0 : w66.cell? ⟨gb219,0,none⟩ = some (.int .i64 0):=(bc_ BK219.out 0).trans rfl;have hcz73_1 : w66.cell? ⟨gb219,1,none⟩ = some (.slice none 0 0):=(bc_ BK219.out 1).trans rfl;have hcz73_2 : w66.cell? ⟨gb219,2,none⟩ = some (.slice none 0 0):=(bc_ BK219.out 2).trans rfl;have hcz73_3 : w66.cell? ⟨gb219,3,none⟩ = some (.slice none 0 0):=(bc_ BK219.out 3).trans rfl;have hfz73_0:=bf_ BK219.out 0;have hfz73_1:=bf_ BK219.out 1;have hfz73_2:=bf_ BK219.out 2;have hfz73_3:=bf_ BK219.out 3;obtain ⟨Ao74,co74,eo74⟩:=Kd.R_slice HO_221002.out;subst eo74))
        refine bodyPost_ret (results_cell_row rfl _ _ gb219 30 #[.int .i64 t221,.slice Ao11 t222.length co11,.slice Ao74 x221002_1.length co74,.slice A71 y250.length c71] (0,0) _ rfl (by (with_reducible repeat (first|refine kn_ ?_ _|refine kd_ ?_|refine ka_ ?_ _));refine blk_put (cs:=#[.int .i64 t221,.slice Ao11 t222.length co11,.slice Ao74 x221002_1.length co74,.slice none 0 0]) ?_ 3 _ rfl;(with_reducible repeat (first|refine kn_ ?_ _|refine kd_ ?_|refine ka_ ?_ _));refine blk_put (cs:=#[.int .i64 t221,.slice Ao11 t222.length co11,.slice none 0 0,.slice none 0 0]) ?_ 2 _ rfl;(with_reducible repeat (first|refine kn_ ?_ _|refine kd_ ?_|refine ka_ ?_ _));refine blk_put (cs:=#[.int .i64 t221,.slice none 0 0,.slice none 0 0,.slice none 0 0]) ?_ 1 _ rfl;(with_reducible repeat (first|refine kn_ ?_ _|refine kd_ ?_|refine ka_ ?_ _));refine blk_put (cs:=#[.int .i64 0,.slice none 0 0,.slice none 0 0,.slice none 0 0]) ?_ 0 _ rfl;(with_reducible repeat (first|refine kn_ ?_ _|refine kd_ ?_|refine ka_ ?_ _));refine blk_far ?_ NB219_220.out _;(with_reducible repeat (first|refine kn_ ?_ _|refine kd_ ?_|refine ka_ ?_ _));exact BK219.out) Try.underlying30 rfl (by kernel_rfl)) rfl ?_
        exact ⟨_,_,_,by first|rfl|(simp [errW_none,errW_some] <;> rfl)|(simp [*,errW_none,errW_some] <;> rfl),by (with_reducible repeat (first|apply ra_|apply rn_|apply rd_));exact rm_ (rf_ (p:=⟨gb219,3,none⟩) (rf_ (p:=⟨gb219,2,none⟩) (rf_ (p:=⟨gb219,1,none⟩) (rf_ (p:=⟨gb219,0,none⟩) (rf_ (p:=⟨gb220,3,none⟩) (rt_ (rt_ HO_221001.out BK220.out (by decide)) BK219.out (by decide)) (fun _ hk => hk.1.2) (.slice A71 y250.length c71)) (fun _ hk => hk.2) (.int .i64 t221)) (fun _ hk => hk.2) (.slice Ao11 t222.length co11)) (fun _ hk => hk.2) (.slice Ao74 x221002_1.length co74)) (fun _ hk => hk.2) (.slice A71 y250.length c71)) (fun _ hk => trivial),by (with_reducible repeat (first|apply ra_|apply rn_|apply rd_));exact rm_ (rf_ (p:=⟨gb219,3,none⟩) (rf_ (p:=⟨gb219,2,none⟩) (rf_ (p:=⟨gb219,1,none⟩) (rf_ (p:=⟨gb219,0,none⟩) (rf_ (p:=⟨gb220,3,none⟩) (rt_ (rt_ HO_221002.out BK220.out (by decide)) BK219.out (by decide)) (fun _ hk => hk.1.2) (.slice A71 y250.length c71)) (fun _ hk => hk.2) (.int .i64 t221)) (fun _ hk => hk.2) (.slice Ao11 t222.length co11)) (fun _ hk => hk.2) (.slice Ao74 x221002_1.length co74)) (fun _ hk => hk.2) (.slice A71 y250.length c71)) (fun _ hk => hk.1.1),by (with_reducible repeat (first|apply Kd.Q_alloc|apply Kd.Q_drewN|apply Kd.Q_drew));exact Kd.Q_mono (Kd.Q_far (p:=⟨gb219,3,none⟩) (Kd.Q_far (p:=⟨gb219,2,none⟩) (Kd.Q_far (p:=⟨gb219,1,none⟩) (Kd.Q_far (p:=⟨gb219,0,none⟩) (Kd.Q_far (p:=⟨gb220,3,none⟩) (Kd.Q_types (Kd.Q_types HO252.out BK220.out (by decide)) BK219.out (by decide)) (fun _ hk => hk.1.2) (.slice A71 y250.length c71)) (fun _ hk => hk.2) (.int .i64 t221)) (fun _ hk => hk.2) (.slice Ao11 t222.length co11)) (fun _ hk => hk.2) (.slice Ao74 x221002_1.length co74)) (fun _ hk => hk.2) (.slice A71 y250.length c71)) (fun _ hk => hk.1.1),by repeat (first|(with_reducible first|exact HI0.out|apply IsS84.alloc|apply IsS84.drewN|apply IsS84.drew|apply IsS84.set_1|refine IsS84.far ?_ NB0_219.out _|refine IsS84.far ?_ NB0_220.out _)|exact HI0.out),by repeat (first|(with_reducible first|exact HB.out|apply ba_|apply bn_|apply bd_|refine bs_ ?_ (IsS84.ge HI0.out)|refine bs_ ?_ GE219.out|refine bs_ ?_ GE220.out)|exact HB.out),by repeat (first|(with_reducible first|exact HK.out|apply KeepBut.set_|apply keep_drewN|apply keep_drew|apply keep_alloc|refine keep_far ?_ GW219.out _|refine keep_far ?_ GW220.out _)|exact HK.out)⟩
       ·rw [if_neg c65] at H
        exact absurd H (by simp)
      ·rw [if_neg c64] at H
       have c64b0 : (t246 == 2) = false:=beq_eq_false_iff_ne.mpr c64
       have c64b1 : (t246 != 2) = true:=bne_iff_ne.mpr c64
       by_cases c75 : t246 = 3
       ·rw [if_pos c75] at H
        have c75b0 : (t246 == 3) = true:=beq_iff_eq.mpr c75
        have c75b1 : (t246 != 3) = false:=bne_eq_false_iff_eq.mpr c75
        clear c75
        simp only [Option.some.injEq,Prod.mk.injEq] at H
        obtain ⟨rfl,rfl,rfl,rfl,rfl⟩:=H
        go_wp2_with (first|((with_reducible refine gate_callee (f:=53) rfl ?_);refine goesL_ (some 44) rfl rfl Try.func53 (by kernel_rfl) rfl #[.pointer (some ⟨g,0,none⟩),.int .i64 80] rfl qm_ ?_;(with_reducible refine (spec_l21Rd_pick.calls k1 g s0_0 x1001_1 80 t246 t247 w0 _ ?side1 ?side2 A37.out).mono ?_);(case side1 => repeat (first|(with_reducible first|exact HI0.out|apply IsS84.alloc|apply IsS84.drewN|apply IsS84.drew|apply IsS84.set_1|refine IsS84.far ?_ NB0_219.out _|refine IsS84.far ?_ NB0_220.out _)|exact HI0.out));(case side2 => repeat (first|(with_reducible first|exact HB.out|apply ba_|apply bn_|apply bd_|refine bs_ ?_ (IsS84.ge HI0.out)|refine bs_ ?_ GE219.out|refine bs_ ?_ GE220.out)|exact HB.out));rintro e w76 ⟨rfl,hi,hb,hk⟩;refine ⟨_,rfl,?_⟩;have n0_:=mk_ (rm_ (Kd.R_keep (IsS84.apart (show IsS84 w0 _ g s0_0 x1001_1 from by repeat (first|(with_reducible first|exact HI0.out|apply IsS84.alloc|apply IsS84.drewN|apply IsS84.drew|apply IsS84.set_1|refine IsS84.far ?_ NB0_219.out _|refine IsS84.far ?_ NB0_220.out _)|exact HI0.out)) (qr_ HO_221001) (by decide)) hk (fun _ h => h.2)) (fun _ h => h.1));have n1_:=mk_ (rm_ (Kd.R_keep (IsS84.apart (show IsS84 w0 _ g s0_0 x1001_1 from by repeat (first|(with_reducible first|exact HI0.out|apply IsS84.alloc|apply IsS84.drewN|apply IsS84.drew|apply IsS84.set_1|refine IsS84.far ?_ NB0_219.out _|refine IsS84.far ?_ NB0_220.out _)|exact HI0.out)) (qr_ HO_221002) (by decide)) hk (fun _ h => h.2)) (fun _ h => h.1));have n2_:=mk_ (Kd.Q_mono (Kd.Q_keep (IsS84.apartQ (show IsS84 w0 _ g s0_0 x1001_1 from by repeat (first|(with_reducible first|exact HI0.out|apply IsS84.alloc|apply IsS84.drewN|apply IsS84.drew|apply IsS84.set_1|refine IsS84.far ?_ NB0_219.out _|refine IsS84.far ?_ NB0_220.out _)|exact HI0.out)) (by (with_reducible repeat (first|apply Kd.Q_alloc|apply Kd.Q_drewN|apply Kd.Q_drew));exact HO_221003.out) (by decide)) hk (fun _ h => h.2)) (fun _ h => h.1));have n3_:=mk_ (KeepBut.blk hk (g':=gb219) (o:=.cells #[.int .i64 0,.slice none 0 0,.slice none 0 0,.slice none 0 0] 30 (0,0)) (qk_ BK219) NB219_0.out (by simp));have n4_:=mk_ (KeepBut.blk hk (g':=gb220) (o:=.cells #[.int .i64 t221,.slice Ao11 t222.length co11,u221002,u221003] 30 (0,0)) (qk_ BK220) NB220_0.out (by simp));have n5_:=mk_ (KeepBut.trans (by repeat (first|(with_reducible first|exact HK.out|apply KeepBut.set_|apply keep_drewN|apply keep_drew|apply keep_alloc|refine keep_far ?_ GW219.out _|refine keep_far ?_ GW220.out _)|exact HK.out)) hk (.inl rfl));have n6_:=mk_ (hb);have n7_:=mk_ (hi);clear HO_221001;clear HO_221002;clear HO_221003;clear BK219;clear BK220;clear HK;clear HB;clear HI0;have HO_221001:=n0_;have HO_221002:=n1_;have HO_221003:=n2_;have BK219:=n3_;have BK220:=n4_;have HK:=n5_;have HB:=n6_;have HI0:=n7_;clear n0_ n1_ n2_ n3_ n4_ n5_ n6_ n7_;(try clear hb);(try clear hb2);(try clear hk);(try clear hi);have hnb77:=NB220_219.out;have hnc77:=NB219_220.out;have hnb78:=NB220_0.out;have hnc78:=NB0_220.out;have hcz79_0 : w76.cell? ⟨gb220,0,none⟩ = some (.int .i64 t221):=(bc_ BK220.out 0).trans rfl;have hcz79_1 : w76.cell? ⟨gb220,1,none⟩ = some (.slice Ao11 t222.length co11):=(bc_ BK220.out 1).trans rfl;have hcz79_2 : w76.cell? ⟨gb220,2,none⟩ = some (u221002):=(bc_ BK220.out 2).trans rfl;have hcz79_3 : w76.cell? ⟨gb220,3,none⟩ = some (u221003):=(bc_ BK220.out 3).trans rfl;have hfz79_0:=bf_ BK220.out 0;have hfz79_1:=bf_ BK220.out 1;have hfz79_2:=bf_ BK220.out 2;have hfz79_3:=bf_ BK220.out 3;have hnb80:=NB219_0.out;have hnc80:=NB0_219.out;have hcz81_0 : w76.cell? ⟨gb219,0,none⟩ = some (.int .i64 0):=(bc_ BK219.out 0).trans rfl;have hcz81_1 : w76.cell? ⟨gb219,1,none⟩ = some (.slice none 0 0):=(bc_ BK219.out 1).trans rfl;have hcz81_2 : w76.cell? ⟨gb219,2,none⟩ = some (.slice none 0 0):=(bc_ BK219.out 2).trans rfl;have hcz81_3 : w76.cell? ⟨gb219,3,none⟩ = some (.slice none 0 0):=(bc_ BK219.out 3).trans rfl;have hfz81_0:=bf_ BK219.out 0;have hfz81_1:=bf_ BK219.out 1;have hfz81_2:=bf_ BK219.out 2;have hfz81_3:=bf_ BK219.out 3;obtain ⟨Ao82,co82,eo82⟩:=Kd.R_slice HO_221002.out;subst eo82;obtain ⟨Ao83,co83,eo83,_⟩:=Kd.Q_slice HO_221003.out;subst eo83))
        refine bodyPost_ret (results_cell_row rfl _ _ gb219 30 #[.int .i64 9,.slice Ao11 t222.length co11,.slice Ao82 x221002_1.length co82,.slice Ao83 x221003_1.length co83] (0,0) _ rfl (by (with_reducible repeat (first|refine kn_ ?_ _|refine kd_ ?_|refine ka_ ?_ _));refine blk_put (cs:=#[.int .i64 9,.slice Ao11 t222.length co11,.slice Ao82 x221002_1.length co82,.slice none 0 0]) ?_ 3 _ rfl;(with_reducible repeat (first|refine kn_ ?_ _|refine kd_ ?_|refine ka_ ?_ _));refine blk_put (cs:=#[.int .i64 9,.slice Ao11 t222.length co11,.slice none 0 0,.slice none 0 0]) ?_ 2 _ rfl;(with_reducible repeat (first|refine kn_ ?_ _|refine kd_ ?_|refine ka_ ?_ _));refine blk_put (cs:=#[.int .i64 9,.slice none 0 0,.slice none 0 0,.slice none 0 0]) ?_ 1 _ rfl;(with_reducible repeat (first|refine kn_ ?_ _|refine kd_ ?_|refine ka_ ?_ _));refine blk_put (cs:=#[.int .i64 0,.slice none 0 0,.slice none 0 0,.slice none 0 0]) ?_ 0 _ rfl;(with_reducible repeat (first|refine kn_ ?_ _|refine kd_ ?_|refine ka_ ?_ _));refine blk_far ?_ NB219_220.out _;(with_reducible repeat (first|refine kn_ ?_ _|refine kd_ ?_|refine ka_ ?_ _));exact BK219.out) Try.underlying30 rfl (by kernel_rfl)) rfl ?_
        exact ⟨_,_,_,by first|rfl|(simp [errW_none,errW_some] <;> rfl)|(simp [*,errW_none,errW_some] <;> rfl),by (with_reducible repeat (first|apply ra_|apply rn_|apply rd_));exact rm_ (rf_ (p:=⟨gb219,3,none⟩) (rf_ (p:=⟨gb219,2,none⟩) (rf_ (p:=⟨gb219,1,none⟩) (rf_ (p:=⟨gb219,0,none⟩) (rf_ (p:=⟨gb220,0,none⟩) (rt_ (rt_ HO_221001.out BK220.out (by decide)) BK219.out (by decide)) (fun _ hk => hk.1.2) (.int .i64 9)) (fun _ hk => hk.2) (.int .i64 9)) (fun _ hk => hk.2) (.slice Ao11 t222.length co11)) (fun _ hk => hk.2) (.slice Ao82 x221002_1.length co82)) (fun _ hk => hk.2) (.slice Ao83 x221003_1.length co83)) (fun _ hk => trivial),by (with_reducible repeat (first|apply ra_|apply rn_|apply rd_));exact rm_ (rf_ (p:=⟨gb219,3,none⟩) (rf_ (p:=⟨gb219,2,none⟩) (rf_ (p:=⟨gb219,1,none⟩) (rf_ (p:=⟨gb219,0,none⟩) (rf_ (p:=⟨gb220,0,none⟩) (rt_ (rt_ HO_221002.out BK220.out (by decide)) BK219.out (by decide)) (fun _ hk => hk.1.2) (.int .i64 9)) (fun _ hk => hk.2) (.int .i64 9)) (fun _ hk => hk.2) (.slice Ao11 t222.length co11)) (fun _ hk => hk.2) (.slice Ao82 x221002_1.length co82)) (fun _ hk => hk.2) (.slice Ao83 x221003_1.length co83)) (fun _ hk => hk.1.1),by (with_reducible repeat (first|apply Kd.Q_alloc|apply Kd.Q_drewN|apply Kd.Q_drew));exact Kd.Q_mono (Kd.Q_far (p:=⟨gb219,3,none⟩) (Kd.Q_far (p:=⟨gb219,2,none⟩) (Kd.Q_far (p:=⟨gb219,1,none⟩) (Kd.Q_far (p:=⟨gb219,0,none⟩) (Kd.Q_far (p:=⟨gb220,0,none⟩) (Kd.Q_types (Kd.Q_types HO_221003.out BK220.out (by decide)) BK219.out (by decide)) (fun _ hk => hk.1.2) (.int .i64 9)) (fun _ hk => hk.2) (.int .i64 9)) (fun _ hk => hk.2) (.slice Ao11 t222.length co11)) (fun _ hk => hk.2) (.slice Ao82 x221002_1.length co82)) (fun _ hk => hk.2) (.slice Ao83 x221003_1.length co83)) (fun _ hk => hk.1.1),by repeat (first|(with_reducible first|exact HI0.out|apply IsS84.alloc|apply IsS84.drewN|apply IsS84.drew|apply IsS84.set_1|refine IsS84.far ?_ NB0_219.out _|refine IsS84.far ?_ NB0_220.out _)|exact HI0.out),by repeat (first|(with_reducible first|exact HB.out|apply ba_|apply bn_|apply bd_|refine bs_ ?_ (IsS84.ge HI0.out)|refine bs_ ?_ GE219.out|refine bs_ ?_ GE220.out)|exact HB.out),by repeat (first|(with_reducible first|exact HK.out|apply KeepBut.set_|apply keep_drewN|apply keep_drew|apply keep_alloc|refine keep_far ?_ GW219.out _|refine keep_far ?_ GW220.out _)|exact HK.out)⟩
       ·rw [if_neg c75] at H
        have c75b0 : (t246 == 3) = false:=beq_eq_false_iff_ne.mpr c75
        have c75b1 : (t246 != 3) = true:=bne_iff_ne.mpr c75
        simp only [Option.some.injEq,Prod.mk.injEq] at H
        obtain ⟨rfl,rfl,rfl,rfl,rfl⟩:=H
        go_wp2_with (first|((with_reducible refine gate_callee (f:=53) rfl ?_);refine goesL_ (some 44) rfl rfl Try.func53 (by kernel_rfl) rfl #[.pointer (some ⟨g,0,none⟩),.int .i64 80] rfl qm_ ?_;(with_reducible refine (spec_l21Rd_pick.calls k1 g s0_0 x1001_1 80 t246 t247 w0 _ ?side1 ?side2 A37.out).mono ?_);(case side1 => repeat (first|(with_reducible first|exact HI0.out|apply IsS84.alloc|apply IsS84.drewN|apply IsS84.drew|apply IsS84.set_1|refine IsS84.far ?_ NB0_219.out _|refine IsS84.far ?_ NB0_220.out _)|exact HI0.out));(case side2 => repeat (first|(with_reducible first|exact HB.out|apply ba_|apply bn_|apply bd_|refine bs_ ?_ (IsS84.ge HI0.out)|refine bs_ ?_ GE219.out|refine bs_ ?_ GE220.out)|exact HB.out));rintro e w84 ⟨rfl,hi,hb,hk⟩;refine ⟨_,rfl,?_⟩;have n0_:=mk_ (rm_ (Kd.R_keep (IsS84.apart (show IsS84 w0 _ g s0_0 x1001_1 from by repeat (first|(with_reducible first|exact HI0.out|apply IsS84.alloc|apply IsS84.drewN|apply IsS84.drew|apply IsS84.set_1|refine IsS84.far ?_ NB0_219.out _|refine IsS84.far ?_ NB0_220.out _)|exact HI0.out)) (qr_ HO_221001) (by decide)) hk (fun _ h => h.2)) (fun _ h => h.1));have n1_:=mk_ (rm_ (Kd.R_keep (IsS84.apart (show IsS84 w0 _ g s0_0 x1001_1 from by repeat (first|(with_reducible first|exact HI0.out|apply IsS84.alloc|apply IsS84.drewN|apply IsS84.drew|apply IsS84.set_1|refine IsS84.far ?_ NB0_219.out _|refine IsS84.far ?_ NB0_220.out _)|exact HI0.out)) (qr_ HO_221002) (by decide)) hk (fun _ h => h.2)) (fun _ h => h.1));have n2_:=mk_ (Kd.Q_mono (Kd.Q_keep (IsS84.apartQ (show IsS84 w0 _ g s0_0 x1001_1 from by repeat (first|(with_reducible first|exact HI0.out|apply IsS84.alloc|apply IsS84.drewN|apply IsS84.drew|apply IsS84.set_1|refine IsS84.far ?_ NB0_219.out _|refine IsS84.far ?_ NB0_220.out _)|exact HI0.out)) (by (with_reducible repeat (first|apply Kd.Q_alloc|apply Kd.Q_drewN|apply Kd.Q_drew));exact HO_221003.out) (by decide)) hk (fun _ h => h.2)) (fun _ h => h.1));have n3_:=mk_ (KeepBut.blk hk (g':=gb219) (o:=.cells #[.int .i64 0,.slice none 0 0,.slice none 0 0,.slice none 0 0] 30 (0,0)) (qk_ BK219) NB219_0.out (by simp));have n4_:=mk_ (KeepBut.blk hk (g':=gb220) (o:=.cells #[.int .i64 t221,.slice Ao11 t222.length co11,u221002,u221003] 30 (0,0)) (qk_ BK220) NB220_0.out (by simp));have n5_:=mk_ (KeepBut.trans (by repeat (first|(with_reducible first|exact HK.out|apply KeepBut.set_|apply keep_drewN|apply keep_drew|apply keep_alloc|refine keep_far ?_ GW219.out _|refine keep_far ?_ GW220.out _)|exact HK.out)) hk (.inl rfl));have n6_:=mk_ (hb);have n7_:=mk_ (hi);clear HO_221001;clear HO_221002;clear HO_221003;clear BK219;clear BK220;clear HK;clear HB;clear HI0;have HO_221001:=n0_;have HO_221002:=n1_;have HO_221003:=n2_;have BK219:=n3_;have BK220:=n4_;have HK:=n5_;have HB:=n6_;have HI0:=n7_;clear n0_ n1_ n2_ n3_ n4_ n5_ n6_ n7_;(try clear hb);(try clear hb2);(try clear hk);(try clear hi);have hnb85:=NB220_219.out;have hnc85:=NB219_220.out;have hnb86:=NB220_0.out;have hnc86:=NB0_220.out;have hcz87_0 : w84.cell? ⟨gb220,0,none⟩ = some (.int .i64 t221):=(bc_ BK220.out 0).trans rfl;have hcz87_1 : w84.cell? ⟨gb220,1,none⟩ = some (.slice Ao11 t222.length co11):=(bc_ BK220.out 1).trans rfl;have hcz87_2 : w84.cell? ⟨gb220,2,none⟩ = some (u221002):=(bc_ BK220.out 2).trans rfl;have hcz87_3 : w84.cell? ⟨gb220,3,none⟩ = some (u221003):=(bc_ BK220.out 3).trans rfl;have hfz87_0:=bf_ BK220.out 0;have hfz87_1:=bf_ BK220.out 1;have hfz87_2:=bf_ BK220.out 2;have hfz87_3:=bf_ BK220.out 3;have hnb88:=NB219_0.out;have hnc88:=NB0_219.out;have hcz89_0 : w84.cell? ⟨gb219,0,none⟩ = some (.int .i64 0):=(bc_ BK219.out 0).trans rfl;have hcz89_1 : w84.cell? ⟨gb219,1,none⟩ = some (.slice none 0 0):=(bc_ BK219.out 1).trans rfl;have hcz89_2 : w84.cell? ⟨gb219,2,none⟩ = some (.slice none 0 0):=(bc_ BK219.out 2).trans rfl;have hcz89_3 : w84.cell? ⟨gb219,3,none⟩ = some (.slice none 0 0):=(bc_ BK219.out 3).trans rfl;have hfz89_0:=bf_ BK219.out 0;have hfz89_1:=bf_ BK219.out 1;have hfz89_2:=bf_ BK219.out 2;have hfz89_3:=bf_ BK219.out 3;obtain ⟨Ao90,co90,eo90⟩:=Kd.R_slice HO_221002.out;subst eo90;obtain ⟨Ao91,co91,eo91,_⟩:=Kd.Q_slice HO_221003.out;subst eo91))
        refine bodyPost_ret (results_cell_row rfl _ _ gb219 30 #[.int .i64 t221,.slice Ao11 t222.length co11,.slice Ao90 x221002_1.length co90,.slice Ao91 x221003_1.length co91] (0,0) _ rfl (by (with_reducible repeat (first|refine kn_ ?_ _|refine kd_ ?_|refine ka_ ?_ _));refine blk_put (cs:=#[.int .i64 t221,.slice Ao11 t222.length co11,.slice Ao90 x221002_1.length co90,.slice none 0 0]) ?_ 3 _ rfl;(with_reducible repeat (first|refine kn_ ?_ _|refine kd_ ?_|refine ka_ ?_ _));refine blk_put (cs:=#[.int .i64 t221,.slice Ao11 t222.length co11,.slice none 0 0,.slice none 0 0]) ?_ 2 _ rfl;(with_reducible repeat (first|refine kn_ ?_ _|refine kd_ ?_|refine ka_ ?_ _));refine blk_put (cs:=#[.int .i64 t221,.slice none 0 0,.slice none 0 0,.slice none 0 0]) ?_ 1 _ rfl;(with_reducible repeat (first|refine kn_ ?_ _|refine kd_ ?_|refine ka_ ?_ _));refine blk_put (cs:=#[.int .i64 0,.slice none 0 0,.slice none 0 0,.slice none 0 0]) ?_ 0 _ rfl;(with_reducible repeat (first|refine kn_ ?_ _|refine kd_ ?_|refine ka_ ?_ _));exact BK219.out) Try.underlying30 rfl (by kernel_rfl)) rfl ?_
        exact ⟨_,_,_,by first|rfl|(simp [errW_none,errW_some] <;> rfl)|(simp [*,errW_none,errW_some] <;> rfl),by (with_reducible repeat (first|apply ra_|apply rn_|apply rd_));exact rm_ (rf_ (p:=⟨gb219,3,none⟩) (rf_ (p:=⟨gb219,2,none⟩) (rf_ (p:=⟨gb219,1,none⟩) (rf_ (p:=⟨gb219,0,none⟩) (rt_ HO_221001.out BK219.out (by decide)) (fun _ hk => hk.2) (.int .i64 t221)) (fun _ hk => hk.2) (.slice Ao11 t222.length co11)) (fun _ hk => hk.2) (.slice Ao90 x221002_1.length co90)) (fun _ hk => hk.2) (.slice Ao91 x221003_1.length co91)) (fun _ hk => trivial),by (with_reducible repeat (first|apply ra_|apply rn_|apply rd_));exact rm_ (rf_ (p:=⟨gb219,3,none⟩) (rf_ (p:=⟨gb219,2,none⟩) (rf_ (p:=⟨gb219,1,none⟩) (rf_ (p:=⟨gb219,0,none⟩) (rt_ HO_221002.out BK219.out (by decide)) (fun _ hk => hk.2) (.int .i64 t221)) (fun _ hk => hk.2) (.slice Ao11 t222.length co11)) (fun _ hk => hk.2) (.slice Ao90 x221002_1.length co90)) (fun _ hk => hk.2) (.slice Ao91 x221003_1.length co91)) (fun _ hk => hk.1),by (with_reducible repeat (first|apply Kd.Q_alloc|apply Kd.Q_drewN|apply Kd.Q_drew));exact Kd.Q_mono (Kd.Q_far (p:=⟨gb219,3,none⟩) (Kd.Q_far (p:=⟨gb219,2,none⟩) (Kd.Q_far (p:=⟨gb219,1,none⟩) (Kd.Q_far (p:=⟨gb219,0,none⟩) (Kd.Q_types HO_221003.out BK219.out (by decide)) (fun _ hk => hk.2) (.int .i64 t221)) (fun _ hk => hk.2) (.slice Ao11 t222.length co11)) (fun _ hk => hk.2) (.slice Ao90 x221002_1.length co90)) (fun _ hk => hk.2) (.slice Ao91 x221003_1.length co91)) (fun _ hk => hk.1),by repeat (first|(with_reducible first|exact HI0.out|apply IsS84.alloc|apply IsS84.drewN|apply IsS84.drew|apply IsS84.set_1|refine IsS84.far ?_ NB0_219.out _|refine IsS84.far ?_ NB0_220.out _)|exact HI0.out),by repeat (first|(with_reducible first|exact HB.out|apply ba_|apply bn_|apply bd_|refine bs_ ?_ (IsS84.ge HI0.out)|refine bs_ ?_ GE219.out|refine bs_ ?_ GE220.out)|exact HB.out),by repeat (first|(with_reducible first|exact HK.out|apply KeepBut.set_|apply keep_drewN|apply keep_drew|apply keep_alloc|refine keep_far ?_ GW219.out _|refine keep_far ?_ GW220.out _)|exact HK.out)⟩

/-! ### spec_DrawCutCable: function 29 -/
def spec_DrawCutCable.f (k : Nat) (l0 : List Int) : Option (Int × (List (S51)) × List Int × List Int × Int):=(spec_l21Open.f l0).bind fun bt254 => ((spec_l19Net.f k bt254.1 bt254.2).bind fun bt257 => ((spec_l21Rd_pick.f k bt254.1 bt257.2.2.2.2 (wrap64 ((bt257.2.1.length : Int) + 2))).bind fun bt269 => ((spec_l21Rd_pick.f k bt254.1 bt269.2 9).bind fun bt271 => (some (bt257.1,bt257.2.1,bt257.2.2.1,bt257.2.2.2.1,wrap64 (bt269.1 - (wrap64 (Int.tdiv bt271.1 8))))))))
theorem spec_DrawCutCable.mono : ∀ a0 k,LeO (spec_DrawCutCable.f k a0) (spec_DrawCutCable.f (k + 1) a0):=by
 intro a0 k
 unfold spec_DrawCutCable.f
 repeat' first
   | (with_reducible exact spec_l19Net.mono _ _ _)
   | (with_reducible exact spec_l21Rd_pick.mono _ _ _ _)
   | (with_reducible exact LeO.refl _)
   | (with_reducible exact LeO.none _)
   | (with_reducible refine LeO.ite ?_ ?_)
   | (with_reducible refine LeO.bind ?_ (fun _ => ?_))
   | exact spec_l19Net.mono _ _ _
   | exact spec_l21Rd_pick.mono _ _ _ _
   | exact LeO.none _
   | refine LeO.ite ?_ ?_
   | refine LeO.bind ?_ (fun _ => ?_)
def spec_DrawCutCable.T3 : Bool × List (List Nat × List Nat):=(true,[([],[]),([],[]),([],[]),([2],[2]),([3],[3]),([4],[4]),([1,5],[1,5]),([],[]),([7,6],[7]),([8],[8]),([6,9],[6,9]),([0,8,0],[0]),([10,11,0,1,2,3,4,5,6,7,8,9,10,11],[10])])
def spec_DrawCutCable.B3 : List Nat:=[0,0,0,4,12,28,62,0,254,510,1022,511,4095]
theorem spec_DrawCutCable.tab3 : rtab .any (opsOf Try.f29 3) = spec_DrawCutCable.T3:=by kernel_rfl
theorem spec_DrawCutCable.bits3 : waitsOk spec_DrawCutCable.T3.2 spec_DrawCutCable.B3 = true:=by kernel_rfl
set_option maxHeartbeats 8000000 in
set_option maxRecDepth 100000 in
theorem spec_DrawCutCable.calls (k : Nat) (A0 : Option Addr) (c0 : Nat) (l0 : List Int) (r1 : Int) (r2 : List (S51)) (r3 : List Int) (r4 : List Int) (r5 : Int) (w : World) (hr0 : Kd.C (Kd.int .u8) w A0 l0.length l0) (hc0 : l0.length ≤ c0) (h : spec_DrawCutCable.f k l0 = some (r1,r2,r3,r4,r5)) :
  Calls Try.prog 29 #[.slice A0 l0.length c0] w fun e w' => ∃ v1_ v2_ v3_ : Value,e = .returned (.tuple #[.agg #[.int .i64 r1,v1_,v2_,v3_],.int .i64 r5]) ∧ Kd.R k51 51 w' w.heap.size (fun _ => True) v1_ r2 ∧ Kd.R (Kd.int .i64) 3 w' w.heap.size (fun k_ => some k_ ≠ (v3_ : Value).ownBlock) v2_ r3 ∧ Kd.Q (Kd.int .i64) 3 w' w.heap.size (fun k_ => some k_ ≠ (v2_ : Value).ownBlock) v3_ r4 ∧ Below w.heap.size w w':=by
 have hu30:=Try.underlying30
 have HR0:=mk_ hr0
 have HC0:=mk_ hc0
 clear hr0 hc0
 have HB:=mk_ (Below.refl w.heap.size w)
 have H : ((spec_l21Open.f l0).bind fun bt254 => ((spec_l19Net.f k bt254.1 bt254.2).bind fun bt257 => ((spec_l21Rd_pick.f k bt254.1 bt257.2.2.2.2 (wrap64 ((bt257.2.1.length : Int) + 2))).bind fun bt269 => ((spec_l21Rd_pick.f k bt254.1 bt269.2 9).bind fun bt271 => (some (bt257.1,bt257.2.1,bt257.2.2.1,bt257.2.2.2.1,wrap64 (bt269.1 - (wrap64 (Int.tdiv bt271.1 8))))))))) = some (r1,r2,r3,r4,r5):=h
 clear h
 replace H:=Option.bind_eq_some_iff.mp H
 obtain ⟨⟨t254,t255⟩,A20,H⟩:=H
 replace H : ((spec_l19Net.f k t254 t255).bind fun bt257 => ((spec_l21Rd_pick.f k t254 bt257.2.2.2.2 (wrap64 ((bt257.2.1.length : Int) + 2))).bind fun bt269 => ((spec_l21Rd_pick.f k t254 bt269.2 9).bind fun bt271 => (some (bt257.1,bt257.2.1,bt257.2.2.1,bt257.2.2.2.1,wrap64 (bt269.1 - (wrap64 (Int.tdiv bt271.1 8)))))))) = some (r1,r2,r3,r4,r5):=H
 have A2:=mk_ A20
 clear A20
 replace H:=Option.bind_eq_some_iff.mp H
 obtain ⟨⟨t257,t258,t261,t264,t267⟩,A30,H⟩:=H
 replace H : ((spec_l21Rd_pick.f k t254 t267 (wrap64 ((t258.length : Int) + 2))).bind fun bt269 => ((spec_l21Rd_pick.f k t254 bt269.2 9).bind fun bt271 => (some (t257,t258,t261,t264,wrap64 (bt269.1 - (wrap64 (Int.tdiv bt271.1 8))))))) = some (r1,r2,r3,r4,r5):=H
 have A3:=mk_ A30
 clear A30
 replace H:=Option.bind_eq_some_iff.mp H
 obtain ⟨⟨t269,t270⟩,A40,H⟩:=H
 replace H : ((spec_l21Rd_pick.f k t254 t270 9).bind fun bt271 => (some (t257,t258,t261,t264,wrap64 (t269 - (wrap64 (Int.tdiv bt271.1 8)))))) = some (r1,r2,r3,r4,r5):=H
 have A4:=mk_ A40
 clear A40
 replace H:=Option.bind_eq_some_iff.mp H
 obtain ⟨⟨t271,t272⟩,A50,H⟩:=H
 replace H : (some (t257,t258,t261,t264,wrap64 (t269 - (wrap64 (Int.tdiv t271 8))))) = some (r1,r2,r3,r4,r5):=H
 have A5:=mk_ A50
 clear A50
 simp only [Option.some.injEq,Prod.mk.injEq] at H
 obtain ⟨rfl,rfl,rfl,rfl,rfl⟩:=H
 go_enter Try.func29,Try.ntmps29
 try go_wp2_with (first|((with_reducible refine gate_dst (N:=2) rfl ?_);refine box_event ?hg (N:=2) ?hd (cs:=#[.int .i64 0,.slice none 0 0,.slice none 0 0,.slice none 0 0]) (t:=30) ?hr ?_;(case hd => rfl);(case hg => rfl);(case hr => first|(go_simp;done)|(go_simp;rfl));intro gb253 hg w6 hbox hb;have n0_:=mk_ (st_ (qb_ HB) hb);have n1_:=mk_ (hbox);have n2_:=mk_ ((by rw [hg];exact (bz_ (qb_ HB)) : w.heap.size ≤ gb253));have n3_:=mk_ ((by rw [hg];exact (bz_ (qb_ HB)) : w.heap.size ≤ gb253));clear HB;have HB:=n0_;have BK253:=n1_;have GW253:=n2_;have GE253:=n3_;clear n0_ n1_ n2_ n3_;clear hb hbox hg)|((with_reducible refine gate_callee (f:=51) rfl ?_);refine goesL_ (some 7) rfl rfl Try.func51 (by kernel_rfl) rfl #[.slice A0 l0.length c0] rfl qm_ ?_;(with_reducible refine (spec_l21Open.calls _ _ l0 t254 t255 w _ ?side1 ?side2 ?side3 A2.out).mono ?_);(case side1 => repeat (first|(with_reducible first|exact HB.out|apply ba_|apply bn_|apply bd_|refine bs_ ?_ GE253.out)|exact HB.out));(case side2 => exact HR0.out);(case side3 => exact HC0.out);rintro e w7 ⟨g256,rfl,hi,hb,hb2⟩;refine ⟨_,rfl,?_⟩;have n0_:=mk_ (blk_below (g:=gb253) (o:=.cells #[.int .i64 0,.slice none 0 0,.slice none 0 0,.slice none 0 0] 30 (0,0)) (qk_ BK253) hb2);have n1_:=mk_ (hb);have n2_:=mk_ (hi);have n3_:=mk_ (IsS84.ne_blk hi (blk_below (g:=gb253) (o:=.cells #[.int .i64 0,.slice none 0 0,.slice none 0 0,.slice none 0 0] 30 (0,0)) (qk_ BK253) hb2) (by decide));have n4_:=mk_ (Ne.symm (IsS84.ne_blk hi (blk_below (g:=gb253) (o:=.cells #[.int .i64 0,.slice none 0 0,.slice none 0 0,.slice none 0 0] 30 (0,0)) (qk_ BK253) hb2) (by decide)));clear BK253;clear HB;have BK253:=n0_;have HB:=n1_;have HI256:=n2_;have NB256_253:=n3_;have NB253_256:=n4_;clear n0_ n1_ n2_ n3_ n4_;(try clear hb);(try clear hb2);(try clear hk);(try clear hi))|((with_reducible refine gate_callee (f:=52) rfl ?_);refine goesL_ (some 9) rfl rfl Try.func52 (by kernel_rfl) rfl #[.pointer (some ⟨g256,0,none⟩)] rfl qm_ ?_;(with_reducible refine (spec_l19Net.calls k g256 t254 t255 t257 t258 t261 t264 t267 w _ ?side1 ?side2 A3.out).mono ?_);(case side1 => repeat (first|(with_reducible first|exact HI256.out|apply IsS84.alloc|apply IsS84.drewN|apply IsS84.drew|apply IsS84.set_1|refine IsS84.far ?_ NB256_253.out _)|exact HI256.out));(case side2 => repeat (first|(with_reducible first|exact HB.out|apply ba_|apply bn_|apply bd_|refine bs_ ?_ (IsS84.ge HI256.out)|refine bs_ ?_ GE253.out)|exact HB.out));rintro e w8 ⟨v259,v262,v265,rfl,ho0,ho1,ho2,hi,hb,hk⟩;refine ⟨_,rfl,?_⟩;have n0_:=mk_ (KeepBut.blk hk (g':=gb253) (o:=.cells #[.int .i64 0,.slice none 0 0,.slice none 0 0,.slice none 0 0] 30 (0,0)) (qk_ BK253) NB253_256.out (by simp));have n1_:=mk_ (Kd.R_lower ho0 (bz_ (by repeat (first|(with_reducible first|exact HB.out|apply ba_|apply bn_|apply bd_|refine bs_ ?_ (IsS84.ge HI256.out)|refine bs_ ?_ GE253.out)|exact HB.out))));have n2_:=mk_ (Kd.R_lower ho1 (bz_ (by repeat (first|(with_reducible first|exact HB.out|apply ba_|apply bn_|apply bd_|refine bs_ ?_ (IsS84.ge HI256.out)|refine bs_ ?_ GE253.out)|exact HB.out))));have n3_:=mk_ (Kd.Q_lower ho2 (bz_ (by repeat (first|(with_reducible first|exact HB.out|apply ba_|apply bn_|apply bd_|refine bs_ ?_ (IsS84.ge HI256.out)|refine bs_ ?_ GE253.out)|exact HB.out))));have n4_:=mk_ (hb);have n5_:=mk_ (hi);clear BK253;clear HB;clear HI256;have BK253:=n0_;have HO260:=n1_;have HO263:=n2_;have HO266:=n3_;have HB:=n4_;have HI256:=n5_;clear n0_ n1_ n2_ n3_ n4_ n5_;(try clear hb);(try clear hb2);(try clear hk);(try clear hi);(try clear ho0);(try clear ho1);(try clear ho2))|((with_reducible refine gate_dst (N:=5) rfl ?_);refine box_event ?hg (N:=5) ?hd (cs:=#[.int .i64 0,.slice none 0 0,.slice none 0 0,.slice none 0 0]) (t:=30) ?hr ?_;(case hd => rfl);(case hg => rfl);(case hr => first|(go_simp;done)|(go_simp;rfl));intro gb268 hg w9 hbox hb;have n0_:=mk_ (rb_ (qr_ HO260) hb);have n1_:=mk_ (rb_ (qr_ HO263) hb);have n2_:=mk_ (Kd.Q_below (by (with_reducible repeat (first|apply Kd.Q_alloc|apply Kd.Q_drewN|apply Kd.Q_drew));exact HO266.out) hb);have n3_:=mk_ (blk_below (g:=gb253) (o:=.cells #[.int .i64 0,.slice none 0 0,.slice none 0 0,.slice none 0 0] 30 (0,0)) (qk_ BK253) hb);have n4_:=mk_ (IsS84.below (by repeat (first|(with_reducible first|exact HI256.out|apply IsS84.alloc|apply IsS84.drewN|apply IsS84.drew|apply IsS84.set_1|refine IsS84.far ?_ NB256_253.out _)|exact HI256.out)) hb);have n5_:=mk_ (st_ (by repeat (first|(with_reducible first|exact HB.out|apply ba_|apply bn_|apply bd_|refine bs_ ?_ (IsS84.ge HI256.out)|refine bs_ ?_ GE253.out)|exact HB.out)) hb);have n6_:=mk_ (hbox);have n7_:=mk_ ((by rw [hg];exact (bz_ (by repeat (first|(with_reducible first|exact HB.out|apply ba_|apply bn_|apply bd_|refine bs_ ?_ (IsS84.ge HI256.out)|refine bs_ ?_ GE253.out)|exact HB.out))) : w.heap.size ≤ gb268));have n8_:=mk_ ((by rw [hg];exact (bz_ (by repeat (first|(with_reducible first|exact HB.out|apply ba_|apply bn_|apply bd_|refine bs_ ?_ (IsS84.ge HI256.out)|refine bs_ ?_ GE253.out)|exact HB.out))) : w.heap.size ≤ gb268));have n9_:=mk_ ((by rw [hg];exact Nat.ne_of_lt (blk_lt (g:=gb253) (o:=.cells #[.int .i64 0,.slice none 0 0,.slice none 0 0,.slice none 0 0] 30 (0,0)) (qk_ BK253)) : gb253 ≠ gb268));have n10_:=mk_ ((by rw [hg];exact Nat.ne_of_gt (blk_lt (g:=gb253) (o:=.cells #[.int .i64 0,.slice none 0 0,.slice none 0 0,.slice none 0 0] 30 (0,0)) (qk_ BK253)) : gb268 ≠ gb253));have n11_:=mk_ ((by rw [hg];exact Nat.ne_of_lt (IsS84.lt (show IsS84 w _ g256 t254 t267 from by repeat (first|(with_reducible first|exact HI256.out|apply IsS84.alloc|apply IsS84.drewN|apply IsS84.drew|apply IsS84.set_1|refine IsS84.far ?_ NB256_253.out _)|exact HI256.out))) : g256 ≠ gb268));have n12_:=mk_ ((by rw [hg];exact Nat.ne_of_gt (IsS84.lt (show IsS84 w _ g256 t254 t267 from by repeat (first|(with_reducible first|exact HI256.out|apply IsS84.alloc|apply IsS84.drewN|apply IsS84.drew|apply IsS84.set_1|refine IsS84.far ?_ NB256_253.out _)|exact HI256.out))) : gb268 ≠ g256));clear HO260;clear HO263;clear HO266;clear BK253;clear HI256;clear HB;have HO260:=n0_;have HO263:=n1_;have HO266:=n2_;have BK253:=n3_;have HI256:=n4_;have HB:=n5_;have BK268:=n6_;have GW268:=n7_;have GE268:=n8_;have NB253_268:=n9_;have NB268_253:=n10_;have NB256_268:=n11_;have NB268_256:=n12_;clear n0_ n1_ n2_ n3_ n4_ n5_ n6_ n7_ n8_ n9_ n10_ n11_ n12_;clear hb hbox hg;have hnb10:=NB268_253.out;have hnc10:=NB253_268.out;have hnb11:=NB268_256.out;have hnc11:=NB256_268.out;have hcz12_0 : w9.cell? ⟨gb268,0,none⟩ = some (.int .i64 0):=(bc_ BK268.out 0).trans rfl;have hcz12_1 : w9.cell? ⟨gb268,1,none⟩ = some (.slice none 0 0):=(bc_ BK268.out 1).trans rfl;have hcz12_2 : w9.cell? ⟨gb268,2,none⟩ = some (.slice none 0 0):=(bc_ BK268.out 2).trans rfl;have hcz12_3 : w9.cell? ⟨gb268,3,none⟩ = some (.slice none 0 0):=(bc_ BK268.out 3).trans rfl;have hfz12_0:=bf_ BK268.out 0;have hfz12_1:=bf_ BK268.out 1;have hfz12_2:=bf_ BK268.out 2;have hfz12_3:=bf_ BK268.out 3;obtain ⟨Ao13,co13,eo13⟩:=Kd.R_slice HO260.out;subst eo13;obtain ⟨Ao14,co14,eo14⟩:=Kd.R_slice HO263.out;subst eo14;obtain ⟨Ao15,co15,eo15,_⟩:=Kd.Q_slice HO266.out;subst eo15))
 have n0_ : Aside0 (Kd.R k51 51 ((((w9.setCell ⟨gb268,0,none⟩ (.int .i64 t257)).setCell ⟨gb268,1,none⟩ (.slice Ao13 t258.length co13)).setCell ⟨gb268,2,none⟩ (.slice Ao14 t261.length co14)).setCell ⟨gb268,3,none⟩ (.slice Ao15 t264.length co15)) w.heap.size (fun _ => True) (.slice Ao13 t258.length co13) t258):=⟨by (with_reducible repeat (first|apply ra_|apply rn_|apply rd_));exact rm_ (rf_ (p:=⟨gb268,3,none⟩) (rf_ (p:=⟨gb268,2,none⟩) (rf_ (p:=⟨gb268,1,none⟩) (rf_ (p:=⟨gb268,0,none⟩) (rt_ HO260.out BK268.out (by decide)) (fun _ hk => hk.2) (.int .i64 t257)) (fun _ hk => hk.2) (.slice Ao13 t258.length co13)) (fun _ hk => hk.2) (.slice Ao14 t261.length co14)) (fun _ hk => hk.2) (.slice Ao15 t264.length co15)) (fun _ hk => trivial)⟩
 have n1_ : Aside0 (Kd.R (Kd.int .i64) 3 ((((w9.setCell ⟨gb268,0,none⟩ (.int .i64 t257)).setCell ⟨gb268,1,none⟩ (.slice Ao13 t258.length co13)).setCell ⟨gb268,2,none⟩ (.slice Ao14 t261.length co14)).setCell ⟨gb268,3,none⟩ (.slice Ao15 t264.length co15)) w.heap.size (fun k_ => some k_ ≠ (.slice Ao15 t264.length co15 : Value).ownBlock) (.slice Ao14 t261.length co14) t261):=⟨by (with_reducible repeat (first|apply ra_|apply rn_|apply rd_));exact rm_ (rf_ (p:=⟨gb268,3,none⟩) (rf_ (p:=⟨gb268,2,none⟩) (rf_ (p:=⟨gb268,1,none⟩) (rf_ (p:=⟨gb268,0,none⟩) (rt_ HO263.out BK268.out (by decide)) (fun _ hk => hk.2) (.int .i64 t257)) (fun _ hk => hk.2) (.slice Ao13 t258.length co13)) (fun _ hk => hk.2) (.slice Ao14 t261.length co14)) (fun _ hk => hk.2) (.slice Ao15 t264.length co15)) (fun _ hk => hk.1)⟩
 have n2_ : Aside0 (Kd.Q (Kd.int .i64) 3 ((((w9.setCell ⟨gb268,0,none⟩ (.int .i64 t257)).setCell ⟨gb268,1,none⟩ (.slice Ao13 t258.length co13)).setCell ⟨gb268,2,none⟩ (.slice Ao14 t261.length co14)).setCell ⟨gb268,3,none⟩ (.slice Ao15 t264.length co15)) w.heap.size (fun k_ => some k_ ≠ (.slice Ao14 t261.length co14 : Value).ownBlock) (.slice Ao15 t264.length co15) t264):=⟨by (with_reducible repeat (first|apply Kd.Q_alloc|apply Kd.Q_drewN|apply Kd.Q_drew));exact Kd.Q_mono (Kd.Q_far (p:=⟨gb268,3,none⟩) (Kd.Q_far (p:=⟨gb268,2,none⟩) (Kd.Q_far (p:=⟨gb268,1,none⟩) (Kd.Q_far (p:=⟨gb268,0,none⟩) (Kd.Q_types HO266.out BK268.out (by decide)) (fun _ hk => hk.2) (.int .i64 t257)) (fun _ hk => hk.2) (.slice Ao13 t258.length co13)) (fun _ hk => hk.2) (.slice Ao14 t261.length co14)) (fun _ hk => hk.2) (.slice Ao15 t264.length co15)) (fun _ hk => hk.1)⟩
 have n3_ : Aside0 (((((w9.setCell ⟨gb268,0,none⟩ (.int .i64 t257)).setCell ⟨gb268,1,none⟩ (.slice Ao13 t258.length co13)).setCell ⟨gb268,2,none⟩ (.slice Ao14 t261.length co14)).setCell ⟨gb268,3,none⟩ (.slice Ao15 t264.length co15)).heap[gb253]? = some (.cells #[.int .i64 0,.slice none 0 0,.slice none 0 0,.slice none 0 0] 30 (0,0))):=⟨by (with_reducible repeat (first|refine kn_ ?_ _|refine kd_ ?_|refine ka_ ?_ _));refine blk_far ?_ NB253_268.out _;(with_reducible repeat (first|refine kn_ ?_ _|refine kd_ ?_|refine ka_ ?_ _));refine blk_far ?_ NB253_268.out _;(with_reducible repeat (first|refine kn_ ?_ _|refine kd_ ?_|refine ka_ ?_ _));refine blk_far ?_ NB253_268.out _;(with_reducible repeat (first|refine kn_ ?_ _|refine kd_ ?_|refine ka_ ?_ _));refine blk_far ?_ NB253_268.out _;(with_reducible repeat (first|refine kn_ ?_ _|refine kd_ ?_|refine ka_ ?_ _));exact BK253.out⟩
 have n4_ : Aside0 (((((w9.setCell ⟨gb268,0,none⟩ (.int .i64 t257)).setCell ⟨gb268,1,none⟩ (.slice Ao13 t258.length co13)).setCell ⟨gb268,2,none⟩ (.slice Ao14 t261.length co14)).setCell ⟨gb268,3,none⟩ (.slice Ao15 t264.length co15)).heap[gb268]? = some (.cells #[.int .i64 t257,.slice Ao13 t258.length co13,.slice Ao14 t261.length co14,.slice Ao15 t264.length co15] 30 (0,0))):=⟨by (with_reducible repeat (first|refine kn_ ?_ _|refine kd_ ?_|refine ka_ ?_ _));refine blk_put (cs:=#[.int .i64 t257,.slice Ao13 t258.length co13,.slice Ao14 t261.length co14,.slice none 0 0]) ?_ 3 _ rfl;(with_reducible repeat (first|refine kn_ ?_ _|refine kd_ ?_|refine ka_ ?_ _));refine blk_put (cs:=#[.int .i64 t257,.slice Ao13 t258.length co13,.slice none 0 0,.slice none 0 0]) ?_ 2 _ rfl;(with_reducible repeat (first|refine kn_ ?_ _|refine kd_ ?_|refine ka_ ?_ _));refine blk_put (cs:=#[.int .i64 t257,.slice none 0 0,.slice none 0 0,.slice none 0 0]) ?_ 1 _ rfl;(with_reducible repeat (first|refine kn_ ?_ _|refine kd_ ?_|refine ka_ ?_ _));refine blk_put (cs:=#[.int .i64 0,.slice none 0 0,.slice none 0 0,.slice none 0 0]) ?_ 0 _ rfl;(with_reducible repeat (first|refine kn_ ?_ _|refine kd_ ?_|refine ka_ ?_ _));exact BK268.out⟩
 have n5_ : Aside0 (IsS84 w ((((w9.setCell ⟨gb268,0,none⟩ (.int .i64 t257)).setCell ⟨gb268,1,none⟩ (.slice Ao13 t258.length co13)).setCell ⟨gb268,2,none⟩ (.slice Ao14 t261.length co14)).setCell ⟨gb268,3,none⟩ (.slice Ao15 t264.length co15)) g256 t254 t267):=⟨by repeat (first|(with_reducible first|exact HI256.out|apply IsS84.alloc|apply IsS84.drewN|apply IsS84.drew|apply IsS84.set_1|refine IsS84.far ?_ NB256_253.out _|refine IsS84.far ?_ NB256_268.out _)|exact HI256.out)⟩
 have n6_ : Aside0 (Below w.heap.size w ((((w9.setCell ⟨gb268,0,none⟩ (.int .i64 t257)).setCell ⟨gb268,1,none⟩ (.slice Ao13 t258.length co13)).setCell ⟨gb268,2,none⟩ (.slice Ao14 t261.length co14)).setCell ⟨gb268,3,none⟩ (.slice Ao15 t264.length co15))):=⟨by repeat (first|(with_reducible first|exact HB.out|apply ba_|apply bn_|apply bd_|refine bs_ ?_ (IsS84.ge HI256.out)|refine bs_ ?_ GE253.out|refine bs_ ?_ GE268.out)|exact HB.out)⟩
 (try clear HO260)
 (try clear HO263)
 (try clear HO266)
 (try clear BK253)
 (try clear BK268)
 (try clear HI256)
 (try clear HB)
 generalize ((((w9.setCell ⟨gb268,0,none⟩ (.int .i64 t257)).setCell ⟨gb268,1,none⟩ (.slice Ao13 t258.length co13)).setCell ⟨gb268,2,none⟩ (.slice Ao14 t261.length co14)).setCell ⟨gb268,3,none⟩ (.slice Ao15 t264.length co15)) = w16 at n0_ n1_ n2_ n3_ n4_ n5_ n6_ ⊢
 have HO260:=n0_
 have HO263:=n1_
 have HO266:=n2_
 have BK253:=n3_
 have BK268:=n4_
 have HI256:=n5_
 have HB:=n6_
 clear n0_ n1_ n2_ n3_ n4_ n5_ n6_
 have n0_:=mk_ (rd_ HO260.out)
 have n1_:=mk_ (rd_ HO263.out)
 have n2_:=mk_ (Kd.Q_drew HO266.out)
 have n3_:=mk_ (kd_ BK253.out)
 have n4_:=mk_ (kd_ BK268.out)
 have n5_:=mk_ (IsS84.drew HI256.out)
 have n6_:=mk_ (bd_ HB.out)
 clear HO260
 clear HO263
 clear HO266
 clear BK253
 clear BK268
 clear HI256
 clear HB
 have HO260:=n0_
 have HO263:=n1_
 have HO266:=n2_
 have BK253:=n3_
 have BK268:=n4_
 have HI256:=n5_
 have HB:=n6_
 clear n0_ n1_ n2_ n3_ n4_ n5_ n6_
 refine start_ (n:=13) (S:=fun w' => w'.cell? ⟨gb268,0,none⟩ = some (.int .i64 t257) ∧ w'.cell? ⟨gb268,1,none⟩ = some (.slice Ao13 t258.length co13) ∧ w'.cell? ⟨gb268,2,none⟩ = some (.slice Ao14 t261.length co14) ∧ w'.cell? ⟨gb268,3,none⟩ = some (.slice Ao15 t264.length co15)) (ds:=[]) #[false,false,false,false,false,false,false,false,false,false,false,false,false] (by kernel_rfl) rfl rfl ⟨(bc_ BK268.out 0).trans rfl,(bc_ BK268.out 1).trans rfl,(bc_ BK268.out 2).trans rfl,(bc_ BK268.out 3).trans rfl⟩ (fun hHeld => ?_);refine with_tabW spec_DrawCutCable.tab3 spec_DrawCutCable.bits3 (fun HT_ HW_ => ?_)
 generalize w16.drew = w17 at HO260 HO263 HO266 BK253 BK268 HI256 HB hHeld ⊢
 refine pure_ (i:=1) (N:=some 11) (v:=?_) (a':=?_) #[false,true,false,false,false,false,false,false,false,false,false,false,false] rfl rfl (any_of HT_.out (by kernel_rfl)) (fun _ _ _ h => h) (Or.inl ⟨by rfl,?_⟩) ?_ ?_
 rotate_left
 ·intro w'
  go_simp
  with_reducible rfl
 rotate_left
 ·simp only [Act.put,sx_,sy_,sz_,i64_w,i32_w]
  rfl
 refine pure_ (i:=2) (N:=some 12) (v:=?_) (a':=?_) #[false,true,true,false,false,false,false,false,false,false,false,false,false] rfl rfl (any_of HT_.out (by kernel_rfl)) (fun _ _ _ h => h) (Or.inl ⟨by rfl,?_⟩) ?_ ?_
 rotate_left
 ·intro w'
  go_simp
  with_reducible rfl
 rotate_left
 ·simp only [Act.put,sx_,sy_,sz_,i64_w,i32_w]
  rfl
 refine pure_ (i:=7) (N:=some 17) (v:=?_) (a':=?_) #[false,true,true,false,false,false,false,true,false,false,false,false,false] rfl rfl (any_of HT_.out (by kernel_rfl)) (fun _ _ _ h => h) (Or.inl ⟨by rfl,?_⟩) ?_ ?_
 rotate_left
 ·intro w'
  go_simp
  with_reducible rfl
 rotate_left
 ·simp only [Act.put,sx_,sy_,sz_,i64_w,i32_w]
  rfl
 refine take_ (i:=0) (N:=some 10) (v:=?_) (a':=?_) #[true,true,true,false,false,false,false,true,false,false,false,false,false] rfl rfl (take_ofW HT_.out HW_.out (by kernel_rfl)) (fun _ _ _ h => h) (Or.inl ⟨by rfl,?_⟩) hHeld ?_ ?_
 rotate_left
 ·rintro w' ⟨s0,s1,s2,s3⟩
  go_simp
  with_reducible rfl
 rotate_left
 ·simp only [Act.put,sx_,sy_,sz_,i64_w,i32_w]
  rfl
 refine take_ (i:=3) (N:=some 13) (v:=?_) (a':=?_) #[true,true,true,true,false,false,false,true,false,false,false,false,false] rfl rfl (take_ofW HT_.out HW_.out (by kernel_rfl)) (fun _ _ _ h => h) (Or.inl ⟨by rfl,?_⟩) hHeld ?_ ?_
 rotate_left
 ·rintro w' ⟨s0,s1,s2,s3⟩
  go_simp
  with_reducible rfl
 rotate_left
 ·simp only [Act.put,sx_,sy_,sz_,i64_w,i32_w]
  rfl
 refine pure_ (i:=4) (N:=some 14) (v:=?_) (a':=?_) #[true,true,true,true,true,false,false,true,false,false,false,false,false] rfl rfl (any_of HT_.out (by kernel_rfl)) (fun _ _ _ h => h) (Or.inl ⟨by rfl,?_⟩) ?_ ?_
 rotate_left
 ·intro w'
  go_simp
  with_reducible rfl
 rotate_left
 ·simp only [Act.put,sx_,sy_,sz_,i64_w,i32_w]
  rfl
 refine pure_ (i:=5) (N:=some 15) (v:=?_) (a':=?_) #[true,true,true,true,true,true,false,true,false,false,false,false,false] rfl rfl (any_of HT_.out (by kernel_rfl)) (fun _ _ _ h => h) (Or.inl ⟨by rfl,?_⟩) ?_ ?_
 rotate_left
 ·intro w'
  go_simp
  with_reducible rfl
 rotate_left
 ·simp only [Act.put,sx_,sy_,sz_,i64_w,i32_w]
  rfl
 refine one_ (i:=6) (N:=some 16) #[true,true,true,true,true,true,true,true,false,false,false,false,false] rfl rfl (one_of HT_.out (by kernel_rfl)) (by decide) (fun K hK => ?_)
 refine goes_ Try.func53 (by kernel_rfl) rfl #[.pointer (some ⟨g256,0,none⟩),.int .i64 (wrap64 ((t258.length : Int) + 2))] (by rfl) rfl rfl qm_ ?_
 with_reducible refine (spec_l21Rd_pick.calls k g256 t254 t267 (wrap64 ((t258.length : Int) + 2)) t269 t270 w _ ?side1 ?side2 A4.out).mono ?_
 (case side1 => repeat (first|(with_reducible first|exact HI256.out|apply IsS84.alloc|apply IsS84.drewN|apply IsS84.drew|apply IsS84.set_1|refine IsS84.far ?_ NB256_253.out _|refine IsS84.far ?_ NB256_268.out _)|exact HI256.out))
 (case side2 => repeat (first|(with_reducible first|exact HB.out|apply ba_|apply bn_|apply bd_|refine bs_ ?_ (IsS84.ge HI256.out)|refine bs_ ?_ GE253.out|refine bs_ ?_ GE268.out)|exact HB.out))
 rintro e w18 ⟨rfl,hi,hb,hk⟩
 refine ⟨_,rfl,?_⟩
 have n0_:=mk_ (KeepBut.blk hk (g':=gb253) (o:=.cells #[.int .i64 0,.slice none 0 0,.slice none 0 0,.slice none 0 0] 30 (0,0)) (qk_ BK253) NB253_256.out (by simp))
 have n1_:=mk_ (rm_ (Kd.R_keep (IsS84.apart (show IsS84 w _ g256 t254 t267 from by repeat (first|(with_reducible first|exact HI256.out|apply IsS84.alloc|apply IsS84.drewN|apply IsS84.drew|apply IsS84.set_1|refine IsS84.far ?_ NB256_253.out _|refine IsS84.far ?_ NB256_268.out _)|exact HI256.out)) (qr_ HO260) (by decide)) hk (fun _ h => h.2)) (fun _ h => h.1))
 have n2_:=mk_ (rm_ (Kd.R_keep (IsS84.apart (show IsS84 w _ g256 t254 t267 from by repeat (first|(with_reducible first|exact HI256.out|apply IsS84.alloc|apply IsS84.drewN|apply IsS84.drew|apply IsS84.set_1|refine IsS84.far ?_ NB256_253.out _|refine IsS84.far ?_ NB256_268.out _)|exact HI256.out)) (qr_ HO263) (by decide)) hk (fun _ h => h.2)) (fun _ h => h.1))
 have n3_:=mk_ (Kd.Q_mono (Kd.Q_keep (IsS84.apartQ (show IsS84 w _ g256 t254 t267 from by repeat (first|(with_reducible first|exact HI256.out|apply IsS84.alloc|apply IsS84.drewN|apply IsS84.drew|apply IsS84.set_1|refine IsS84.far ?_ NB256_253.out _|refine IsS84.far ?_ NB256_268.out _)|exact HI256.out)) (by (with_reducible repeat (first|apply Kd.Q_alloc|apply Kd.Q_drewN|apply Kd.Q_drew));exact HO266.out) (by decide)) hk (fun _ h => h.2)) (fun _ h => h.1))
 have n4_:=mk_ (KeepBut.blk hk (g':=gb268) (o:=.cells #[.int .i64 t257,.slice Ao13 t258.length co13,.slice Ao14 t261.length co14,.slice Ao15 t264.length co15] 30 (0,0)) (qk_ BK268) NB268_256.out (by simp))
 have n5_:=mk_ (hb)
 have n6_:=mk_ (hi)
 clear BK253
 clear HO260
 clear HO263
 clear HO266
 clear BK268
 clear HB
 clear HI256
 have BK253:=n0_
 have HO260:=n1_
 have HO263:=n2_
 have HO266:=n3_
 have BK268:=n4_
 have HB:=n5_
 have HI256:=n6_
 clear n0_ n1_ n2_ n3_ n4_ n5_ n6_
 (try clear hb)
 (try clear hb2)
 (try clear hk)
 (try clear hi)
 refine hK.out _ _ ⟨(bc_ BK268.out 0).trans rfl,(bc_ BK268.out 1).trans rfl,(bc_ BK268.out 2).trans rfl,(bc_ BK268.out 3).trans rfl⟩ (fun hHeld => ?_)
 clear hK K
 refine norm_ (a':=?_) ?_ ?_
 rotate_left
 ·show Act.put _ (some 16) _ = _
  simp only [Act.put,sx_,sy_,sz_,i64_w,i32_w]
  rfl
 refine one_ (i:=8) (N:=some 18) #[true,true,true,true,true,true,true,true,true,false,false,false,false] rfl rfl (one_of HT_.out (by kernel_rfl)) (by decide) (fun K hK => ?_)
 refine goes_ Try.func53 (by kernel_rfl) rfl #[.pointer (some ⟨g256,0,none⟩),.int .i64 9] (by rfl) rfl rfl qm_ ?_
 with_reducible refine (spec_l21Rd_pick.calls k g256 t254 t270 9 t271 t272 w _ ?side1 ?side2 A5.out).mono ?_
 (case side1 => repeat (first|(with_reducible first|exact HI256.out|apply IsS84.alloc|apply IsS84.drewN|apply IsS84.drew|apply IsS84.set_1|refine IsS84.far ?_ NB256_253.out _|refine IsS84.far ?_ NB256_268.out _)|exact HI256.out))
 (case side2 => repeat (first|(with_reducible first|exact HB.out|apply ba_|apply bn_|apply bd_|refine bs_ ?_ (IsS84.ge HI256.out)|refine bs_ ?_ GE253.out|refine bs_ ?_ GE268.out)|exact HB.out))
 rintro e w19 ⟨rfl,hi,hb,hk⟩
 refine ⟨_,rfl,?_⟩
 have n0_:=mk_ (KeepBut.blk hk (g':=gb253) (o:=.cells #[.int .i64 0,.slice none 0 0,.slice none 0 0,.slice none 0 0] 30 (0,0)) (qk_ BK253) NB253_256.out (by simp))
 have n1_:=mk_ (rm_ (Kd.R_keep (IsS84.apart (show IsS84 w _ g256 t254 t270 from by repeat (first|(with_reducible first|exact HI256.out|apply IsS84.alloc|apply IsS84.drewN|apply IsS84.drew|apply IsS84.set_1|refine IsS84.far ?_ NB256_253.out _|refine IsS84.far ?_ NB256_268.out _)|exact HI256.out)) (qr_ HO260) (by decide)) hk (fun _ h => h.2)) (fun _ h => h.1))
 have n2_:=mk_ (rm_ (Kd.R_keep (IsS84.apart (show IsS84 w _ g256 t254 t270 from by repeat (first|(with_reducible first|exact HI256.out|apply IsS84.alloc|apply IsS84.drewN|apply IsS84.drew|apply IsS84.set_1|refine IsS84.far ?_ NB256_253.out _|refine IsS84.far ?_ NB256_268.out _)|exact HI256.out)) (qr_ HO263) (by decide)) hk (fun _ h => h.2)) (fun _ h => h.1))
 have n3_:=mk_ (Kd.Q_mono (Kd.Q_keep (IsS84.apartQ (show IsS84 w _ g256 t254 t270 from by repeat (first|(with_reducible first|exact HI256.out|apply IsS84.alloc|apply IsS84.drewN|apply IsS84.drew|apply IsS84.set_1|refine IsS84.far ?_ NB256_253.out _|refine IsS84.far ?_ NB256_268.out _)|exact HI256.out)) (by (with_reducible repeat (first|apply Kd.Q_alloc|apply Kd.Q_drewN|apply Kd.Q_drew));exact HO266.out) (by decide)) hk (fun _ h => h.2)) (fun _ h => h.1))
 have n4_:=mk_ (KeepBut.blk hk (g':=gb268) (o:=.cells #[.int .i64 t257,.slice Ao13 t258.length co13,.slice Ao14 t261.length co14,.slice Ao15 t264.length co15] 30 (0,0)) (qk_ BK268) NB268_256.out (by simp))
 have n5_:=mk_ (hb)
 have n6_:=mk_ (hi)
 clear BK253
 clear HO260
 clear HO263
 clear HO266
 clear BK268
 clear HB
 clear HI256
 have BK253:=n0_
 have HO260:=n1_
 have HO263:=n2_
 have HO266:=n3_
 have BK268:=n4_
 have HB:=n5_
 have HI256:=n6_
 clear n0_ n1_ n2_ n3_ n4_ n5_ n6_
 (try clear hb)
 (try clear hb2)
 (try clear hk)
 (try clear hi)
 refine hK.out _ _ ⟨(bc_ BK268.out 0).trans rfl,(bc_ BK268.out 1).trans rfl,(bc_ BK268.out 2).trans rfl,(bc_ BK268.out 3).trans rfl⟩ (fun hHeld => ?_)
 clear hK K
 refine norm_ (a':=?_) ?_ ?_
 rotate_left
 ·show Act.put _ (some 18) _ = _
  simp only [Act.put,sx_,sy_,sz_,i64_w,i32_w]
  rfl
 refine pure_ (i:=9) (N:=some 19) (v:=?_) (a':=?_) #[true,true,true,true,true,true,true,true,true,true,false,false,false] rfl rfl (any_of HT_.out (by kernel_rfl)) (fun _ _ _ h => h) (Or.inl ⟨by rfl,?_⟩) ?_ ?_
 rotate_left
 ·intro w'
  go_simp
  with_reducible rfl
 rotate_left
 ·simp only [Act.put,sx_,sy_,sz_,i64_w,i32_w]
  rfl
 refine pure_ (i:=10) (N:=some 20) (v:=?_) (a':=?_) #[true,true,true,true,true,true,true,true,true,true,true,false,false] rfl rfl (any_of HT_.out (by kernel_rfl)) (fun _ _ _ h => h) (Or.inl ⟨by rfl,?_⟩) ?_ ?_
 rotate_left
 ·intro w'
  go_simp
  with_reducible rfl
 rotate_left
 ·simp only [Act.put,sx_,sy_,sz_,i64_w,i32_w]
  rfl
 refine one_ (i:=11) (N:=none) #[true,true,true,true,true,true,true,true,true,true,true,true,false] rfl rfl (one_of HT_.out (by kernel_rfl)) (by decide) (fun K hK => ?_)
 have hs20 : w19.cell? ⟨gb253,0,none⟩ = some (.int .i64 0):=(bc_ BK253.out 0).trans rfl
 have hfs20:=bf_ BK253.out 0
 have hns20_1:=NB268_253.out
 have hms20_1:=NB253_268.out
 have hs21 : w19.cell? ⟨gb253,1,none⟩ = some (.slice none 0 0):=(bc_ BK253.out 1).trans rfl
 have hfs21:=bf_ BK253.out 1
 have hns21_1:=NB268_253.out
 have hms21_1:=NB253_268.out
 have hs22 : w19.cell? ⟨gb253,2,none⟩ = some (.slice none 0 0):=(bc_ BK253.out 2).trans rfl
 have hfs22:=bf_ BK253.out 2
 have hns22_1:=NB268_253.out
 have hms22_1:=NB253_268.out
 have hs23 : w19.cell? ⟨gb253,3,none⟩ = some (.slice none 0 0):=(bc_ BK253.out 3).trans rfl
 have hfs23:=bf_ BK253.out 3
 have hns23_1:=NB268_253.out
 have hms23_1:=NB253_268.out
 refine skip_ (w1:=?_) (by rfl) rfl ?_ ?_
 rotate_left
 ·go_simp
  rfl
 refine hK.out _ _ ⟨((cell_far (p:=⟨gb253,_,none⟩) NB268_253.out _).trans (((cell_far (p:=⟨gb253,_,none⟩) NB268_253.out _).trans (((cell_far (p:=⟨gb253,_,none⟩) NB268_253.out _).trans (((cell_far (p:=⟨gb253,_,none⟩) NB268_253.out _).trans (hHeld.1)))))))),((cell_far (p:=⟨gb253,_,none⟩) NB268_253.out _).trans (((cell_far (p:=⟨gb253,_,none⟩) NB268_253.out _).trans (((cell_far (p:=⟨gb253,_,none⟩) NB268_253.out _).trans (((cell_far (p:=⟨gb253,_,none⟩) NB268_253.out _).trans (hHeld.2.1)))))))),((cell_far (p:=⟨gb253,_,none⟩) NB268_253.out _).trans (((cell_far (p:=⟨gb253,_,none⟩) NB268_253.out _).trans (((cell_far (p:=⟨gb253,_,none⟩) NB268_253.out _).trans (((cell_far (p:=⟨gb253,_,none⟩) NB268_253.out _).trans (hHeld.2.2.1)))))))),((cell_far (p:=⟨gb253,_,none⟩) NB268_253.out _).trans (((cell_far (p:=⟨gb253,_,none⟩) NB268_253.out _).trans (((cell_far (p:=⟨gb253,_,none⟩) NB268_253.out _).trans (((cell_far (p:=⟨gb253,_,none⟩) NB268_253.out _).trans (hHeld.2.2.2))))))))⟩ (fun hHeld => ?_)
 clear hK K
 refine pure_ (i:=12) (N:=some 3) (v:=?_) (a':=?_) #[true,true,true,true,true,true,true,true,true,true,true,true,true] rfl rfl (any_of HT_.out (by kernel_rfl)) (fun _ _ _ h => h) (Or.inl ⟨by rfl,?_⟩) ?_ ?_
 rotate_left
 ·intro w'
  go_simp
  with_reducible rfl
 rotate_left
 ·simp only [Act.put,sx_,sy_,sz_,i64_w,i32_w]
  rfl
 refine done_ (done_of HT_.out (by kernel_rfl)) ?_
 try go_wp2
 refine bodyPost_ret (results_ct rfl _ _ gb253 30 #[.int .i64 t257,.slice Ao13 t258.length co13,.slice Ao14 t261.length co14,.slice Ao15 t264.length co15] (0,0) _ rfl (by (with_reducible repeat (first|refine kn_ ?_ _|refine kd_ ?_|refine ka_ ?_ _));refine blk_put (cs:=#[.int .i64 t257,.slice Ao13 t258.length co13,.slice Ao14 t261.length co14,.slice none 0 0]) ?_ 3 _ rfl;(with_reducible repeat (first|refine kn_ ?_ _|refine kd_ ?_|refine ka_ ?_ _));refine blk_put (cs:=#[.int .i64 t257,.slice Ao13 t258.length co13,.slice none 0 0,.slice none 0 0]) ?_ 2 _ rfl;(with_reducible repeat (first|refine kn_ ?_ _|refine kd_ ?_|refine ka_ ?_ _));refine blk_put (cs:=#[.int .i64 t257,.slice none 0 0,.slice none 0 0,.slice none 0 0]) ?_ 1 _ rfl;(with_reducible repeat (first|refine kn_ ?_ _|refine kd_ ?_|refine ka_ ?_ _));refine blk_put (cs:=#[.int .i64 0,.slice none 0 0,.slice none 0 0,.slice none 0 0]) ?_ 0 _ rfl;(with_reducible repeat (first|refine kn_ ?_ _|refine kd_ ?_|refine ka_ ?_ _));exact BK253.out) Try.underlying30 rfl (by kernel_rfl)) rfl ?_
 exact ⟨_,_,_,by first|rfl|(simp [errW_none,errW_some] <;> rfl)|(simp [*,errW_none,errW_some] <;> rfl),by (with_reducible repeat (first|apply ra_|apply rn_|apply rd_));exact rm_ (rf_ (p:=⟨gb253,3,none⟩) (rf_ (p:=⟨gb253,2,none⟩) (rf_ (p:=⟨gb253,1,none⟩) (rf_ (p:=⟨gb253,0,none⟩) (rt_ HO260.out BK253.out (by decide)) (fun _ hk => hk.2) (.int .i64 t257)) (fun _ hk => hk.2) (.slice Ao13 t258.length co13)) (fun _ hk => hk.2) (.slice Ao14 t261.length co14)) (fun _ hk => hk.2) (.slice Ao15 t264.length co15)) (fun _ hk => trivial),by (with_reducible repeat (first|apply ra_|apply rn_|apply rd_));exact rm_ (rf_ (p:=⟨gb253,3,none⟩) (rf_ (p:=⟨gb253,2,none⟩) (rf_ (p:=⟨gb253,1,none⟩) (rf_ (p:=⟨gb253,0,none⟩) (rt_ HO263.out BK253.out (by decide)) (fun _ hk => hk.2) (.int .i64 t257)) (fun _ hk => hk.2) (.slice Ao13 t258.length co13)) (fun _ hk => hk.2) (.slice Ao14 t261.length co14)) (fun _ hk => hk.2) (.slice Ao15 t264.length co15)) (fun _ hk => hk.1),by (with_reducible repeat (first|apply Kd.Q_alloc|apply Kd.Q_drewN|apply Kd.Q_drew));exact Kd.Q_mono (Kd.Q_far (p:=⟨gb253,3,none⟩) (Kd.Q_far (p:=⟨gb253,2,none⟩) (Kd.Q_far (p:=⟨gb253,1,none⟩) (Kd.Q_far (p:=⟨gb253,0,none⟩) (Kd.Q_types HO266.out BK253.out (by decide)) (fun _ hk => hk.2) (.int .i64 t257)) (fun _ hk => hk.2) (.slice Ao13 t258.length co13)) (fun _ hk => hk.2) (.slice Ao14 t261.length co14)) (fun _ hk => hk.2) (.slice Ao15 t264.length co15)) (fun _ hk => hk.1),by repeat (first|(with_reducible first|exact HB.out|apply ba_|apply bn_|apply bd_|refine bs_ ?_ (IsS84.ge HI256.out)|refine bs_ ?_ GE253.out|refine bs_ ?_ GE268.out)|exact HB.out)⟩

/-! ### bits_Mul64: function 106 -/
def bits_Mul64.f (a0 : Int) (a1 : Int) : Option (Int × Int):=some (IntKind.u64.wrap ((IntKind.u64.wrap ((IntKind.u64.wrap ((a0 / 4294967296) * (a1 / 4294967296))) + ((IntKind.u64.wrap ((IntKind.u64.wrap ((a0 / 4294967296) * (Go.bits .and .u64 a1 4294967295))) + ((IntKind.u64.wrap ((Go.bits .and .u64 a0 4294967295) * (Go.bits .and .u64 a1 4294967295))) / 4294967296))) / 4294967296))) + ((IntKind.u64.wrap ((Go.bits .and .u64 (IntKind.u64.wrap ((IntKind.u64.wrap ((a0 / 4294967296) * (Go.bits .and .u64 a1 4294967295))) + ((IntKind.u64.wrap ((Go.bits .and .u64 a0 4294967295) * (Go.bits .and .u64 a1 4294967295))) / 4294967296))) 4294967295) + (IntKind.u64.wrap ((Go.bits .and .u64 a0 4294967295) * (a1 / 4294967296))))) / 4294967296)),IntKind.u64.wrap (a0 * a1))
set_option maxHeartbeats 8000000 in
set_option maxRecDepth 100000 in
theorem bits_Mul64.calls (a0 : Int) (a1 : Int) (r1 : Int) (r2 : Int) (w : World) (h : bits_Mul64.f a0 a1 = some (r1,r2)) :
  Calls Try.prog 106 #[.int .u64 a0,.int .u64 a1] w fun e w' => e = .returned (.tuple #[.int .u64 r1,.int .u64 r2]) ∧ Drawn0 w w':=by
 have H : (some (IntKind.u64.wrap ((IntKind.u64.wrap ((IntKind.u64.wrap ((a0 / 4294967296) * (a1 / 4294967296))) + ((IntKind.u64.wrap ((IntKind.u64.wrap ((a0 / 4294967296) * (Go.bits .and .u64 a1 4294967295))) + ((IntKind.u64.wrap ((Go.bits .and .u64 a0 4294967295) * (Go.bits .and .u64 a1 4294967295))) / 4294967296))) / 4294967296))) + ((IntKind.u64.wrap ((Go.bits .and .u64 (IntKind.u64.wrap ((IntKind.u64.wrap ((a0 / 4294967296) * (Go.bits .and .u64 a1 4294967295))) + ((IntKind.u64.wrap ((Go.bits .and .u64 a0 4294967295) * (Go.bits .and .u64 a1 4294967295))) / 4294967296))) 4294967295) + (IntKind.u64.wrap ((Go.bits .and .u64 a0 4294967295) * (a1 / 4294967296))))) / 4294967296)),IntKind.u64.wrap (a0 * a1))) = some (r1,r2):=h
 clear h
 simp only [Option.some.injEq,Prod.mk.injEq] at H
 obtain ⟨rfl,rfl⟩:=H
 go_enter Try.func106,Try.ntmps106
 go_wp2
 go_ret2
 exact ⟨by first|rfl|(simp;done)|(simp [*];done),by repeat (first|exact Drawn0.refl _|apply Drawn0.step)⟩

/-! ### bits_Mul: function 92 -/
def bits_Mul.f (a0 : Int) (a1 : Int) : Option (Int × Int):=(bits_Mul64.f a0 a1).bind fun bt273 => (some (bt273.1,bt273.2))
set_option maxHeartbeats 8000000 in
set_option maxRecDepth 100000 in
theorem bits_Mul.calls (a0 : Int) (a1 : Int) (r1 : Int) (r2 : Int) (w : World) (h : bits_Mul.f a0 a1 = some (r1,r2)) :
  Calls Try.prog 92 #[.int .u64 a0,.int .u64 a1] w fun e w' => e = .returned (.tuple #[.int .u64 r1,.int .u64 r2]) ∧ Drawn0 w w':=by
 have H : ((bits_Mul64.f a0 a1).bind fun bt273 => (some (bt273.1,bt273.2))) = some (r1,r2):=h
 clear h
 replace H:=Option.bind_eq_some_iff.mp H
 obtain ⟨⟨t273,t274⟩,A30,H⟩:=H
 replace H : (some (t273,t274)) = some (r1,r2):=H
 have A3:=mk_ A30
 clear A30
 simp only [Option.some.injEq,Prod.mk.injEq] at H
 obtain ⟨rfl,rfl⟩:=H
 go_enter Try.func92,Try.ntmps92
 go_wp2_with (first|((with_reducible refine gate_callee (f:=106) rfl ?_);refine goesL_ (some 25) rfl rfl Try.func106 (by kernel_rfl) rfl #[.int .u64 a0,.int .u64 a1] rfl qm_ ?_;(with_reducible refine (bits_Mul64.calls a0 a1 t273 t274 _ A3.out).mono ?_);rintro e w' ⟨rfl,⟨nd,rfl⟩⟩;refine ⟨_,rfl,?_⟩))
 go_ret2
 exact ⟨by first|rfl|(simp;done)|(simp [*];done),by repeat (first|exact Drawn0.refl _|apply Drawn0.step)⟩

/-! ### slices_Repeat_int_int: function 81 (by hand) -/
theorem R_fills {g cap : Nat} {base : Nat} {ok : Nat → Prop} {n : Nat} (v : Int) (m : Nat) : ∀ (o : Nat) (W : World) (xs : List Int),Kd.R (Kd.int .i64) 3 W base ok (.slice (some ⟨g,0,none⟩) n cap) xs → o + m ≤ n → xs.take o = List.replicate o v →
  ∃ ys,Kd.R (Kd.int .i64) 3 (W.setCells g o (List.replicate m (.int .i64 v))) base ok (.slice (some ⟨g,0,none⟩) n cap) ys ∧ ys.take (o + m) = List.replicate (o + m) v:=by
 induction m with
 | zero => exact fun o W xs h _ he => ⟨xs,h,he⟩
 | succ m ih =>
  intro o W xs h hm he
  have hn:=(rr_ h).1
  have h1:=(Kd.R_putg h (o : Int) v).1
  rw [Int.toNat_natCast] at h1
  obtain ⟨ys,h2,h3⟩:=ih (o + 1) _ _ h1 (by omega) (by
   rw [List.take_add_one,List.take_set_of_le (Nat.le_refl o),he,List.getElem?_set_self (by omega),List.replicate_succ']
   rfl)
  exact ⟨ys,h2,by rw [show o + (m + 1) = o + 1 + m by omega];exact h3⟩
theorem below_fills {w0 : World} {g : Nat} (hg : w0.heap.size ≤ g) (vs : List Value) : ∀ (o : Nat) (W : World),Below w0.heap.size w0 W → Below w0.heap.size w0 (W.setCells g o vs):=by
 induction vs with
 | nil => exact fun _ _ h => h
 | cons v vs ih => exact fun o W h => ih (o + 1) _ (bs_ h hg)
/-- 'copy' of a row's first n cells behind themselves. -/
theorem copy_fills {g cap n : Nat} {base : Nat} {ok : Nat → Prop} {W : World} {xs : List Int} (v : Int) (o m c1 c2 : Nat) (h : Kd.R (Kd.int .i64) 3 W base ok (.slice (some ⟨g,0,none⟩) n cap) xs) (he : xs.take o = List.replicate o v) (hm : m = Nat.min o (n - o)) (ho : o ≤ n) :
  ∀ ty,(Builtin.copy_ #[23,23] ty #[.slice (some ⟨g,o,none⟩) (n - o) c1,.slice (some ⟨g,0,none⟩) o c2]).run Try.prog W = .ok (.int .i64 m) (W.setCells g o (List.replicate m (.int .i64 v))):=by
 intro ty
 have hn:=(rr_ h).1
 have hmo : m ≤ o ∧ m ≤ n - o:=by rw [hm];exact ⟨Nat.min_le_left _ _,Nat.min_le_right _ _⟩
 have hval : ∀ j,j < o → rdOf 0 xs (j : Int) = v:=fun j hj => by
  have:=congrArg (fun t => t[j]?) he
  simp only [List.getElem?_take,if_pos hj,List.getElem?_replicate] at this
  simp [rdOf,List.getD_eq_getElem?_getD,this]
 have e:=run_copy_cells (P:=Try.prog) W 23 23 ty 3 g o (n - o) c1 ⟨g,0,none⟩ o c2 (List.replicate m (.int .i64 v)) Try.underlying23 (by kernel_rfl) (by rw [List.length_replicate];exact hm)
  (fun j u hj => by
   rw [List.getElem?_replicate] at hj
   split at hj
   ·rename_i hjm
    have hc:=(Kd.R_celln 0 h (j : Int) (by omega) (by omega)).1
    rw [Int.toNat_natCast,hval j (by omega)] at hc
    have e2 : (⟨g,0,none⟩ : Addr).add j = ⟨g,j,none⟩:=by simp [Addr.add];exact fun h => h.symm
    rw [e2,hc]
    exact hj
   ·cases hj)
  (fun j hj => by
   rw [List.length_replicate] at hj
   have hc:=(Kd.R_celln 0 h ((o + j : Nat) : Int) (by omega) (by omega)).1
   rw [Int.toNat_natCast] at hc
   rw [hc];rfl)
  (fun j hj => by
   rw [List.length_replicate] at hj
   have hc:=(Kd.R_celln 0 h ((o + j : Nat) : Int) (by omega) (by omega)).2
   rw [Int.toNat_natCast] at hc
   exact hc)
  (fun u hu => by rw [List.eq_of_mem_replicate hu];rfl)
 rw [List.length_replicate] at e
 exact e
theorem step_copy_run {P : Program} {ops : Array Oper} {o : Oper} {a : Act} {w : World} {K : Act → World → Prop} {Q : Exit → Act → World → Prop} {E : Prop}
  (hg : o.guard = none) (d x : Operand) (dT sT : TypeId) (hop : o.op = Op.call { callee:=Callee.builtin Builtin.copy,args:=#[d,x],argTypes:=#[dT,sT] })
  (v u : Value) (hd : a.eval d = v) (hx : a.eval x = u) {v' : Value} {w' : World} (hr : (Builtin.copy_ #[dT,sT] o.type #[v,u]).run P w = .ok v' w') (hK : K (a.put o.dst v') w') :
  if Region.wanted o (yielded ops a.tmps) = true then Oper.wp P o a w K Q else E:=by
 have hw : Region.wanted o (yielded ops a.tmps) = true:=by simp [Region.wanted,hg]
 rw [if_pos hw]
 unfold Oper.wp
 simp [execOp,hop,resolve,invoke,builtin,hd,hx,hr,Result.andThen]
 exact hK
/-- The first copy: of one number. -/
theorem first_copy {g cap n c0 : Nat} {base : Nat} {ok : Nat → Prop} {W : World} {xs : List Int} {v : Int} {ad : Addr} (h : Kd.R (Kd.int .i64) 3 W base ok (.slice (some ⟨g,0,none⟩) n cap) xs) (hn1 : 1 ≤ n) (hs : Kd.C (Kd.int .i64) W (some ad) 1 [v]) :
  ∀ ty,(Builtin.copy_ #[23,23] ty #[.slice (some ⟨g,0,none⟩) n cap,.slice (some ad) 1 c0]).run Try.prog W = .ok (.int .i64 1) (W.setCells g 0 [.int .i64 v]):=by
 intro ty
 obtain ⟨ad',e,hx⟩:=Kd.at_int hs (0 : Int) (by omega) (by omega)
 obtain rfl:=Option.some.inj e
 have hc:=Kd.R_celln 0 h (0 : Int) (by omega) (by omega)
 exact run_copy_cells (P:=Try.prog) W 23 23 ty 3 g 0 n cap ad 1 c0 [.int .i64 v] Try.underlying23 (by kernel_rfl) (by have : Nat.min 1 n = 1:=Nat.min_eq_left hn1;rw [this];rfl)
  (fun j u hj => by
   match j,hj with
   | 0,hj => exact hx.trans hj
   | j + 1,hj => simp at hj)
  (fun j hj => by
   obtain rfl : j = 0:=by simp at hj;exact hj
   rw [show (⟨g,0 + 0,none⟩ : Addr) = ⟨g,(0 : Int).toNat,none⟩ from rfl,hc.1];rfl)
  (fun j hj => by
   obtain rfl : j = 0:=by simp at hj;exact hj
   exact hc.2)
  (fun u hu => by rw [List.mem_singleton.1 hu];rfl)
def slices_Repeat_int_int.f (l0 : List Int) (a1 : Int) : Option (List Int) :=
 match l0 with
 | [v] => if 1 ≤ a1 ∧ a1 ≤ 20 then some (List.replicate a1.toNat v) else none
 | _ => none
set_option maxHeartbeats 4000000 in
set_option maxRecDepth 100000 in
theorem slices_Repeat_int_int.calls (A0 : Option Addr) (c0 : Nat) (l0 : List Int) (a1 : Int) (r : List Int) (w : World) (hr0 : Kd.C (Kd.int .i64) w A0 l0.length l0) (hc0 : l0.length ≤ c0) (h : slices_Repeat_int_int.f l0 a1 = some r) :
  Calls Try.prog 81 #[.slice A0 l0.length c0,.int .i64 a1] w fun e w' => ∃ v0_ : Value,e = .returned (v0_) ∧ Kd.R (Kd.int .i64) 3 w' w.heap.size (fun _ => True) v0_ r ∧ Below w.heap.size w w':=by
 unfold slices_Repeat_int_int.f at h
 match l0,h,hr0,hc0 with
 | [],h,_,_ => cases h
 | _ :: _ :: _,h,_,_ => cases h
 | [v],h,hr0,hc0 =>
  simp only [] at h
  by_cases hc : 1 ≤ a1 ∧ a1 ≤ 20
  ·rw [if_pos hc] at h
   obtain rfl:=Option.some.inj h
   clear h
   obtain ⟨N,hN⟩ : ∃ N : Nat,a1 = (N : Int):=⟨a1.toNat,by omega⟩
   subst hN
   rw [Int.toNat_natCast]
   obtain ⟨ad,e,hx⟩:=Kd.at_int hr0 (0 : Int) (by omega) (by simp)
   subst e
   have hN1 : 1 ≤ N:=by omega
   have hN20 : N ≤ 20:=by omega
   have hmul : bits_Mul.f 1 (N : Int) = some (0,(N : Int)):=by
    have : N = 1 ∨ N = 2 ∨ N = 3 ∨ N = 4 ∨ N = 5 ∨ N = 6 ∨ N = 7 ∨ N = 8 ∨ N = 9 ∨ N = 10 ∨ N = 11 ∨ N = 12 ∨ N = 13 ∨ N = 14 ∨ N = 15 ∨ N = 16 ∨ N = 17 ∨ N = 18 ∨ N = 19 ∨ N = 20:=by omega
    rcases this with rfl|rfl|rfl|rfl|rfl|rfl|rfl|rfl|rfl|rfl|rfl|rfl|rfl|rfl|rfl|rfl|rfl|rfl|rfl|rfl <;> decide
   have HM : Aside0 (∀ W,Calls Try.prog 92 #[.int .u64 1,.int .u64 (N : Int)] W fun e w' => e = .returned (.tuple #[.int .u64 0,.int .u64 (N : Int)]) ∧ Drawn0 W w'):=⟨fun W => bits_Mul.calls 1 (N : Int) 0 (N : Int) W hmul⟩
   have HX:=mk_ hx
   have HR:=mk_ hr0
   simp only [List.length_cons,List.length_nil,Nat.zero_add] at HR
   have hw1 : IntKind.u64.wrap 1 = 1:=rfl
   have hwN : IntKind.u64.wrap (N : Int) = (N : Int):=by
    have : IntKind.u64.wrap (N : Int) = (N : Int) % 18446744073709551616:=by simp [IntKind.wrap,IntKind.bits,IntKind.signed]
    rw [this];omega
   have hiN : IntKind.i64.wrap (N : Int) = (N : Int):=by rw [i64_w];exact (by unfold wrap64;omega)
   have p0 : ((N : Int) < 0) = False:=eq_false (by omega)
   have p1 : ((9223372036854775807 : Int) < (N : Int)) = False:=eq_false (by omega)
   clear hmul hr0 hx hc
   simp only [List.length_cons,List.length_nil,Nat.zero_add] at hc0 ⊢
   go_enter Try.func81,Try.ntmps81
   go_wp2_with (first|(go_at_call 92;refine (HM.out w).mono ?_;rintro e w1 ⟨rfl,hd1⟩;have HD:=mk_ hd1.below;clear hd1)|((with_reducible refine gate_dst (N:=30) rfl ?_);refine Kd.R_make (Kd.int .i64) (w0:=w) w.heap.size 3 rfl (N:=30) rfl 23 _ _ rfl (N : Int) rfl rfl Try.underlying23 (.int .i64 0) 8 (by kernel_rfl) rfl (by decide) (by omega) 0 (ok:=fun _ => True) (okp:=fun _ => True) rfl (fun _ hk => hk) trivial (by omega) (by rw [Int.toNat_natCast];omega) HD.out HD.out.size ?_;intro v1 w2 ho hb hg hnew;rw [Int.toNat_natCast] at ho;obtain ⟨go,co,ev,hgo,hgl,_⟩:=Kd.R_form ho (by simp;omega);rw [List.length_replicate] at ev;subst ev;have hcp:=first_copy (n:=N) (cap:=co) (c0:=c0) ho hN1 (cb_ HR.out hb);obtain ⟨ys,hy1,hy2⟩:=R_fills v 1 0 w2 (List.replicate N 0) ho (by omega) rfl;have HY:=mk_ hy1;have HT:=mk_ hy2;have HB:=mk_ (below_fills hgo [.int .i64 v] 0 w2 hb);clear ho hb hg hnew hgl hy1 hy2 HD HX)|(simp only [hcp]))
   clear hcp
   go_loopg [8] N (fun gg s8 wr => ∃ (m : Nat) (L : List Int),s8 = .int .i64 m ∧ 1 ≤ m ∧ m ≤ N ∧ N - m ≤ gg ∧ Aside0 (Kd.R (Kd.int .i64) 3 wr w.heap.size (fun _ => True) (.slice (some ⟨go,0,none⟩) N co) L) ∧ Aside0 (L.take m = List.replicate m v) ∧ Aside0 (Below w.heap.size w wr))
   case atStart => exact ⟨1,ys,by go_num,by omega,by omega,by omega,HY,HT,HB⟩
   case round =>
    clear HY HT HB
    obtain ⟨m,L,rfl,hm1,hmN,hgg,HO,HT,BW⟩:=hrel
    by_cases hlt : m < N
    ·have hcc:=(rr_ HO.out).2.1
     obtain ⟨q,hq,hq1,hq2⟩ : ∃ q : Nat,q = Nat.min m (N - m) ∧ q ≤ N - m ∧ 1 ≤ q:=⟨_,rfl,Nat.min_le_right _ _,Nat.le_min.2 ⟨hm1,by omega⟩⟩
     have hcp:=copy_fills (W:=wr.drew) v m q (co - m) co (rd_ HO.out) HT.out hq hmN
     obtain ⟨ys2,hy1,hy2⟩:=R_fills v q m wr.drew L (rd_ HO.out) (by omega) HT.out
     have HY2:=mk_ hy1
     have HT2:=mk_ hy2
     have HB2:=mk_ (below_fills hgo (List.replicate q (.int .i64 v)) m wr.drew (bd_ BW.out))
     have p2 : ((m : Int) < (N : Int)) = True:=eq_true (by omega)
     clear hy1 hy2 hq
     have hcm : (co = m) = False:=eq_false (by omega)
     have hmco : m ≤ co:=by omega
     have hmco2 : (m : Int) ≤ (co : Int):=by omega
     have hmq : IntKind.i64.wrap ((m : Int) + (q : Int)) = ((m + q : Nat) : Int):=by rw [i64_w];exact (by unfold wrap64;omega)
     go_wp2
     go_region_law (refine step_copy_run rfl (.tmp 41) (.tmp 44) 23 23 rfl (.slice (some ⟨go,m,none⟩) (N - m) (co - m)) (.slice (some ⟨go,0,none⟩) m co) (by simp [Act.eval,Act.put]) (by simp [Act.eval,Act.put]) (hcp _) ?_)
     all_goals
      try go_simp
      go_wp2
      go_roundg (N - (m + q))
      case measure => omega
      case rel => exact ⟨m + q,ys2,by go_num,by omega,by omega,by omega,HY2,HT2,HB2⟩
    ·obtain rfl : m = N:=by omega
     have hL:=(rr_ HO.out).1
     have p2 : ((m : Int) < (m : Int)) = False:=eq_false (by omega)
     have hLe : L = List.replicate m v:=by rw [← HT.out,List.take_of_length_le (by omega)]
     subst hLe
     clear HT hL
     go_wp2
     go_ret
     exact ⟨_,rfl,HO.out,BW.out⟩
  ·rw [if_neg hc] at h
   cases h

/-! ### impl_costsOf: function 62 -/
mutual
def impl_costsOf.l0 : Nat → Int → List (S51) → List Int → List Int → Int → Int → Option (List Int)
 | 0,_,_,_,_,_,_ => none
 | k + 1,x0,x1,x5,x15,x16,x17 => if x17 < x16 then (if 0 ≤ x17 then (if x17 < (x15.length : Int) then (if x17 = (rd x15 x17) then (if x17 < (x5.length : Int) then (impl_costsOf.l0 k x0 x1 (x5.set (x17 : Int).toNat 0) x15 x16 (wrap64 (x17 + 1))) else (none)) else (impl_costsOf.l0 k x0 x1 x5 x15 x16 (wrap64 (x17 + 1)))) else (none)) else (none)) else (impl_costsOf.l1 k x1 x5 x0 0)
def impl_costsOf.l1 : Nat → List (S51) → List Int → Int → Int → Option (List Int)
 | 0,_,_,_,_ => none
 | k + 1,x1,x5,x29,x30 => if x30 < x29 then (impl_costsOf.l2 k x1 x5 x29 x30 x1 (x1.length : Int) 0) else (some x5)
def impl_costsOf.l2 : Nat → List (S51) → List Int → Int → Int → List (S51) → Int → Int → Option (List Int)
 | 0,_,_,_,_,_,_,_ => none
 | k + 1,x1,x5,x29,x30,x32,x33,x34 => if x34 < x33 then (if 0 ≤ x34 then (if x34 < (x32.length : Int) then (if 0 ≤ ((rd_T51 x32 x34).f0) then (if ((rd_T51 x32 x34).f0) < (x5.length : Int) then (if 0 ≤ ((rd_T51 x32 x34).f1) then (if ((rd_T51 x32 x34).f1) < (x5.length : Int) then ((some (x5.set (((rd_T51 x32 x34).f0) : Int).toNat (mn (rd x5 ((rd_T51 x32 x34).f0)) (wrap64 ((rd x5 ((rd_T51 x32 x34).f1)) + ((rd_T51 x32 x34).f2)))) : List Int)).bind fun y290 => (impl_costsOf.l2 k x1 (y290.set (((rd_T51 x32 x34).f1) : Int).toNat (mn (rd y290 ((rd_T51 x32 x34).f1)) (wrap64 ((rd y290 ((rd_T51 x32 x34).f0)) + ((rd_T51 x32 x34).f2))))) x29 x30 x32 x33 (wrap64 (x34 + 1)))) else (none)) else (none)) else (none)) else (none)) else (none)) else (none)) else (impl_costsOf.l1 k x1 x5 x29 (wrap64 (x30 + 1)))
end
def impl_costsOf.f (k : Nat) (a0 : Int) (l1 : List (S51)) : Option (List Int):=(slices_Repeat_int_int.f (([1073741824] : List Int)) a0).bind fun t278 => ((impl_rootsOf.f a0 l1).bind fun t281 => (impl_costsOf.l0 k a0 l1 t278 t281 (t281.length : Int) 0))
theorem impl_costsOf.mono_l : ∀ k,(∀ y0 y1 y2 y3 y4 y5,LeO (impl_costsOf.l0 k y0 y1 y2 y3 y4 y5) (impl_costsOf.l0 (k + 1) y0 y1 y2 y3 y4 y5)) ∧ (∀ y0 y1 y2 y3,LeO (impl_costsOf.l1 k y0 y1 y2 y3) (impl_costsOf.l1 (k + 1) y0 y1 y2 y3)) ∧ (∀ y0 y1 y2 y3 y4 y5 y6,LeO (impl_costsOf.l2 k y0 y1 y2 y3 y4 y5 y6) (impl_costsOf.l2 (k + 1) y0 y1 y2 y3 y4 y5 y6))
 | 0 => ⟨fun _ _ _ _ _ _ r h => by simp [impl_costsOf.l0] at h,fun _ _ _ _ r h => by simp [impl_costsOf.l1] at h,fun _ _ _ _ _ _ _ r h => by simp [impl_costsOf.l2] at h⟩
 | k + 1 => by
  obtain ⟨ih0,ih1,ih2⟩:=impl_costsOf.mono_l k
  refine ⟨?_,?_,?_⟩
  ·intro y0 y1 y2 y3 y4 y5
   unfold impl_costsOf.l0
   repeat' first
   | (with_reducible exact ih0 _ _ _ _ _ _)
   | (with_reducible exact ih1 _ _ _ _)
   | (with_reducible exact ih2 _ _ _ _ _ _ _)
   | (with_reducible exact LeO.refl _)
   | (with_reducible exact LeO.none _)
   | (with_reducible refine LeO.ite ?_ ?_)
   | (with_reducible refine LeO.bind ?_ (fun _ => ?_))
   | exact ih0 _ _ _ _ _ _
   | exact ih1 _ _ _ _
   | exact ih2 _ _ _ _ _ _ _
   | exact LeO.none _
   | refine LeO.ite ?_ ?_
   | refine LeO.bind ?_ (fun _ => ?_)
  ·intro y0 y1 y2 y3
   unfold impl_costsOf.l1
   repeat' first
   | (with_reducible exact ih0 _ _ _ _ _ _)
   | (with_reducible exact ih1 _ _ _ _)
   | (with_reducible exact ih2 _ _ _ _ _ _ _)
   | (with_reducible exact LeO.refl _)
   | (with_reducible exact LeO.none _)
   | (with_reducible refine LeO.ite ?_ ?_)
   | (with_reducible refine LeO.bind ?_ (fun _ => ?_))
   | exact ih0 _ _ _ _ _ _
   | exact ih1 _ _ _ _
   | exact ih2 _ _ _ _ _ _ _
   | exact LeO.none _
   | refine LeO.ite ?_ ?_
   | refine LeO.bind ?_ (fun _ => ?_)
  ·intro y0 y1 y2 y3 y4 y5 y6
   unfold impl_costsOf.l2
   repeat' first
   | (with_reducible exact ih0 _ _ _ _ _ _)
   | (with_reducible exact ih1 _ _ _ _)
   | (with_reducible exact ih2 _ _ _ _ _ _ _)
   | (with_reducible exact LeO.refl _)
   | (with_reducible exact LeO.none _)
   | (with_reducible refine LeO.ite ?_ ?_)
   | (with_reducible refine LeO.bind ?_ (fun _ => ?_))
   | exact ih0 _ _ _ _ _ _
   | exact ih1 _ _ _ _
   | exact ih2 _ _ _ _ _ _ _
   | exact LeO.none _
   | refine LeO.ite ?_ ?_
   | refine LeO.bind ?_ (fun _ => ?_)
theorem impl_costsOf.mono : ∀ a0 a1 k,LeO (impl_costsOf.f k a0 a1) (impl_costsOf.f (k + 1) a0 a1):=by
 intro a0 a1 k
 obtain ⟨ih0,ih1,ih2⟩:=impl_costsOf.mono_l k
 unfold impl_costsOf.f
 repeat' first
   | (with_reducible exact ih0 _ _ _ _ _ _)
   | (with_reducible exact ih1 _ _ _ _)
   | (with_reducible exact ih2 _ _ _ _ _ _ _)
   | (with_reducible exact LeO.refl _)
   | (with_reducible exact LeO.none _)
   | (with_reducible refine LeO.ite ?_ ?_)
   | (with_reducible refine LeO.bind ?_ (fun _ => ?_))
   | exact ih0 _ _ _ _ _ _
   | exact ih1 _ _ _ _
   | exact ih2 _ _ _ _ _ _ _
   | exact LeO.none _
   | refine LeO.ite ?_ ?_
   | refine LeO.bind ?_ (fun _ => ?_)
def impl_costsOf.T13 : Bool × List (List Nat × List Nat):=(true,[([],[]),([],[]),([1],[1]),([],[]),([],[]),([4],[4]),([3,5],[3,5]),([6],[6]),([],[]),([],[]),([9],[9]),([8,10],[8,10]),([11],[11]),([],[]),([13],[13]),([12,14],[12,14]),([7,15],[7,15]),([0,2,0,1,2,3,4,5,6,7,8,9,10,11,12,13,14,15,16],[0,2]),([17,16,0,1,2,3,4,5,6,7,8,9,10,11,12,13,14,15,16],[16,17])])
def impl_costsOf.B13 : List Nat:=[0,0,2,0,0,16,56,120,0,0,512,1792,3840,0,8192,32512,65528,131071,262143]
theorem impl_costsOf.tab13 : rtab .any (opsOf Try.f62 13) = impl_costsOf.T13:=by kernel_rfl
theorem impl_costsOf.bits13 : waitsOk impl_costsOf.T13.2 impl_costsOf.B13 = true:=by kernel_rfl
def impl_costsOf.T14 : Bool × List (List Nat × List Nat):=(true,[([],[]),([],[]),([1],[1]),([],[]),([],[]),([4],[4]),([3,5],[3,5]),([6],[6]),([],[]),([],[]),([9],[9]),([8,10],[8,10]),([11],[11]),([],[]),([13],[13]),([12,14],[12,14]),([7,15],[7,15]),([0,2,0,1,2,3,4,5,6,7,8,9,10,11,12,13,14,15,16],[0,2]),([17,16,0,1,2,3,4,5,6,7,8,9,10,11,12,13,14,15,16],[16,17])])
def impl_costsOf.B14 : List Nat:=[0,0,2,0,0,16,56,120,0,0,512,1792,3840,0,8192,32512,65528,131071,262143]
theorem impl_costsOf.tab14 : rtab .any (opsOf Try.f62 14) = impl_costsOf.T14:=by kernel_rfl
theorem impl_costsOf.bits14 : waitsOk impl_costsOf.T14.2 impl_costsOf.B14 = true:=by kernel_rfl
set_option maxHeartbeats 8000000 in
set_option maxRecDepth 100000 in
theorem impl_costsOf.calls (k : Nat) (a0 : Int) (A1 : Option Addr) (c1 : Nat) (l1 : List (S51)) (r : List Int) (w : World) (hr1 : Kd.C k51 w A1 l1.length l1) (hc1 : l1.length ≤ c1) (h : impl_costsOf.f k a0 l1 = some r) :
  Calls Try.prog 62 #[.int .i64 a0,.slice A1 l1.length c1] w fun e w' => ∃ v0_ : Value,e = .returned (v0_) ∧ Kd.R (Kd.int .i64) 3 w' w.heap.size (fun _ => True) v0_ r ∧ Below w.heap.size w w':=by
 have hu51:=Try.underlying51
 have HR1:=mk_ hr1
 have HC1:=mk_ hc1
 clear hr1 hc1
 have HB:=mk_ (Below.refl w.heap.size w)
 have H : ((slices_Repeat_int_int.f (([1073741824] : List Int)) a0).bind fun t278 => ((impl_rootsOf.f a0 l1).bind fun t281 => (impl_costsOf.l0 k a0 l1 t278 t281 (t281.length : Int) 0))) = some r:=h
 clear h
 obtain ⟨y275,hy275⟩ : ∃ y_ : List Int,y_ = (([1073741824] : List Int)):=⟨_,rfl⟩
 replace H : ((slices_Repeat_int_int.f y275 a0).bind fun t278 => ((impl_rootsOf.f a0 l1).bind fun t281 => (impl_costsOf.l0 k a0 l1 t278 t281 (t281.length : Int) 0))) = some r:=by first|(rw [hy275];with_reducible exact H)|(have H2_:=(Option.bind_some _ _).symm.trans H;rw [hy275];with_reducible exact H2_)|(have H2_:=(Option.bind_some _ _).symm.trans H;with_reducible exact H2_)|with_reducible exact H|(rw [hy275];exact H)|exact H
 have Ny275:=mk_ hy275
 clear hy275
 replace H:=Option.bind_eq_some_iff.mp H
 obtain ⟨t278,A30,H⟩:=H
 replace H : ((impl_rootsOf.f a0 l1).bind fun t281 => (impl_costsOf.l0 k a0 l1 t278 t281 (t281.length : Int) 0)) = some r:=H
 have A3:=mk_ A30
 clear A30
 replace H:=Option.bind_eq_some_iff.mp H
 obtain ⟨t281,A40,H⟩:=H
 replace H : (impl_costsOf.l0 k a0 l1 t278 t281 (t281.length : Int) 0) = some r:=H
 have A4:=mk_ A40
 clear A40
 have H':=mk_ H
 clear H
 go_enter Try.func62,Try.ntmps62
 go_wp2_with (first|((with_reducible refine gate_dst (N:=10) rfl ?_);refine Kd.R_lit (Kd.int .i64) _ 3 ?hg (N:=10) ?hd (xs:=([1073741824] : List Int)) (inner:=[.int .i64 1073741824]) (ok:=fun _ => True) (okp:=fun _ => True) ?hr ?hp (fun _ hk => hk) trivial (Below.refl _ _) (Nat.le_refl _) (by simp) ?_;(case hd => rfl);(case hg => rfl);(case hr => first|(go_simp;done)|(go_simp;rfl));(case hp => exact (Reps.one (show Kd.M (Kd.int .i64) _ _ _ 1073741824 [.int .i64 1073741824] from rfl) (Reps.none _ _)));intro v276 w5 ho6 hb hg_ hnew_;clear hg_ hnew_;(first|rw [← Ny275.out] at ho6|(simp only [Int.reduceToNat] at ho6;rw [← Ny275.out] at ho6));have n0_:=mk_ (Kd.R_lower ho6 (bz_ (qb_ HB)));have n1_:=mk_ (st_ (qb_ HB) hb);clear HB;have HO277:=n0_;have HB:=n1_;clear n0_ n1_;clear hb ho6;obtain ⟨Ao7,co7,eo7⟩:=Kd.R_slice HO277.out;subst eo7)|((with_reducible refine gate_callee (f:=81) rfl ?_);refine goesL_ (some 12) rfl rfl Try.func81 (by kernel_rfl) rfl #[.slice Ao7 y275.length co7,.int .i64 a0] rfl qm_ ?_;(with_reducible refine (slices_Repeat_int_int.calls _ _ y275 a0 t278 _ ?side1 ?side2 A3.out).mono ?_);(case side1 => repeat (first|exact (rr_ HO277.out).2.2|(with_reducible refine ca_ ?_ _)|(with_reducible refine cn_ ?_ _)|(with_reducible refine cd_ ?_)));(case side2 => exact (rr_ HO277.out).2.1);rintro e w8 ⟨v279,rfl,ho0,hb⟩;refine ⟨_,rfl,?_⟩;have n0_:=mk_ (re_ (qr_ HO277) (Kd.R_base ho0) hb);have n1_:=mk_ (Kd.R_lower (Kd.R_new' ho0 (Kd.R_lt (qr_ HO277))) (bz_ (qb_ HB)));have n2_:=mk_ (st_ (qb_ HB) hb);clear HO277;clear HB;have HO277:=n0_;have HO280:=n1_;have HB:=n2_;clear n0_ n1_ n2_;(try clear hb);(try clear hb2);(try clear hk);(try clear hi);(try clear ho0))|((with_reducible refine gate_callee (f:=55) rfl ?_);refine goesL_ (some 15) rfl rfl Try.func55 (by kernel_rfl) rfl #[.int .i64 a0,.slice A1 l1.length c1] rfl qm_ ?_;(with_reducible refine (impl_rootsOf.calls a0 _ _ l1 t281 _ ?side1 ?side2 A4.out).mono ?_);(case side1 => repeat (first|exact (cb_ HR1.out HB.out)|(with_reducible refine ca_ ?_ _)|(with_reducible refine cn_ ?_ _)|(with_reducible refine cd_ ?_)));(case side2 => exact HC1.out);rintro e w9 ⟨v282,rfl,ho0,hb⟩;refine ⟨_,rfl,?_⟩;have n0_:=mk_ (re_ (qr_ HO277) (Kd.R_base ho0) hb);have n1_:=mk_ (re_ (qr_ HO280) (Kd.R_base ho0) hb);have n2_:=mk_ (Kd.R_lower (Kd.R_new' (Kd.R_new' ho0 (Kd.R_lt (qr_ HO277))) (Kd.R_lt (qr_ HO280))) (bz_ (qb_ HB)));have n3_:=mk_ (st_ (qb_ HB) hb);clear HO277;clear HO280;clear HB;have HO277:=n0_;have HO280:=n1_;have HO283:=n2_;have HB:=n3_;clear n0_ n1_ n2_ n3_;(try clear hb);(try clear hb2);(try clear hk);(try clear hi);(try clear ho0);obtain ⟨Ao10,co10,eo10⟩:=Kd.R_slice HO283.out;subst eo10))
 go_loopg [17] k (fun kq v17 w' => ∃ (x5_1 : List Int) (x17_1 : Int),v17 = .int .i64 x17_1 ∧ Aside0 (impl_costsOf.l0 kq a0 l1 x5_1 t281 (t281.length : Int) x17_1 = some r) ∧ Aside0 (kq ≤ k) ∧ Aside0 (Kd.R (Kd.int .i64) 3 w' w.heap.size (fun k_ => some k_ ≠ ((.slice Ao10 t281.length co10) : Value).ownBlock) v279 x5_1) ∧ Aside0 (Kd.R (Kd.int .i64) 3 w' w.heap.size (fun k_ => some k_ ≠ (v279 : Value).ownBlock) (.slice Ao10 t281.length co10) t281) ∧ Aside0 (Below w.heap.size w w'))
 case atStart => exact ⟨(t278),(0),(by first|rfl|(simp;done)|(simp [*];done)),H',⟨Nat.le_refl _⟩,⟨by (with_reducible repeat (first|apply ra_|apply rn_|apply rd_));exact rm_ HO280.out (fun _ hk => hk.2)⟩,⟨by (with_reducible repeat (first|apply ra_|apply rn_|apply rd_));exact rm_ HO283.out (fun _ hk => hk.2)⟩,⟨by repeat (first|(with_reducible first|exact HB.out|apply ba_|apply bn_|apply bd_)|exact HB.out)⟩⟩
 case round =>
  clear H'
  try clear c1
  try clear p2
  try clear c5
  try clear c6
  try clear c8
  obtain ⟨x5_1,x17_1,rfl,HA,HK1,HO_5,HO_15,HB⟩:=hrel
  cases gk with
  | zero => exact absurd HA.out (by simp [impl_costsOf.l0])
  | succ k1 =>
   have H:=HA.out
   clear HA
   simp only [impl_costsOf.l0] at H
   by_cases c11 : x17_1 < (t281.length : Int)
   ·rw [if_pos c11] at H
    have c11b0 : decide (x17_1 < (t281.length : Int)) = true:=decide_eq_true c11
    clear c11
    by_cases c12 : 0 ≤ x17_1
    ·rw [if_pos c12] at H
     have c12b0 : decide (0 ≤ x17_1) = true:=decide_eq_true c12
     clear c12
     by_cases c13 : x17_1 < (t281.length : Int)
     ·rw [if_pos c13] at H
      have c13b0 : decide (x17_1 < (t281.length : Int)) = true:=decide_eq_true c13
      clear c13
      by_cases c14 : x17_1 = (rd t281 x17_1)
      ·rw [if_pos c14] at H
       have c14b0 : (x17_1 == (rd t281 x17_1)) = true:=beq_iff_eq.mpr c14
       have c14b1 : (x17_1 != (rd t281 x17_1)) = false:=bne_eq_false_iff_eq.mpr c14
       clear c14
       by_cases c15 : x17_1 < (x5_1.length : Int)
       ·rw [if_pos c15] at H
        have c15b0 : decide (x17_1 < (x5_1.length : Int)) = true:=decide_eq_true c15
        clear c15
        obtain ⟨y285,hy285⟩ : ∃ y_ : List Int,y_ = (x5_1.set (x17_1 : Int).toNat 0):=⟨_,rfl⟩
        replace H : (impl_costsOf.l0 k1 a0 l1 y285 t281 (t281.length : Int) (wrap64 (x17_1 + 1))) = some r:=by first|(rw [hy285];with_reducible exact H)|(have H2_:=(Option.bind_some _ _).symm.trans H;rw [hy285];with_reducible exact H2_)|(have H2_:=(Option.bind_some _ _).symm.trans H;with_reducible exact H2_)|with_reducible exact H|(rw [hy285];exact H)|exact H
        have Ny285:=mk_ hy285
        clear hy285
        have H':=mk_ H
        clear H
        have p284 : 0 ≤ (x17_1 : Int):=od_ qa_
        have q284 : x17_1 < (t281.length : Int):=od_ qa_
        obtain ⟨ad284,e284,hx284_0⟩:=Kd.at_int (rr_ HO_15.out).2.2 x17_1 p284 q284
        cases e284
        replace p284:=eq_true p284
        replace q284:=eq_true q284
        have p16 : 0 ≤ (x17_1 : Int):=od_ qa_
        have q16 : (x17_1 : Int) < ((x5_1.length : Int) : Int):=od_ qa_
        obtain ⟨go16,co16,eo16,gb16,gl16,cl16,HG16⟩:=Kd.R_form HO_5.out (by omega)
        (first|cases eo16|(injection eo16 with ea_ en_ ec_;(first|subst ea_|(injection ea_ with ea_;subst ea_));subst ec_;clear en_))
        have GB16:=mk_ gb16
        have GG16:=mk_ HG16
        clear gb16 gl16 HG16
        obtain ⟨hx16_0,hf16_0⟩:=Kd.R_celln 0 HO_5.out (x17_1 : Int) p16 q16
        replace p16:=eq_true p16
        replace q16:=eq_true q16
        have HP17:=Kd.R_putg HO_5.out (x17_1 : Int) 0
        go_wp2_with (first|((with_reducible refine gate_store (t:=3) (p:=27) rfl ?_);refine store_event (t:=3) (p:=27) (v:=?vo_w18) (w1:=(wr.setCell ⟨go16,(x17_1 : Int).toNat,none⟩ (.int .i64 0))) ?hg ?ho ?hn ?hr ?_;(case ho => rfl);(case hg => rfl);(case hn => rfl);(case hr => first|(go_simp;done)|(go_simp;rfl));intro w18 hw;have hg : wr.grownBy w18 (some go16):=(by rw [hw];exact HP17.2);have hp_ : Kd.R (Kd.int .i64) 3 w18 w.heap.size (fun k_ => some k_ ≠ (.slice (some ad284) t281.length co10 : Value).ownBlock) (.slice (some ⟨go16,0,none⟩) x5_1.length co16) y285:=(by rw [hw,Ny285.out];exact HP17.1);clear HP17;have n0_:=mk_ (hp_);have n1_:=mk_ (Kd.R_after (v:=(.slice (some ⟨go16,0,none⟩) x5_1.length co16)) (v1:=(.slice (some ⟨go16,0,none⟩) x5_1.length co16)) (ok:=(fun _ => True)) (by (with_reducible repeat (first|apply ra_|apply rn_|apply rd_));exact rm_ HO_15.out (fun _ hk => ⟨trivial,hk⟩)) hg (.inl rfl));have n2_:=mk_ ((by rw [hw];exact bs_ (HB.out) GB16.out : Below w.heap.size w w18));clear HO_5;clear HO_15;clear HB;have HO_5:=n0_;have HO_15:=n1_;have HB:=n2_;clear n0_ n1_ n2_;clear hg hw hp_))
        go_roundg k1
        case measure => have:=HK1.out;omega
        case rel => exact ⟨(y285),(wrap64 (x17_1 + 1)),(by first|rfl|(simp;done)|(simp [*];done)),H',⟨by have:=HK1.out;omega⟩,⟨by (with_reducible repeat (first|apply ra_|apply rn_|apply rd_));exact HO_5.out⟩,⟨by (with_reducible repeat (first|apply ra_|apply rn_|apply rd_));exact rm_ HO_15.out (fun _ hk => hk.2)⟩,⟨by repeat (first|(with_reducible first|exact HB.out|apply ba_|apply bn_|apply bd_)|exact HB.out)⟩⟩
       ·rw [if_neg c15] at H
        exact absurd H (by simp)
      ·rw [if_neg c14] at H
       have c14b0 : (x17_1 == (rd t281 x17_1)) = false:=beq_eq_false_iff_ne.mpr c14
       have c14b1 : (x17_1 != (rd t281 x17_1)) = true:=bne_iff_ne.mpr c14
       have H':=mk_ H
       clear H
       have p284 : 0 ≤ (x17_1 : Int):=od_ qa_
       have q284 : x17_1 < (t281.length : Int):=od_ qa_
       obtain ⟨ad284,e284,hx284_0⟩:=Kd.at_int (rr_ HO_15.out).2.2 x17_1 p284 q284
       cases e284
       replace p284:=eq_true p284
       replace q284:=eq_true q284
       go_wp2
       go_roundg k1
       case measure => have:=HK1.out;omega
       case rel => exact ⟨(x5_1),(wrap64 (x17_1 + 1)),(by first|rfl|(simp;done)|(simp [*];done)),H',⟨by have:=HK1.out;omega⟩,⟨by (with_reducible repeat (first|apply ra_|apply rn_|apply rd_));exact HO_5.out⟩,⟨by (with_reducible repeat (first|apply ra_|apply rn_|apply rd_));exact HO_15.out⟩,⟨by repeat (first|(with_reducible first|exact HB.out|apply ba_|apply bn_|apply bd_)|exact HB.out)⟩⟩
     ·rw [if_neg c13] at H
      exact absurd H (by simp)
    ·rw [if_neg c12] at H
     exact absurd H (by simp)
   ·rw [if_neg c11] at H
    have c11b0 : decide (x17_1 < (t281.length : Int)) = false:=decide_eq_false c11
    clear c11
    have H':=mk_ H
    clear H
    go_wp2
    go_loopg [30] k1 (fun kq v30 w' => ∃ (x5_2 : List Int) (x30_2 : Int),v30 = .int .i64 x30_2 ∧ Aside0 (impl_costsOf.l1 kq l1 x5_2 a0 x30_2 = some r) ∧ Aside0 (kq ≤ k1) ∧ Aside0 (Kd.R (Kd.int .i64) 3 w' w.heap.size (fun _ => True) v279 x5_2) ∧ Aside0 (Below w.heap.size w w'))
    case atStart => exact ⟨(x5_1),(0),(by first|rfl|(simp;done)|(simp [*];done)),H',⟨Nat.le_refl _⟩,⟨by (with_reducible repeat (first|apply ra_|apply rn_|apply rd_));exact rm_ HO_5.out (fun _ hk => trivial)⟩,⟨by repeat (first|(with_reducible first|exact HB.out|apply ba_|apply bn_|apply bd_)|exact HB.out)⟩⟩
    case round =>
     clear H'
     try clear c1
     try clear p1
     try clear q1
     try clear hx1
     try clear p2
     try clear q2
     try clear hx2
     try clear c5
     try clear c6
     try clear p6
     try clear c8
     try clear c11
     try clear c11b0
     try clear c12
     try clear c12b0
     try clear c13
     try clear c13b0
     try clear c14
     try clear c14b0
     try clear c14b1
     try clear c15
     try clear c15b0
     try clear p16
     try clear q16
     try clear hx16
     try clear hf16
     try clear hx16_0
     try clear hx284_0
     try clear p16
     try clear p2
     try clear p284
     try clear q16
     try clear q284
     obtain ⟨x5_2,x30_2,rfl,HA,HK2,HO_5,HB⟩:=hrel
     cases gk with
     | zero => exact absurd HA.out (by simp [impl_costsOf.l1])
     | succ k2 =>
      have H:=HA.out
      clear HA
      simp only [impl_costsOf.l1] at H
      by_cases c19 : x30_2 < a0
      ·rw [if_pos c19] at H
       have c19b0 : decide (x30_2 < a0) = true:=decide_eq_true c19
       clear c19
       have H':=mk_ H
       clear H
       go_wp2
       go_loopg [34] k2 (fun kq v34 w' => ∃ (x5_3 : List Int) (x34_3 : Int),v34 = .int .i64 x34_3 ∧ Aside0 (impl_costsOf.l2 kq l1 x5_3 a0 x30_2 l1 (l1.length : Int) x34_3 = some r) ∧ Aside0 (kq ≤ k2) ∧ Aside0 (Kd.R (Kd.int .i64) 3 w' w.heap.size (fun _ => True) v279 x5_3) ∧ Aside0 (Below w.heap.size w w'))
       case atStart => exact ⟨(x5_2),(0),(by first|rfl|(simp;done)|(simp [*];done)),H',⟨Nat.le_refl _⟩,⟨by (with_reducible repeat (first|apply ra_|apply rn_|apply rd_));exact HO_5.out⟩,⟨by repeat (first|(with_reducible first|exact HB.out|apply ba_|apply bn_|apply bd_)|exact HB.out)⟩⟩
       case round =>
        clear H'
        try clear c1
        try clear p1
        try clear q1
        try clear hx1
        try clear p2
        try clear q2
        try clear hx2
        try clear c5
        try clear c6
        try clear p6
        try clear c8
        try clear c11
        try clear c11b0
        try clear c12
        try clear c12b0
        try clear c13
        try clear c13b0
        try clear c14
        try clear c14b0
        try clear c14b1
        try clear c15
        try clear c15b0
        try clear p16
        try clear q16
        try clear hx16
        try clear hf16
        try clear c19
        try clear c19b0
        try clear hx16_0
        try clear hx284_0
        try clear p1
        try clear p16
        try clear p2
        try clear p284
        try clear p6
        try clear q1
        try clear q16
        try clear q2
        try clear q284
        obtain ⟨x5_3,x34_3,rfl,HA,HK3,HO_5,HB⟩:=hrel
        cases gk with
        | zero => exact absurd HA.out (by simp [impl_costsOf.l2])
        | succ k3 =>
         have H:=HA.out
         clear HA
         simp only [impl_costsOf.l2] at H
         by_cases c20 : x34_3 < (l1.length : Int)
         ·rw [if_pos c20] at H
          have c20b0 : decide (x34_3 < (l1.length : Int)) = true:=decide_eq_true c20
          clear c20
          by_cases c21 : 0 ≤ x34_3
          ·rw [if_pos c21] at H
           have c21b0 : decide (0 ≤ x34_3) = true:=decide_eq_true c21
           clear c21
           by_cases c22 : x34_3 < (l1.length : Int)
           ·rw [if_pos c22] at H
            have c22b0 : decide (x34_3 < (l1.length : Int)) = true:=decide_eq_true c22
            clear c22
            by_cases c23 : 0 ≤ ((rd_T51 l1 x34_3).f0)
            ·rw [if_pos c23] at H
             have c23b0 : decide (0 ≤ ((rd_T51 l1 x34_3).f0)) = true:=decide_eq_true c23
             clear c23
             by_cases c24 : ((rd_T51 l1 x34_3).f0) < (x5_3.length : Int)
             ·rw [if_pos c24] at H
              have c24b0 : decide (((rd_T51 l1 x34_3).f0) < (x5_3.length : Int)) = true:=decide_eq_true c24
              clear c24
              by_cases c25 : 0 ≤ ((rd_T51 l1 x34_3).f1)
              ·rw [if_pos c25] at H
               have c25b0 : decide (0 ≤ ((rd_T51 l1 x34_3).f1)) = true:=decide_eq_true c25
               clear c25
               by_cases c26 : ((rd_T51 l1 x34_3).f1) < (x5_3.length : Int)
               ·rw [if_pos c26] at H
                have c26b0 : decide (((rd_T51 l1 x34_3).f1) < (x5_3.length : Int)) = true:=decide_eq_true c26
                clear c26
                obtain ⟨ji27,hji27⟩ : ∃ j_ : Int,(mn (rd x5_3 ((rd_T51 l1 x34_3).f0)) (wrap64 ((rd x5_3 ((rd_T51 l1 x34_3).f1)) + ((rd_T51 l1 x34_3).f2)))) = j_:=⟨_,rfl⟩
                replace H : ((some (x5_3.set (((rd_T51 l1 x34_3).f0) : Int).toNat (ji27) : List Int)).bind fun y290 => (impl_costsOf.l2 k3 l1 (y290.set (((rd_T51 l1 x34_3).f1) : Int).toNat (mn (rd y290 ((rd_T51 l1 x34_3).f1)) (wrap64 ((rd y290 ((rd_T51 l1 x34_3).f0)) + ((rd_T51 l1 x34_3).f2))))) a0 x30_2 l1 (l1.length : Int) (wrap64 (x34_3 + 1)))) = some r:=by first|(rw [hji27] at H;exact H)|(simp only [hji27] at H ⊢;exact H)
                have hji27_ : (if (wrap64 ((rd x5_3 ((rd_T51 l1 x34_3).f1)) + ((rd_T51 l1 x34_3).f2))) < (rd x5_3 ((rd_T51 l1 x34_3).f0)) then (wrap64 ((rd x5_3 ((rd_T51 l1 x34_3).f1)) + ((rd_T51 l1 x34_3).f2))) else (rd x5_3 ((rd_T51 l1 x34_3).f0))) = ji27:=hji27
                obtain ⟨y290,hy290⟩ : ∃ y_ : List Int,y_ = (x5_3.set (((rd_T51 l1 x34_3).f0) : Int).toNat (ji27)):=⟨_,rfl⟩
                replace H : (impl_costsOf.l2 k3 l1 (y290.set (((rd_T51 l1 x34_3).f1) : Int).toNat (mn (rd y290 ((rd_T51 l1 x34_3).f1)) (wrap64 ((rd y290 ((rd_T51 l1 x34_3).f0)) + ((rd_T51 l1 x34_3).f2))))) a0 x30_2 l1 (l1.length : Int) (wrap64 (x34_3 + 1))) = some r:=by first|(rw [hy290];with_reducible exact H)|(have H2_:=(Option.bind_some _ _).symm.trans H;rw [hy290];with_reducible exact H2_)|(have H2_:=(Option.bind_some _ _).symm.trans H;with_reducible exact H2_)|with_reducible exact H|(rw [hy290];exact H)|exact H
                have Ny290:=mk_ hy290
                clear hy290
                obtain ⟨ji29,hji29⟩ : ∃ j_ : Int,(mn (rd y290 ((rd_T51 l1 x34_3).f1)) (wrap64 ((rd y290 ((rd_T51 l1 x34_3).f0)) + ((rd_T51 l1 x34_3).f2)))) = j_:=⟨_,rfl⟩
                replace H : (impl_costsOf.l2 k3 l1 (y290.set (((rd_T51 l1 x34_3).f1) : Int).toNat (ji29)) a0 x30_2 l1 (l1.length : Int) (wrap64 (x34_3 + 1))) = some r:=by first|(rw [hji29] at H;exact H)|(simp only [hji29] at H ⊢;exact H)
                have hji29_ : (if (wrap64 ((rd y290 ((rd_T51 l1 x34_3).f0)) + ((rd_T51 l1 x34_3).f2))) < (rd y290 ((rd_T51 l1 x34_3).f1)) then (wrap64 ((rd y290 ((rd_T51 l1 x34_3).f0)) + ((rd_T51 l1 x34_3).f2))) else (rd y290 ((rd_T51 l1 x34_3).f1))) = ji29:=hji29
                obtain ⟨y293,hy293⟩ : ∃ y_ : List Int,y_ = (y290.set (((rd_T51 l1 x34_3).f1) : Int).toNat (ji29)):=⟨_,rfl⟩
                replace H : (impl_costsOf.l2 k3 l1 y293 a0 x30_2 l1 (l1.length : Int) (wrap64 (x34_3 + 1))) = some r:=by first|(rw [hy293];with_reducible exact H)|(have H2_:=(Option.bind_some _ _).symm.trans H;rw [hy293];with_reducible exact H2_)|(have H2_:=(Option.bind_some _ _).symm.trans H;with_reducible exact H2_)|with_reducible exact H|(rw [hy293];exact H)|exact H
                have Ny293:=mk_ hy293
                clear hy293
                have H':=mk_ H
                clear H
                have p286 : 0 ≤ (x34_3 : Int):=od_ qa_
                have q286 : x34_3 < (l1.length : Int):=od_ qa_
                obtain ⟨ad286,e286,hx286_0,hx286_1,hx286_2⟩:=at_T51 HR1.out x34_3 p286 q286
                cases e286
                replace hx286_0:=(HB.out.cell (wl_ w _ hx286_0)).trans hx286_0
                replace hx286_1:=(HB.out.cell (wl_ w _ hx286_1)).trans hx286_1
                replace hx286_2:=(HB.out.cell (wl_ w _ hx286_2)).trans hx286_2
                replace p286:=eq_true p286
                replace q286:=eq_true q286
                try go_wp2_with (first|((with_reducible refine gate_dst (N:=9) rfl ?_);refine box_event ?hg (N:=9) ?hd (cs:=#[.int .i64 0,.int .i64 0,.int .i64 0]) (t:=51) ?hr ?_;(case hd => rfl);(case hg => rfl);(case hr => first|(go_simp;done)|(go_simp;rfl));intro gb287 hg w31 hbox hb;have n0_:=mk_ (rb_ (qr_ HO_5) hb);have n1_:=mk_ (st_ (qb_ HB) hb);have n2_:=mk_ (hbox);have n3_:=mk_ ((by rw [hg];exact (bz_ (qb_ HB)) : w.heap.size ≤ gb287));have n4_:=mk_ ((by rw [hg];exact (bz_ (qb_ HB)) : w.heap.size ≤ gb287));clear HO_5;clear HB;have HO_5:=n0_;have HB:=n1_;have BK287:=n2_;have GW287:=n3_;have GE287:=n4_;clear n0_ n1_ n2_ n3_ n4_;clear hb hbox hg;have hcz32_0 : w31.cell? ⟨gb287,0,none⟩ = some (.int .i64 0):=(bc_ BK287.out 0).trans rfl;have hcz32_1 : w31.cell? ⟨gb287,1,none⟩ = some (.int .i64 0):=(bc_ BK287.out 1).trans rfl;have hcz32_2 : w31.cell? ⟨gb287,2,none⟩ = some (.int .i64 0):=(bc_ BK287.out 2).trans rfl;have hfz32_0:=bf_ BK287.out 0;have hfz32_1:=bf_ BK287.out 1;have hfz32_2:=bf_ BK287.out 2))
                have n0_ : Aside0 (Kd.R (Kd.int .i64) 3 (((w31.setCell ⟨gb287,0,none⟩ (.int .i64 ((rd_T51 l1 x34_3).f0))).setCell ⟨gb287,1,none⟩ (.int .i64 ((rd_T51 l1 x34_3).f1))).setCell ⟨gb287,2,none⟩ (.int .i64 ((rd_T51 l1 x34_3).f2))) w.heap.size (fun _ => True) v279 x5_3):=⟨by (with_reducible repeat (first|apply ra_|apply rn_|apply rd_));exact rm_ (rf_ (p:=⟨gb287,2,none⟩) (rf_ (p:=⟨gb287,1,none⟩) (rf_ (p:=⟨gb287,0,none⟩) (rt_ HO_5.out BK287.out (by decide)) (fun _ hk => hk.2) (.int .i64 ((rd_T51 l1 x34_3).f0))) (fun _ hk => hk.2) (.int .i64 ((rd_T51 l1 x34_3).f1))) (fun _ hk => hk.2) (.int .i64 ((rd_T51 l1 x34_3).f2))) (fun _ hk => trivial)⟩
                have n1_ : Aside0 ((((w31.setCell ⟨gb287,0,none⟩ (.int .i64 ((rd_T51 l1 x34_3).f0))).setCell ⟨gb287,1,none⟩ (.int .i64 ((rd_T51 l1 x34_3).f1))).setCell ⟨gb287,2,none⟩ (.int .i64 ((rd_T51 l1 x34_3).f2))).heap[gb287]? = some (.cells #[.int .i64 ((rd_T51 l1 x34_3).f0),.int .i64 ((rd_T51 l1 x34_3).f1),.int .i64 ((rd_T51 l1 x34_3).f2)] 51 (0,0))):=⟨by (with_reducible repeat (first|refine kn_ ?_ _|refine kd_ ?_|refine ka_ ?_ _));refine blk_put (cs:=#[.int .i64 ((rd_T51 l1 x34_3).f0),.int .i64 ((rd_T51 l1 x34_3).f1),.int .i64 0]) ?_ 2 _ rfl;(with_reducible repeat (first|refine kn_ ?_ _|refine kd_ ?_|refine ka_ ?_ _));refine blk_put (cs:=#[.int .i64 ((rd_T51 l1 x34_3).f0),.int .i64 0,.int .i64 0]) ?_ 1 _ rfl;(with_reducible repeat (first|refine kn_ ?_ _|refine kd_ ?_|refine ka_ ?_ _));refine blk_put (cs:=#[.int .i64 0,.int .i64 0,.int .i64 0]) ?_ 0 _ rfl;(with_reducible repeat (first|refine kn_ ?_ _|refine kd_ ?_|refine ka_ ?_ _));exact BK287.out⟩
                have n2_ : Aside0 (Below w.heap.size w (((w31.setCell ⟨gb287,0,none⟩ (.int .i64 ((rd_T51 l1 x34_3).f0))).setCell ⟨gb287,1,none⟩ (.int .i64 ((rd_T51 l1 x34_3).f1))).setCell ⟨gb287,2,none⟩ (.int .i64 ((rd_T51 l1 x34_3).f2)))):=⟨by repeat (first|(with_reducible first|exact HB.out|apply ba_|apply bn_|apply bd_|refine bs_ ?_ GE287.out)|exact HB.out)⟩
                (try clear HO_5)
                (try clear BK287)
                (try clear HB)
                generalize (((w31.setCell ⟨gb287,0,none⟩ (.int .i64 ((rd_T51 l1 x34_3).f0))).setCell ⟨gb287,1,none⟩ (.int .i64 ((rd_T51 l1 x34_3).f1))).setCell ⟨gb287,2,none⟩ (.int .i64 ((rd_T51 l1 x34_3).f2))) = w33 at n0_ n1_ n2_ ⊢
                have HO_5:=n0_
                have BK287:=n1_
                have HB:=n2_
                clear n0_ n1_ n2_
                have n0_:=mk_ (rd_ HO_5.out)
                have n1_:=mk_ (kd_ BK287.out)
                have n2_:=mk_ (bd_ HB.out)
                clear HO_5
                clear BK287
                clear HB
                have HO_5:=n0_
                have BK287:=n1_
                have HB:=n2_
                clear n0_ n1_ n2_
                obtain ⟨Ao35,co35,eo35⟩:=Kd.R_slice HO_5.out
                (first|subst eo35|(injection eo35 with f1_ f2_ f3_;have f4_:=f1_.symm;have f5_:=f3_.symm;clear f1_ f2_ f3_;subst f4_;subst f5_))
                have p288 : 0 ≤ (((rd_T51 l1 x34_3).f0) : Int):=od_ qa_
                have q288 : ((rd_T51 l1 x34_3).f0) < (x5_3.length : Int):=od_ qa_
                obtain ⟨ad288,e288,hx288_0⟩:=Kd.at_int (rr_ HO_5.out).2.2 ((rd_T51 l1 x34_3).f0) p288 q288
                cases e288
                replace p288:=eq_true p288
                replace q288:=eq_true q288
                have p289 : 0 ≤ (((rd_T51 l1 x34_3).f1) : Int):=od_ qa_
                have q289 : ((rd_T51 l1 x34_3).f1) < (x5_3.length : Int):=od_ qa_
                obtain ⟨ad289,e289,hx289_0⟩:=Kd.at_int (rr_ HO_5.out).2.2 ((rd_T51 l1 x34_3).f1) p289 q289
                obtain rfl : ad288 = ad289:=(by injection e289)
                replace p289:=eq_true p289
                replace q289:=eq_true q289
                have p28 : 0 ≤ (((rd_T51 l1 x34_3).f0) : Int):=od_ qa_
                have q28 : (((rd_T51 l1 x34_3).f0) : Int) < ((x5_3.length : Int) : Int):=od_ qa_
                obtain ⟨go28,co28,eo28,gb28,gl28,cl28,HG28⟩:=Kd.R_form HO_5.out (by omega)
                (first|cases eo28|(injection eo28 with ea_ en_ ec_;(first|subst ea_|(injection ea_ with ea_;subst ea_));subst ec_;clear en_))
                have GB28:=mk_ gb28
                have GG28:=mk_ HG28
                clear gb28 gl28 HG28
                (first|simp only [add_plain] at hx288_0|skip)
                (first|simp only [add_plain] at hx289_0|skip)
                obtain ⟨hx28_0,hf28_0⟩:=Kd.R_celln 0 HO_5.out (((rd_T51 l1 x34_3).f0) : Int) p28 q28
                replace p28:=eq_true p28
                replace q28:=eq_true q28
                have HP36:=Kd.R_putn HO_5.out (((rd_T51 l1 x34_3).f0) : Int) ji27
                rw [← Ny290.out] at HP36
                have HQ36:=mk_ HP36
                clear HP36
                refine start_ (n:=19) (S:=fun w' => w'.cell? ⟨gb287,0,none⟩ = some (.int .i64 ((rd_T51 l1 x34_3).f0)) ∧ w'.cell? ⟨gb287,1,none⟩ = some (.int .i64 ((rd_T51 l1 x34_3).f1)) ∧ w'.cell? ⟨gb287,2,none⟩ = some (.int .i64 ((rd_T51 l1 x34_3).f2)) ∧ w'.cell? ⟨go28,(((rd_T51 l1 x34_3).f0)).toNat,none⟩ = some (.int .i64 (rd x5_3 ((rd_T51 l1 x34_3).f0))) ∧ w'.cell? ⟨go28,(((rd_T51 l1 x34_3).f1)).toNat,none⟩ = some (.int .i64 (rd x5_3 ((rd_T51 l1 x34_3).f1)))) (ds:=[18]) #[false,false,false,false,false,false,false,false,false,false,false,false,false,false,false,false,false,false,false] (by kernel_rfl) rfl rfl ⟨(bc_ BK287.out 0).trans rfl,(bc_ BK287.out 1).trans rfl,(bc_ BK287.out 2).trans rfl,hx288_0,hx289_0⟩ (fun hHeld => ?_);refine with_tabW impl_costsOf.tab13 impl_costsOf.bits13 (fun HT_ HW_ => ?_)
                generalize w33.drew = w34 at HO_5 BK287 HB GG28 HQ36 hf28_0 hx288_0 hx289_0 hx28_0 hHeld ⊢
                refine pure_ (i:=0) (N:=some 38) (v:=?_) (a':=?_) #[true,false,false,false,false,false,false,false,false,false,false,false,false,false,false,false,false,false,false] rfl rfl (any_of HT_.out (by kernel_rfl)) (fun _ _ _ h => h) (Or.inl ⟨by rfl,?_⟩) ?_ ?_
                rotate_left
                ·intro w'
                 go_simp
                 with_reducible rfl
                rotate_left
                ·simp only [Act.put,sx_,sy_,sz_,i64_w,i32_w]
                 rfl
                refine pure_ (i:=1) (N:=some 39) (v:=?_) (a':=?_) #[true,true,false,false,false,false,false,false,false,false,false,false,false,false,false,false,false,false,false] rfl rfl (any_of HT_.out (by kernel_rfl)) (fun _ _ _ h => h) (Or.inl ⟨by rfl,?_⟩) ?_ ?_
                rotate_left
                ·intro w'
                 go_simp
                 with_reducible rfl
                rotate_left
                ·simp only [Act.put,sx_,sy_,sz_,i64_w,i32_w]
                 rfl
                refine pure_ (i:=3) (N:=some 41) (v:=?_) (a':=?_) #[true,true,false,true,false,false,false,false,false,false,false,false,false,false,false,false,false,false,false] rfl rfl (any_of HT_.out (by kernel_rfl)) (fun _ _ _ h => h) (Or.inl ⟨by rfl,?_⟩) ?_ ?_
                rotate_left
                ·intro w'
                 go_simp
                 with_reducible rfl
                rotate_left
                ·simp only [Act.put,sx_,sy_,sz_,i64_w,i32_w]
                 rfl
                refine pure_ (i:=4) (N:=some 42) (v:=?_) (a':=?_) #[true,true,false,true,true,false,false,false,false,false,false,false,false,false,false,false,false,false,false] rfl rfl (any_of HT_.out (by kernel_rfl)) (fun _ _ _ h => h) (Or.inl ⟨by rfl,?_⟩) ?_ ?_
                rotate_left
                ·intro w'
                 go_simp
                 with_reducible rfl
                rotate_left
                ·simp only [Act.put,sx_,sy_,sz_,i64_w,i32_w]
                 rfl
                refine pure_ (i:=8) (N:=some 46) (v:=?_) (a':=?_) #[true,true,false,true,true,false,false,false,true,false,false,false,false,false,false,false,false,false,false] rfl rfl (any_of HT_.out (by kernel_rfl)) (fun _ _ _ h => h) (Or.inl ⟨by rfl,?_⟩) ?_ ?_
                rotate_left
                ·intro w'
                 go_simp
                 with_reducible rfl
                rotate_left
                ·simp only [Act.put,sx_,sy_,sz_,i64_w,i32_w]
                 rfl
                refine pure_ (i:=9) (N:=some 47) (v:=?_) (a':=?_) #[true,true,false,true,true,false,false,false,true,true,false,false,false,false,false,false,false,false,false] rfl rfl (any_of HT_.out (by kernel_rfl)) (fun _ _ _ h => h) (Or.inl ⟨by rfl,?_⟩) ?_ ?_
                rotate_left
                ·intro w'
                 go_simp
                 with_reducible rfl
                rotate_left
                ·simp only [Act.put,sx_,sy_,sz_,i64_w,i32_w]
                 rfl
                refine pure_ (i:=13) (N:=some 51) (v:=?_) (a':=?_) #[true,true,false,true,true,false,false,false,true,true,false,false,false,true,false,false,false,false,false] rfl rfl (any_of HT_.out (by kernel_rfl)) (fun _ _ _ h => h) (Or.inl ⟨by rfl,?_⟩) ?_ ?_
                rotate_left
                ·intro w'
                 go_simp
                 with_reducible rfl
                rotate_left
                ·simp only [Act.put,sx_,sy_,sz_,i64_w,i32_w]
                 rfl
                refine take_ (i:=2) (N:=some 40) (v:=?_) (a':=?_) #[true,true,true,true,true,false,false,false,true,true,false,false,false,true,false,false,false,false,false] rfl rfl (take_ofW HT_.out HW_.out (by kernel_rfl)) (fun _ _ _ h => h) (Or.inl ⟨by rfl,?_⟩) hHeld ?_ ?_
                rotate_left
                ·rintro w' ⟨s0,s1,s2,s3,s4⟩
                 go_simp
                 with_reducible rfl
                rotate_left
                ·simp only [Act.put,sx_,sy_,sz_,i64_w,i32_w]
                 rfl
                refine take_ (i:=5) (N:=some 43) (v:=?_) (a':=?_) #[true,true,true,true,true,true,false,false,true,true,false,false,false,true,false,false,false,false,false] rfl rfl (take_ofW HT_.out HW_.out (by kernel_rfl)) (fun _ _ _ h => h) (Or.inl ⟨by rfl,?_⟩) hHeld ?_ ?_
                rotate_left
                ·rintro w' ⟨s0,s1,s2,s3,s4⟩
                 go_simp
                 with_reducible rfl
                rotate_left
                ·simp only [Act.put,sx_,sy_,sz_,i64_w,i32_w]
                 rfl
                refine pure_ (i:=6) (N:=some 44) (v:=?_) (a':=?_) #[true,true,true,true,true,true,true,false,true,true,false,false,false,true,false,false,false,false,false] rfl rfl (any_of HT_.out (by kernel_rfl)) (fun _ _ _ h => h) (Or.inl ⟨by rfl,?_⟩) ?_ ?_
                rotate_left
                ·intro w'
                 go_simp
                 with_reducible rfl
                rotate_left
                ·simp only [Act.put,sx_,sy_,sz_,i64_w,i32_w]
                 rfl
                refine take_ (i:=7) (N:=some 45) (v:=?_) (a':=?_) #[true,true,true,true,true,true,true,true,true,true,false,false,false,true,false,false,false,false,false] rfl rfl (take_ofW HT_.out HW_.out (by kernel_rfl)) (fun _ _ _ h => h) (Or.inl ⟨by rfl,?_⟩) hHeld ?_ ?_
                rotate_left
                ·rintro w' ⟨s0,s1,s2,s3,s4⟩
                 go_simp
                 with_reducible rfl
                rotate_left
                ·simp only [Act.put,sx_,sy_,sz_,i64_w,i32_w]
                 rfl
                refine take_ (i:=10) (N:=some 48) (v:=?_) (a':=?_) #[true,true,true,true,true,true,true,true,true,true,true,false,false,true,false,false,false,false,false] rfl rfl (take_ofW HT_.out HW_.out (by kernel_rfl)) (fun _ _ _ h => h) (Or.inl ⟨by rfl,?_⟩) hHeld ?_ ?_
                rotate_left
                ·rintro w' ⟨s0,s1,s2,s3,s4⟩
                 go_simp
                 with_reducible rfl
                rotate_left
                ·simp only [Act.put,sx_,sy_,sz_,i64_w,i32_w]
                 rfl
                refine pure_ (i:=11) (N:=some 49) (v:=?_) (a':=?_) #[true,true,true,true,true,true,true,true,true,true,true,true,false,true,false,false,false,false,false] rfl rfl (any_of HT_.out (by kernel_rfl)) (fun _ _ _ h => h) (Or.inl ⟨by rfl,?_⟩) ?_ ?_
                rotate_left
                ·intro w'
                 go_simp
                 with_reducible rfl
                rotate_left
                ·simp only [Act.put,sx_,sy_,sz_,i64_w,i32_w]
                 rfl
                refine take_ (i:=12) (N:=some 50) (v:=?_) (a':=?_) #[true,true,true,true,true,true,true,true,true,true,true,true,true,true,false,false,false,false,false] rfl rfl (take_ofW HT_.out HW_.out (by kernel_rfl)) (fun _ _ _ h => h) (Or.inl ⟨by rfl,?_⟩) hHeld ?_ ?_
                rotate_left
                ·rintro w' ⟨s0,s1,s2,s3,s4⟩
                 go_simp
                 with_reducible rfl
                rotate_left
                ·simp only [Act.put,sx_,sy_,sz_,i64_w,i32_w]
                 rfl
                refine take_ (i:=14) (N:=some 52) (v:=?_) (a':=?_) #[true,true,true,true,true,true,true,true,true,true,true,true,true,true,true,false,false,false,false] rfl rfl (take_ofW HT_.out HW_.out (by kernel_rfl)) (fun _ _ _ h => h) (Or.inl ⟨by rfl,?_⟩) hHeld ?_ ?_
                rotate_left
                ·rintro w' ⟨s0,s1,s2,s3,s4⟩
                 go_simp
                 with_reducible rfl
                rotate_left
                ·simp only [Act.put,sx_,sy_,sz_,i64_w,i32_w]
                 rfl
                refine pure_ (i:=15) (N:=some 53) (v:=?_) (a':=?_) #[true,true,true,true,true,true,true,true,true,true,true,true,true,true,true,true,false,false,false] rfl rfl (any_of HT_.out (by kernel_rfl)) (fun _ _ _ h => h) (Or.inl ⟨by rfl,?_⟩) ?_ ?_
                rotate_left
                ·intro w'
                 go_simp
                 with_reducible rfl
                rotate_left
                ·simp only [Act.put,sx_,sy_,sz_,i64_w,i32_w]
                 rfl
                refine pure_ (i:=16) (N:=some 54) (v:=?_) (a':=?_) #[true,true,true,true,true,true,true,true,true,true,true,true,true,true,true,true,true,false,false] rfl rfl (any_of HT_.out (by kernel_rfl)) (fun _ _ _ h => h) (Or.inl ⟨by rfl,?_⟩) ?_ ?_
                rotate_left
                ·intro w'
                 go_simp
                 with_reducible rfl
                rotate_left
                ·simp only [Act.put,sx_,sy_,sz_,i64_w,i32_w]
                 rfl
                refine pure_ (i:=17) (N:=some 55) (v:=?_) (a':=?_) #[true,true,true,true,true,true,true,true,true,true,true,true,true,true,true,true,true,true,false] rfl rfl (any_of HT_.out (by kernel_rfl)) (fun _ _ _ h => h) (Or.inl ⟨by rfl,?_⟩) ?_ ?_
                rotate_left
                ·intro w'
                 go_simp
                 with_reducible rfl
                rotate_left
                ·simp only [Act.put,sx_,sy_,sz_,i64_w,i32_w]
                 rfl
                refine last_ (i:=18) (N:=none) #[true,true,true,true,true,true,true,true,true,true,true,true,true,true,true,true,true,true,true] rfl rfl (one_of HT_.out (by kernel_rfl)) (by decide) (fun K hK => ?_)
                refine skip_ (w1:=?_) (by rfl) rfl ?_ ?_
                rotate_left
                ·go_simp
                 rfl
                refine hK.out _ _ ?_
                clear hK K
                refine done_ (done_of HT_.out (by kernel_rfl)) ?_
                try go_wp2
                have n0_ : Aside0 (Kd.R (Kd.int .i64) 3 (w34.setCell ⟨go28,(((rd_T51 l1 x34_3).f0) : Int).toNat,none⟩ (.int .i64 ji27)) w.heap.size (fun _ => True) (.slice (some ⟨go28,0,none⟩) x5_3.length co35) y290):=⟨by (with_reducible repeat (first|apply ra_|apply rn_|apply rd_));exact HQ36.out⟩
                have n1_ : Aside0 ((w34.setCell ⟨go28,(((rd_T51 l1 x34_3).f0) : Int).toNat,none⟩ (.int .i64 ji27)).heap[gb287]? = some (.cells #[.int .i64 ((rd_T51 l1 x34_3).f0),.int .i64 ((rd_T51 l1 x34_3).f1),.int .i64 ((rd_T51 l1 x34_3).f2)] 51 (0,0))):=⟨by (with_reducible repeat (first|refine kn_ ?_ _|refine kd_ ?_|refine ka_ ?_ _));refine blk_far ?_ (by have h_:=Kd.R_ne HO_5.out BK287.out (by decide);intro e_;exact h_ (by rw [e_];rfl)) _;(with_reducible repeat (first|refine kn_ ?_ _|refine kd_ ?_|refine ka_ ?_ _));exact BK287.out⟩
                have n2_ : Aside0 (Below w.heap.size w (w34.setCell ⟨go28,(((rd_T51 l1 x34_3).f0) : Int).toNat,none⟩ (.int .i64 ji27))):=⟨by repeat (first|(with_reducible first|exact HB.out|apply ba_|apply bn_|apply bd_|refine bs_ ?_ GB28.out|refine bs_ ?_ GE287.out)|exact HB.out)⟩
                (try clear HO_5)
                (try clear BK287)
                (try clear HB)
                generalize (w34.setCell ⟨go28,(((rd_T51 l1 x34_3).f0) : Int).toNat,none⟩ (.int .i64 ji27)) = w37 at n0_ n1_ n2_ ⊢
                have HO_5:=n0_
                have BK287:=n1_
                have HB:=n2_
                clear n0_ n1_ n2_
                have n0_:=mk_ (rd_ HO_5.out)
                have n1_:=mk_ (kd_ BK287.out)
                have n2_:=mk_ (bd_ HB.out)
                clear HO_5
                clear BK287
                clear HB
                have HO_5:=n0_
                have BK287:=n1_
                have HB:=n2_
                clear n0_ n1_ n2_
                have p291 : 0 ≤ (((rd_T51 l1 x34_3).f1) : Int):=od_ qa_
                have q291 : ((rd_T51 l1 x34_3).f1) < (y290.length : Int):=(by have h_ : (((rd_T51 l1 x34_3).f1) : Int) < ((x5_3.length : Int) : Int):=od_ qa_;first|(have e_:=(rr_ HO_5.out).1;omega)|simpa only [Ny290.out,List.length_set] using h_)
                have ql291 : ((((rd_T51 l1 x34_3).f1) : Int) < ((x5_3.length : Int) : Int)) = True:=eq_true (od_ qa_)
                obtain ⟨ad291,e291,hx291_0⟩:=Kd.at_int (rr_ HO_5.out).2.2 ((rd_T51 l1 x34_3).f1) p291 q291
                obtain rfl : (⟨go28,0,none⟩ : Addr) = ad291:=(by injection e291)
                (first|simp only [add_plain] at hx291_0|simp only [add_at] at hx291_0|simp only [Addr.add,Nat.zero_add] at hx291_0|skip)
                replace p291:=eq_true p291
                replace q291:=eq_true q291
                have p292 : 0 ≤ (((rd_T51 l1 x34_3).f0) : Int):=od_ qa_
                have q292 : ((rd_T51 l1 x34_3).f0) < (y290.length : Int):=(by have h_ : (((rd_T51 l1 x34_3).f0) : Int) < ((x5_3.length : Int) : Int):=od_ qa_;first|(have e_:=(rr_ HO_5.out).1;omega)|simpa only [Ny290.out,List.length_set] using h_)
                have ql292 : ((((rd_T51 l1 x34_3).f0) : Int) < ((x5_3.length : Int) : Int)) = True:=eq_true (od_ qa_)
                obtain ⟨ad292,e292,hx292_0⟩:=Kd.at_int (rr_ HO_5.out).2.2 ((rd_T51 l1 x34_3).f0) p292 q292
                obtain rfl : (⟨go28,0,none⟩ : Addr) = ad292:=(by injection e292)
                (first|simp only [add_plain] at hx292_0|simp only [add_at] at hx292_0|simp only [Addr.add,Nat.zero_add] at hx292_0|skip)
                replace p292:=eq_true p292
                replace q292:=eq_true q292
                have p30 : 0 ≤ (((rd_T51 l1 x34_3).f1) : Int):=od_ qa_
                have q30 : (((rd_T51 l1 x34_3).f1) : Int) < ((x5_3.length : Int) : Int):=od_ qa_
                obtain ⟨hx30_0,hf30_0⟩:=Kd.R_celln 0 HO_5.out (((rd_T51 l1 x34_3).f1) : Int) p30 q30
                replace p30:=eq_true p30
                replace q30:=eq_true q30
                have HP39:=Kd.R_putn HO_5.out (((rd_T51 l1 x34_3).f1) : Int) ji29
                rw [← Ny293.out] at HP39
                have HQ39:=mk_ HP39
                clear HP39
                refine start_ (n:=19) (S:=fun w' => w'.cell? ⟨gb287,0,none⟩ = some (.int .i64 ((rd_T51 l1 x34_3).f0)) ∧ w'.cell? ⟨gb287,1,none⟩ = some (.int .i64 ((rd_T51 l1 x34_3).f1)) ∧ w'.cell? ⟨gb287,2,none⟩ = some (.int .i64 ((rd_T51 l1 x34_3).f2)) ∧ w'.cell? ⟨go28,(((rd_T51 l1 x34_3).f1)).toNat,none⟩ = some (.int .i64 (rd y290 ((rd_T51 l1 x34_3).f1))) ∧ w'.cell? ⟨go28,(((rd_T51 l1 x34_3).f0)).toNat,none⟩ = some (.int .i64 (rd y290 ((rd_T51 l1 x34_3).f0)))) (ds:=[18]) #[false,false,false,false,false,false,false,false,false,false,false,false,false,false,false,false,false,false,false] (by kernel_rfl) rfl rfl ⟨(bc_ BK287.out 0).trans rfl,(bc_ BK287.out 1).trans rfl,(bc_ BK287.out 2).trans rfl,hx291_0,hx292_0⟩ (fun hHeld => ?_);refine with_tabW impl_costsOf.tab14 impl_costsOf.bits14 (fun HT_ HW_ => ?_)
                generalize w37.drew = w38 at HO_5 BK287 HB HQ36 HQ39 hf30_0 hx291_0 hx292_0 hx30_0 hHeld ⊢
                refine pure_ (i:=0) (N:=some 56) (v:=?_) (a':=?_) #[true,false,false,false,false,false,false,false,false,false,false,false,false,false,false,false,false,false,false] rfl rfl (any_of HT_.out (by kernel_rfl)) (fun _ _ _ h => h) (Or.inl ⟨by rfl,?_⟩) ?_ ?_
                rotate_left
                ·intro w'
                 go_simp
                 with_reducible rfl
                rotate_left
                ·simp only [Act.put,sx_,sy_,sz_,i64_w,i32_w]
                 rfl
                refine pure_ (i:=1) (N:=some 57) (v:=?_) (a':=?_) #[true,true,false,false,false,false,false,false,false,false,false,false,false,false,false,false,false,false,false] rfl rfl (any_of HT_.out (by kernel_rfl)) (fun _ _ _ h => h) (Or.inl ⟨by rfl,?_⟩) ?_ ?_
                rotate_left
                ·intro w'
                 go_simp
                 with_reducible rfl
                rotate_left
                ·simp only [Act.put,sx_,sy_,sz_,i64_w,i32_w]
                 rfl
                refine pure_ (i:=3) (N:=some 59) (v:=?_) (a':=?_) #[true,true,false,true,false,false,false,false,false,false,false,false,false,false,false,false,false,false,false] rfl rfl (any_of HT_.out (by kernel_rfl)) (fun _ _ _ h => h) (Or.inl ⟨by rfl,?_⟩) ?_ ?_
                rotate_left
                ·intro w'
                 go_simp
                 with_reducible rfl
                rotate_left
                ·simp only [Act.put,sx_,sy_,sz_,i64_w,i32_w]
                 rfl
                refine pure_ (i:=4) (N:=some 60) (v:=?_) (a':=?_) #[true,true,false,true,true,false,false,false,false,false,false,false,false,false,false,false,false,false,false] rfl rfl (any_of HT_.out (by kernel_rfl)) (fun _ _ _ h => h) (Or.inl ⟨by rfl,?_⟩) ?_ ?_
                rotate_left
                ·intro w'
                 go_simp
                 with_reducible rfl
                rotate_left
                ·simp only [Act.put,sx_,sy_,sz_,i64_w,i32_w]
                 rfl
                refine pure_ (i:=8) (N:=some 64) (v:=?_) (a':=?_) #[true,true,false,true,true,false,false,false,true,false,false,false,false,false,false,false,false,false,false] rfl rfl (any_of HT_.out (by kernel_rfl)) (fun _ _ _ h => h) (Or.inl ⟨by rfl,?_⟩) ?_ ?_
                rotate_left
                ·intro w'
                 go_simp
                 with_reducible rfl
                rotate_left
                ·simp only [Act.put,sx_,sy_,sz_,i64_w,i32_w]
                 rfl
                refine pure_ (i:=9) (N:=some 65) (v:=?_) (a':=?_) #[true,true,false,true,true,false,false,false,true,true,false,false,false,false,false,false,false,false,false] rfl rfl (any_of HT_.out (by kernel_rfl)) (fun _ _ _ h => h) (Or.inl ⟨by rfl,?_⟩) ?_ ?_
                rotate_left
                ·intro w'
                 go_simp
                 with_reducible rfl
                rotate_left
                ·simp only [Act.put,sx_,sy_,sz_,i64_w,i32_w]
                 rfl
                refine pure_ (i:=13) (N:=some 69) (v:=?_) (a':=?_) #[true,true,false,true,true,false,false,false,true,true,false,false,false,true,false,false,false,false,false] rfl rfl (any_of HT_.out (by kernel_rfl)) (fun _ _ _ h => h) (Or.inl ⟨by rfl,?_⟩) ?_ ?_
                rotate_left
                ·intro w'
                 go_simp
                 with_reducible rfl
                rotate_left
                ·simp only [Act.put,sx_,sy_,sz_,i64_w,i32_w]
                 rfl
                refine take_ (i:=2) (N:=some 58) (v:=?_) (a':=?_) #[true,true,true,true,true,false,false,false,true,true,false,false,false,true,false,false,false,false,false] rfl rfl (take_ofW HT_.out HW_.out (by kernel_rfl)) (fun _ _ _ h => h) (Or.inl ⟨by rfl,?_⟩) hHeld ?_ ?_
                rotate_left
                ·rintro w' ⟨s0,s1,s2,s3,s4⟩
                 go_simp
                 with_reducible rfl
                rotate_left
                ·simp only [Act.put,sx_,sy_,sz_,i64_w,i32_w]
                 rfl
                refine take_ (i:=5) (N:=some 61) (v:=?_) (a':=?_) #[true,true,true,true,true,true,false,false,true,true,false,false,false,true,false,false,false,false,false] rfl rfl (take_ofW HT_.out HW_.out (by kernel_rfl)) (fun _ _ _ h => h) (Or.inl ⟨by rfl,?_⟩) hHeld ?_ ?_
                rotate_left
                ·rintro w' ⟨s0,s1,s2,s3,s4⟩
                 go_simp
                 with_reducible rfl
                rotate_left
                ·simp only [Act.put,sx_,sy_,sz_,i64_w,i32_w]
                 rfl
                refine pure_ (i:=6) (N:=some 62) (v:=?_) (a':=?_) #[true,true,true,true,true,true,true,false,true,true,false,false,false,true,false,false,false,false,false] rfl rfl (any_of HT_.out (by kernel_rfl)) (fun _ _ _ h => h) (Or.inl ⟨by rfl,?_⟩) ?_ ?_
                rotate_left
                ·intro w'
                 go_simp
                 with_reducible rfl
                rotate_left
                ·simp only [Act.put,sx_,sy_,sz_,i64_w,i32_w]
                 rfl
                refine take_ (i:=7) (N:=some 63) (v:=?_) (a':=?_) #[true,true,true,true,true,true,true,true,true,true,false,false,false,true,false,false,false,false,false] rfl rfl (take_ofW HT_.out HW_.out (by kernel_rfl)) (fun _ _ _ h => h) (Or.inl ⟨by rfl,?_⟩) hHeld ?_ ?_
                rotate_left
                ·rintro w' ⟨s0,s1,s2,s3,s4⟩
                 go_simp
                 with_reducible rfl
                rotate_left
                ·simp only [Act.put,sx_,sy_,sz_,i64_w,i32_w]
                 rfl
                refine take_ (i:=10) (N:=some 66) (v:=?_) (a':=?_) #[true,true,true,true,true,true,true,true,true,true,true,false,false,true,false,false,false,false,false] rfl rfl (take_ofW HT_.out HW_.out (by kernel_rfl)) (fun _ _ _ h => h) (Or.inl ⟨by rfl,?_⟩) hHeld ?_ ?_
                rotate_left
                ·rintro w' ⟨s0,s1,s2,s3,s4⟩
                 go_simp
                 with_reducible rfl
                rotate_left
                ·simp only [Act.put,sx_,sy_,sz_,i64_w,i32_w]
                 rfl
                refine pure_ (i:=11) (N:=some 67) (v:=?_) (a':=?_) #[true,true,true,true,true,true,true,true,true,true,true,true,false,true,false,false,false,false,false] rfl rfl (any_of HT_.out (by kernel_rfl)) (fun _ _ _ h => h) (Or.inl ⟨by rfl,?_⟩) ?_ ?_
                rotate_left
                ·intro w'
                 go_simp
                 with_reducible rfl
                rotate_left
                ·simp only [Act.put,sx_,sy_,sz_,i64_w,i32_w]
                 rfl
                refine take_ (i:=12) (N:=some 68) (v:=?_) (a':=?_) #[true,true,true,true,true,true,true,true,true,true,true,true,true,true,false,false,false,false,false] rfl rfl (take_ofW HT_.out HW_.out (by kernel_rfl)) (fun _ _ _ h => h) (Or.inl ⟨by rfl,?_⟩) hHeld ?_ ?_
                rotate_left
                ·rintro w' ⟨s0,s1,s2,s3,s4⟩
                 go_simp
                 with_reducible rfl
                rotate_left
                ·simp only [Act.put,sx_,sy_,sz_,i64_w,i32_w]
                 rfl
                refine take_ (i:=14) (N:=some 70) (v:=?_) (a':=?_) #[true,true,true,true,true,true,true,true,true,true,true,true,true,true,true,false,false,false,false] rfl rfl (take_ofW HT_.out HW_.out (by kernel_rfl)) (fun _ _ _ h => h) (Or.inl ⟨by rfl,?_⟩) hHeld ?_ ?_
                rotate_left
                ·rintro w' ⟨s0,s1,s2,s3,s4⟩
                 go_simp
                 with_reducible rfl
                rotate_left
                ·simp only [Act.put,sx_,sy_,sz_,i64_w,i32_w]
                 rfl
                refine pure_ (i:=15) (N:=some 71) (v:=?_) (a':=?_) #[true,true,true,true,true,true,true,true,true,true,true,true,true,true,true,true,false,false,false] rfl rfl (any_of HT_.out (by kernel_rfl)) (fun _ _ _ h => h) (Or.inl ⟨by rfl,?_⟩) ?_ ?_
                rotate_left
                ·intro w'
                 go_simp
                 with_reducible rfl
                rotate_left
                ·simp only [Act.put,sx_,sy_,sz_,i64_w,i32_w]
                 rfl
                refine pure_ (i:=16) (N:=some 72) (v:=?_) (a':=?_) #[true,true,true,true,true,true,true,true,true,true,true,true,true,true,true,true,true,false,false] rfl rfl (any_of HT_.out (by kernel_rfl)) (fun _ _ _ h => h) (Or.inl ⟨by rfl,?_⟩) ?_ ?_
                rotate_left
                ·intro w'
                 go_simp
                 with_reducible rfl
                rotate_left
                ·simp only [Act.put,sx_,sy_,sz_,i64_w,i32_w]
                 rfl
                refine pure_ (i:=17) (N:=some 73) (v:=?_) (a':=?_) #[true,true,true,true,true,true,true,true,true,true,true,true,true,true,true,true,true,true,false] rfl rfl (any_of HT_.out (by kernel_rfl)) (fun _ _ _ h => h) (Or.inl ⟨by rfl,?_⟩) ?_ ?_
                rotate_left
                ·intro w'
                 go_simp
                 with_reducible rfl
                rotate_left
                ·simp only [Act.put,sx_,sy_,sz_,i64_w,i32_w]
                 rfl
                refine last_ (i:=18) (N:=none) #[true,true,true,true,true,true,true,true,true,true,true,true,true,true,true,true,true,true,true] rfl rfl (one_of HT_.out (by kernel_rfl)) (by decide) (fun K hK => ?_)
                refine skip_ (w1:=?_) (by rfl) rfl ?_ ?_
                rotate_left
                ·go_simp
                 rfl
                refine hK.out _ _ ?_
                clear hK K
                refine done_ (done_of HT_.out (by kernel_rfl)) ?_
                try go_wp2
                go_roundg k3
                case measure => have:=HK1.out;have:=HK2.out;have:=HK3.out;omega
                case rel => exact ⟨(y293),(wrap64 (x34_3 + 1)),(by first|rfl|(simp;done)|(simp [*];done)),H',⟨by have:=HK1.out;have:=HK2.out;have:=HK3.out;omega⟩,⟨by (with_reducible repeat (first|apply ra_|apply rn_|apply rd_));exact HQ39.out⟩,⟨by repeat (first|(with_reducible first|exact HB.out|apply ba_|apply bn_|apply bd_|refine bs_ ?_ GB28.out|refine bs_ ?_ GE287.out)|exact HB.out)⟩⟩
               ·rw [if_neg c26] at H
                exact absurd H (by simp)
              ·rw [if_neg c25] at H
               exact absurd H (by simp)
             ·rw [if_neg c24] at H
              exact absurd H (by simp)
            ·rw [if_neg c23] at H
             exact absurd H (by simp)
           ·rw [if_neg c22] at H
            exact absurd H (by simp)
          ·rw [if_neg c21] at H
           exact absurd H (by simp)
         ·rw [if_neg c20] at H
          have c20b0 : decide (x34_3 < (l1.length : Int)) = false:=decide_eq_false c20
          clear c20
          have H':=mk_ H
          clear H
          go_wp2
          go_roundg k3
          case measure => have:=HK1.out;have:=HK2.out;have:=HK3.out;omega
          case rel => exact ⟨(x5_3),(wrap64 (x30_2 + 1)),(by first|rfl|(simp;done)|(simp [*];done)),H',⟨by have:=HK1.out;have:=HK2.out;have:=HK3.out;omega⟩,⟨by (with_reducible repeat (first|apply ra_|apply rn_|apply rd_));exact HO_5.out⟩,⟨by repeat (first|(with_reducible first|exact HB.out|apply ba_|apply bn_|apply bd_)|exact HB.out)⟩⟩
      ·rw [if_neg c19] at H
       have c19b0 : decide (x30_2 < a0) = false:=decide_eq_false c19
       clear c19
       obtain rfl:=Option.some.inj H
       go_wp2
       go_ret
       exact ⟨_,by first|rfl|(simp [errW_none,errW_some] <;> rfl)|(simp [*,errW_none,errW_some] <;> rfl),by (with_reducible repeat (first|apply ra_|apply rn_|apply rd_));exact HO_5.out,by repeat (first|(with_reducible first|exact HB.out|apply ba_|apply bn_|apply bd_)|exact HB.out)⟩

end Go.Proofs.Ytdamdcdjodmemaa.PAll
