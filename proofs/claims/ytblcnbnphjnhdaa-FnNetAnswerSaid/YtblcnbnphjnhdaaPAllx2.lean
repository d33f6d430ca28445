/- Proved here: contracts of functions of the given program, or lemmas on them, for the laws of this seat. Written by xprint.py, a program of this session, on the ground of the kit's print; parts by hand: wip/x/ext. -/
import Derived.Test.YtblcnbnphjnhdaaPAllx0
import Derived.Test.YtblcnbnphjnhdaaPAllx1
namespace Go.Proofs.Ytblcnbnphjnhdaa.PAll
open Go.RowKit Go.Proofs.YtblcnbnphjnhdaaW.PrintWords Go.Proofs.YtblcnbnphjnhdaaW.PrintLast Go.Proofs.YtblcnbnphjnhdaaW.PrintMore
attribute [local go_sem] max2_int min2_int max_two min_two max_three min_three max_four min_four   -- for this text's walks alone
set_option linter.unusedVariables false
set_option linter.unusedSimpArgs false
/-! ### spec_l19Net: function 29 -/
def spec_l19Net.l0 : Nat → Int → Int → List Int → Int → Int → List (S83) → List Int → List Int → Option (Int × (List (S83)) × List Int × List Int × Int)
 | 0,_,_,_,_,_,_,_,_ => none
 | k + 1,x4,x6,x1000,x1001,z3_,z4_,z5_,z7_ => if x6 > 0 then ((spec_l21Rd_pick.f k x1000 x1001 x4).bind fun bt151 => (if z5_.length < 17592186044416 then ((spec_l21Rd_num.f k x1000 bt151.2 (([1,2,3] : List Int))).bind fun bt159 => ((spec_l21Rd_pick.f k x1000 bt159.2 bt159.1).bind fun bt161 => (if z7_.length < 17592186044416 then (spec_l19Net.l0 k x4 (wrap64 (x6 - 1)) x1000 bt161.2 z3_ z4_ (z5_ ++ [bt151.1]) (z7_ ++ [wrap64 (1 + bt161.1)])) else (none)))) else (none))) else ((spec_l21Rd_pick.f k x1000 x1001 80).bind fun bt166 => (if bt166.1 = 0 then (if 0 < (z5_.length : Int) then (some (z3_,z4_,(z5_.set (0 : Int).toNat x4),z7_,bt166.2)) else (none)) else (if bt166.1 = 1 then (if 0 < (z7_.length : Int) then (some (z3_,z4_,z5_,(z7_.set (0 : Int).toNat 0),bt166.2)) else (none)) else (if bt166.1 = 2 then (if 1 ≤ (z7_.length : Int) then (some (z3_,z4_,z5_,(z7_.drop (1 : Int).toNat),bt166.2)) else (none)) else (if bt166.1 = 3 then (some (9,z4_,z5_,z7_,bt166.2)) else (some (z3_,z4_,z5_,z7_,bt166.2)))))))
def spec_l19Net.f (k : Nat) (s0_0 : List Int) (s0_1 : Int) : Option (Int × (List (S83)) × List Int × List Int × Int):=(spec_l7Cables.f k s0_0 s0_1).bind fun bt141 => ((spec_l21Rd_num.f k s0_0 bt141.2.2 (([4,6,3,10,2,1,15] : List Int))).bind fun bt149 => (spec_l19Net.l0 k bt141.1 bt149.1 s0_0 bt149.2 bt141.1 bt141.2.1 ([] : List Int) ([] : List Int)))
theorem spec_l19Net.mono_l : ∀ k,(∀ y0 y1 y2 y3 y4 y5 y6 y7,LeO (spec_l19Net.l0 k y0 y1 y2 y3 y4 y5 y6 y7) (spec_l19Net.l0 (k + 1) y0 y1 y2 y3 y4 y5 y6 y7))
 | 0 => fun _ _ _ _ _ _ _ _ r h => by simp [spec_l19Net.l0] at h
 | k + 1 => by
  have ih0:=spec_l19Net.mono_l k
  ·intro y0 y1 y2 y3 y4 y5 y6 y7
   unfold spec_l19Net.l0
   repeat' first
   | (with_reducible exact ih0 _ _ _ _ _ _ _ _)
   | (with_reducible exact spec_l21Rd_num.mono _ _ _ _)
   | (with_reducible exact spec_l21Rd_pick.mono _ _ _ _)
   | (with_reducible exact spec_l7Cables.mono _ _ _)
   | (with_reducible exact LeO.refl _)
   | (with_reducible exact LeO.none _)
   | (with_reducible refine LeO.ite ?_ ?_)
   | (with_reducible refine LeO.bind ?_ (fun _ => ?_))
   | exact ih0 _ _ _ _ _ _ _ _
   | exact spec_l21Rd_num.mono _ _ _ _
   | exact spec_l21Rd_pick.mono _ _ _ _
   | exact spec_l7Cables.mono _ _ _
   | exact LeO.none _
   | refine LeO.ite ?_ ?_
   | refine LeO.bind ?_ (fun _ => ?_)
theorem spec_l19Net.mono : ∀ a0 a1 k,LeO (spec_l19Net.f k a0 a1) (spec_l19Net.f (k + 1) a0 a1):=by
 intro a0 a1 k
 have ih0:=spec_l19Net.mono_l k
 unfold spec_l19Net.f
 repeat' first
   | (with_reducible exact ih0 _ _ _ _ _ _ _ _)
   | (with_reducible exact spec_l21Rd_num.mono _ _ _ _)
   | (with_reducible exact spec_l21Rd_pick.mono _ _ _ _)
   | (with_reducible exact spec_l7Cables.mono _ _ _)
   | (with_reducible exact LeO.refl _)
   | (with_reducible exact LeO.none _)
   | (with_reducible refine LeO.ite ?_ ?_)
   | (with_reducible refine LeO.bind ?_ (fun _ => ?_))
   | exact ih0 _ _ _ _ _ _ _ _
   | exact spec_l21Rd_num.mono _ _ _ _
   | exact spec_l21Rd_pick.mono _ _ _ _
   | exact spec_l7Cables.mono _ _ _
   | exact LeO.none _
   | refine LeO.ite ?_ ?_
   | refine LeO.bind ?_ (fun _ => ?_)
def spec_l19Net.T8 : Bool × List (List Nat × List Nat):=(true,[([],[]),([0],[0]),([],[]),([],[]),([2,3],[2,3]),([4],[4]),([1,5,4],[1,5]),([0,1,2,3,4,5,6],[]),([7,6,6,0,1,2,3,4,5,6],[6,7])])
def spec_l19Net.B8 : List Nat:=[0,1,0,0,12,28,63,127,255]
theorem spec_l19Net.tab8 : rtab .any (opsOf Try.f29 8) = spec_l19Net.T8:=by kernel_rfl
theorem spec_l19Net.bits8 : waitsOk spec_l19Net.T8.2 spec_l19Net.B8 = true:=by kernel_rfl
def spec_l19Net.T9 : Bool × List (List Nat × List Nat):=(true,[([],[]),([0],[0]),([],[]),([],[]),([],[]),([3,4],[3,4]),([2,5,5],[2,5]),([6],[6]),([7],[7]),([1,8,6],[1,8]),([0,1,2,3,4,5,6,7,8,9],[]),([10,9,9,0,1,2,3,4,5,6,7,8,9],[9,10])])
def spec_l19Net.B9 : List Nat:=[0,1,0,0,0,24,60,124,252,511,1023,2047]
theorem spec_l19Net.tab9 : rtab .any (opsOf Try.f29 9) = spec_l19Net.T9:=by kernel_rfl
theorem spec_l19Net.bits9 : waitsOk spec_l19Net.T9.2 spec_l19Net.B9 = true:=by kernel_rfl
set_option maxHeartbeats 8000000 in
set_option maxRecDepth 100000 in
theorem spec_l19Net.calls (k : Nat) (g : Nat) (s0_0 : List Int) (s0_1 : Int) (r1 : Int) (r2 : List (S83)) (r3 : List Int) (r4 : List Int) (r5 : Int) (w0 w : World) (hI : IsS94 w0 w g s0_0 s0_1) (hB : Below w0.heap.size w0 w) (h : spec_l19Net.f k s0_0 s0_1 = some (r1,r2,r3,r4,r5)) :
  Calls Try.prog 29 #[.pointer (some ⟨g,0,none⟩)] w fun e w' => ∃ v1_ v2_ v3_ : Value,e = .returned (.agg #[.int .i64 r1,v1_,v2_,v3_]) ∧ Kd.R k83 83 w' w.heap.size (fun _ => True) v1_ r2 ∧ Kd.R (Kd.int .i64) 3 w' w.heap.size (fun k_ => some k_ ≠ (v3_ : Value).ownBlock) v2_ r3 ∧ Kd.Q (Kd.int .i64) 3 w' w.heap.size (fun k_ => some k_ ≠ (v2_ : Value).ownBlock) v3_ r4 ∧ IsS94 w0 w' g s0_0 r5 ∧ Below w0.heap.size w0 w' ∧ KeepBut w w' g none:=by
 have hu26:=Try.underlying26
 have HI0:=mk_ hI
 have HK:=mk_ (KeepBut.refl w g none)
 have HL:=mk_ hB.size
 clear hI
 have HW0:=mk_ hB.size
 have HB:=mk_ hB
 clear hB
 have H : ((spec_l7Cables.f k s0_0 s0_1).bind fun bt141 => ((spec_l21Rd_num.f k s0_0 bt141.2.2 (([4,6,3,10,2,1,15] : List Int))).bind fun bt149 => (spec_l19Net.l0 k bt141.1 bt149.1 s0_0 bt149.2 bt141.1 bt141.2.1 ([] : List Int) ([] : List Int)))) = some (r1,r2,r3,r4,r5):=h
 clear h
 replace H:=Option.bind_eq_some_iff.mp H
 obtain ⟨⟨t141,t142,t145⟩,A20,H⟩:=H
 replace H : ((spec_l21Rd_num.f k s0_0 t145 (([4,6,3,10,2,1,15] : List Int))).bind fun bt149 => (spec_l19Net.l0 k t141 bt149.1 s0_0 bt149.2 t141 t142 ([] : List Int) ([] : List Int))) = some (r1,r2,r3,r4,r5):=H
 have A2:=mk_ A20
 clear A20
 obtain ⟨y146,hy146⟩ : ∃ y_ : List Int,y_ = (([4,6,3,10,2,1,15] : List Int)):=⟨_,rfl⟩
 replace H : ((spec_l21Rd_num.f k s0_0 t145 y146).bind fun bt149 => (spec_l19Net.l0 k t141 bt149.1 s0_0 bt149.2 t141 t142 ([] : List Int) ([] : List Int))) = some (r1,r2,r3,r4,r5):=by first|(rw [hy146];with_reducible exact H)|(have H2_:=(Option.bind_some _ _).symm.trans H;rw [hy146];with_reducible exact H2_)|(have H2_:=(Option.bind_some _ _).symm.trans H;with_reducible exact H2_)|with_reducible exact H|(rw [hy146];exact H)|exact H
 have Ny146:=mk_ hy146
 clear hy146
 replace H:=Option.bind_eq_some_iff.mp H
 obtain ⟨⟨t149,t150⟩,A30,H⟩:=H
 replace H : (spec_l19Net.l0 k t141 t149 s0_0 t150 t141 t142 ([] : List Int) ([] : List Int)) = some (r1,r2,r3,r4,r5):=H
 have A3:=mk_ A30
 clear A30
 have H':=mk_ H
 clear H
 go_enter Try.func29,Try.ntmps29
 go_wp2_with (first|((with_reducible refine gate_dst (N:=2) rfl ?_);refine box_event ?hg (N:=2) ?hd (cs:=#[.int .i64 0,.slice none 0 0,.slice none 0 0,.slice none 0 0]) (t:=26) ?hr ?_;(case hd => rfl);(case hg => rfl);(case hr => first|(go_simp;done)|(go_simp;rfl));intro gb139 hg w4 hbox hb;have n0_:=mk_ (IsS94.below (u2_ HI0) hb);have n1_:=mk_ (KeepBut.trans (u3_ HK) (KeepBut.of_below hb g none) (.inl rfl));have n2_:=mk_ (st_ (u4_ HB HI0) hb);have n3_:=mk_ (hbox);have n4_:=mk_ ((by rw [hg];exact (keep_size (w:=w) (g:=g) (row:=none) (u3_ HK)) : w.heap.size ≤ gb139));have n5_:=mk_ ((Nat.le_trans HW0.out (by rw [hg];exact (keep_size (w:=w) (g:=g) (row:=none) (u3_ HK)) : w.heap.size ≤ gb139) : w0.heap.size ≤ gb139));have n6_:=mk_ ((by rw [hg];exact Nat.ne_of_lt (IsS94.lt (show IsS94 w0 _ g s0_0 s0_1 from u2_ HI0)) : g ≠ gb139));have n7_:=mk_ ((by rw [hg];exact Nat.ne_of_gt (IsS94.lt (show IsS94 w0 _ g s0_0 s0_1 from u2_ HI0)) : gb139 ≠ g));clear HI0 HK HB;have HI0:=n0_;have HK:=n1_;have HB:=n2_;have BK139:=n3_;have GW139:=n4_;have GE139:=n5_;have NB0_139:=n6_;have NB139_0:=n7_;clear n0_ n1_ n2_ n3_ n4_ n5_ n6_ n7_ hb hbox hg)|((with_reducible refine gate_dst (N:=3) rfl ?_);refine box_event ?hg (N:=3) ?hd (cs:=#[.int .i64 0,.slice none 0 0,.slice none 0 0,.slice none 0 0]) (t:=26) ?hr ?_;(case hd => rfl);(case hg => rfl);(case hr => first|(go_simp;done)|(go_simp;rfl));intro gb140 hg w5 hbox hb;have n0_:=mk_ (IsS94.below (u5_ HI0 NB0_139) hb);have n1_:=mk_ (blk_below (g:=gb139) (o:=.cells #[.int .i64 0,.slice none 0 0,.slice none 0 0,.slice none 0 0] 26 (0,0)) (qk_ BK139) hb);have n2_:=mk_ (KeepBut.trans (u6_ HK GW139) (KeepBut.of_below hb g none) (.inl rfl));have n3_:=mk_ (st_ (u7_ HB HI0 GE139) hb);have n4_:=mk_ (hbox);have n5_:=mk_ ((by rw [hg];exact (keep_size (w:=w) (g:=g) (row:=none) (u6_ HK GW139)) : w.heap.size ≤ gb140));have n6_:=mk_ ((Nat.le_trans HW0.out (by rw [hg];exact (keep_size (w:=w) (g:=g) (row:=none) (u6_ HK GW139)) : w.heap.size ≤ gb140) : w0.heap.size ≤ gb140));have n7_:=mk_ ((by rw [hg];exact Nat.ne_of_lt (blk_lt (g:=gb139) (o:=.cells #[.int .i64 0,.slice none 0 0,.slice none 0 0,.slice none 0 0] 26 (0,0)) (qk_ BK139)) : gb139 ≠ gb140));have n8_:=mk_ ((by rw [hg];exact Nat.ne_of_gt (blk_lt (g:=gb139) (o:=.cells #[.int .i64 0,.slice none 0 0,.slice none 0 0,.slice none 0 0] 26 (0,0)) (qk_ BK139)) : gb140 ≠ gb139));have n9_:=mk_ ((by rw [hg];exact Nat.ne_of_lt (IsS94.lt (show IsS94 w0 _ g s0_0 s0_1 from u5_ HI0 NB0_139)) : g ≠ gb140));have n10_:=mk_ ((by rw [hg];exact Nat.ne_of_gt (IsS94.lt (show IsS94 w0 _ g s0_0 s0_1 from u5_ HI0 NB0_139)) : gb140 ≠ g));clear HI0 BK139 HK HB;have HI0:=n0_;have BK139:=n1_;have HK:=n2_;have HB:=n3_;have BK140:=n4_;have GW140:=n5_;have GE140:=n6_;have NB139_140:=n7_;have NB140_139:=n8_;have NB0_140:=n9_;have NB140_0:=n10_;clear n0_ n1_ n2_ n3_ n4_ n5_ n6_ n7_ n8_ n9_ n10_ hb hbox hg;have hnb6:=NB140_139.out;have hnc6:=NB139_140.out;have hnb7:=NB140_0.out;have hnc7:=NB0_140.out;have hcz8_0 : w5.cell? ⟨gb140,0,none⟩ = some (.int .i64 0):=(bc_ BK140.out 0).trans rfl;have hcz8_1 : w5.cell? ⟨gb140,1,none⟩ = some (.slice none 0 0):=(bc_ BK140.out 1).trans rfl;have hcz8_2 : w5.cell? ⟨gb140,2,none⟩ = some (.slice none 0 0):=(bc_ BK140.out 2).trans rfl;have hcz8_3 : w5.cell? ⟨gb140,3,none⟩ = some (.slice none 0 0):=(bc_ BK140.out 3).trans rfl;have hfz8_0:=bf_ BK140.out 0;have hfz8_1:=bf_ BK140.out 1;have hfz8_2:=bf_ BK140.out 2;have hfz8_3:=bf_ BK140.out 3)|((with_reducible refine gate_callee (f:=60) rfl ?_);refine goesL_ (some 10) rfl rfl Try.func60 (by kernel_rfl) rfl #[.pointer (some ⟨g,0,none⟩)] rfl qm_ ?_;(with_reducible refine (spec_l7Cables.calls k g s0_0 s0_1 t141 t142 t145 w0 _ ?side1 ?side2 A2.out).mono ?_);(case side1 => exact u8_ HI0 NB0_139 NB0_140);(case side2 => exact u9_ HB HI0 GE139 GE140);rintro e w9 ⟨v143,rfl,ho0,hi,hb,hk⟩;refine ⟨_,rfl,?_⟩;have n0_:=mk_ (KeepBut.blk hk (g':=gb139) (o:=.cells #[.int .i64 0,.slice none 0 0,.slice none 0 0,.slice none 0 0] 26 (0,0)) (by (with_reducible repeat (first|apply kn_|apply kd_|apply ka_));refine blk_far ?_ NB139_140.out _;(with_reducible repeat (first|apply kn_|apply kd_|apply ka_));refine blk_far ?_ NB139_140.out _;(with_reducible repeat (first|apply kn_|apply kd_|apply ka_));refine blk_far ?_ NB139_140.out _;(with_reducible repeat (first|apply kn_|apply kd_|apply ka_));refine blk_far ?_ NB139_140.out _;(with_reducible repeat (first|apply kn_|apply kd_|apply ka_));exact BK139.out) NB139_0.out (by simp));have n1_:=mk_ (KeepBut.blk hk (g':=gb140) (o:=.cells #[.int .i64 0,.slice none 0 0,.slice none 0 0,.slice none 0 0] 26 (0,0)) (by (with_reducible repeat (first|apply kn_|apply kd_|apply ka_));refine blk_put (cs:=#[.int .i64 0,.slice none 0 0,.slice none 0 0,.slice none 0 0]) ?_ 3 _ rfl;(with_reducible repeat (first|apply kn_|apply kd_|apply ka_));refine blk_put (cs:=#[.int .i64 0,.slice none 0 0,.slice none 0 0,.slice none 0 0]) ?_ 2 _ rfl;(with_reducible repeat (first|apply kn_|apply kd_|apply ka_));refine blk_put (cs:=#[.int .i64 0,.slice none 0 0,.slice none 0 0,.slice none 0 0]) ?_ 1 _ rfl;(with_reducible repeat (first|apply kn_|apply kd_|apply ka_));refine blk_put (cs:=#[.int .i64 0,.slice none 0 0,.slice none 0 0,.slice none 0 0]) ?_ 0 _ rfl;(with_reducible repeat (first|apply kn_|apply kd_|apply ka_));exact BK140.out) NB140_0.out (by simp));have n2_:=mk_ (Kd.R_lower ho0 (keep_size (w:=w) (g:=g) (row:=none) (u10_ HK GW139 GW140)));have n3_:=mk_ (KeepBut.trans (u10_ HK GW139 GW140) hk (.inl rfl));have n4_:=mk_ (hb);have n5_:=mk_ (hi);clear BK139 BK140 HK HB HI0;have BK139:=n0_;have BK140:=n1_;have HO144:=n2_;have HK:=n3_;have HB:=n4_;have HI0:=n5_;clear n0_ n1_ n2_ n3_ n4_ n5_;(try clear hb);(try clear hb2);(try clear hk);(try clear hi);(try clear ho0);have hcz10_0 : w9.cell? ⟨gb140,0,none⟩ = some (.int .i64 0):=(bc_ BK140.out 0).trans rfl;have hcz10_1 : w9.cell? ⟨gb140,1,none⟩ = some (.slice none 0 0):=(bc_ BK140.out 1).trans rfl;have hcz10_2 : w9.cell? ⟨gb140,2,none⟩ = some (.slice none 0 0):=(bc_ BK140.out 2).trans rfl;have hcz10_3 : w9.cell? ⟨gb140,3,none⟩ = some (.slice none 0 0):=(bc_ BK140.out 3).trans rfl;have hfz10_0:=bf_ BK140.out 0;have hfz10_1:=bf_ BK140.out 1;have hfz10_2:=bf_ BK140.out 2;have hfz10_3:=bf_ BK140.out 3;obtain ⟨Ao11,co11,eo11⟩:=Kd.R_slice HO144.out;subst eo11)|((with_reducible refine gate_dst (N:=18) rfl ?_);refine Kd.R_lit (Kd.int .i64) _ 3 ?hg (N:=18) ?hd (xs:=([4,6,3,10,2,1,15] : List Int)) (inner:=[.int .i64 4,.int .i64 6,.int .i64 3,.int .i64 10,.int .i64 2,.int .i64 1,.int .i64 15]) (ok:=fun _ => True) (okp:=fun _ => True) ?hr ?hp (fun _ hk => hk) trivial (Below.refl _ _) (Nat.le_refl _) (by simp) ?_;(case hd => rfl);(case hg => rfl);(case hr => first|(go_simp;done)|(go_simp;rfl));(case hp => exact (Reps.one (show Kd.M (Kd.int .i64) _ _ _ 4 [.int .i64 4] from rfl) (Reps.one (show Kd.M (Kd.int .i64) _ _ _ 6 [.int .i64 6] from rfl) (Reps.one (show Kd.M (Kd.int .i64) _ _ _ 3 [.int .i64 3] from rfl) (Reps.one (show Kd.M (Kd.int .i64) _ _ _ 10 [.int .i64 10] from rfl) (Reps.one (show Kd.M (Kd.int .i64) _ _ _ 2 [.int .i64 2] from rfl) (Reps.one (show Kd.M (Kd.int .i64) _ _ _ 1 [.int .i64 1] from rfl) (Reps.one (show Kd.M (Kd.int .i64) _ _ _ 15 [.int .i64 15] from rfl) (Reps.none _ _)))))))));intro v147 w12 ho13 hb hg_ hnew_;clear hg_ hnew_;(first|rw [← Ny146.out] at ho13|(simp only [Int.reduceToNat] at ho13;rw [← Ny146.out] at ho13));have n0_:=mk_ (rb_ (by (with_reducible repeat (first|apply ra_|apply rn_|apply rd_));exact (rm_ (rf_ (p:=⟨gb140,1,none⟩) (rf_ (p:=⟨gb140,0,none⟩) (rt_ HO144.out BK140.out (by decide)) (λ_ h=>h.2) (.int .i64 t141)) (λ_ h=>h.2) (.slice Ao11 t142.length co11)) (λ_ h=>h.1))) hb);have n1_:=mk_ (Kd.R_lower ho13 (keep_size (w:=w) (g:=g) (row:=none) (u10_ HK GW139 GW140)));have n2_:=mk_ (IsS94.below (show IsS94 w0 ((w9.setCell ⟨gb140,0,none⟩ (.int .i64 t141)).setCell ⟨gb140,1,none⟩ (.slice Ao11 t142.length co11)) g s0_0 t145 from u8_ HI0 NB0_139 NB0_140) hb);have n3_:=mk_ (blk_below (g:=gb139) (o:=.cells #[.int .i64 0,.slice none 0 0,.slice none 0 0,.slice none 0 0] 26 (0,0)) (by (with_reducible repeat (first|apply kn_|apply kd_|apply ka_));refine blk_far ?_ NB139_140.out _;(with_reducible repeat (first|apply kn_|apply kd_|apply ka_));refine blk_far ?_ NB139_140.out _;(with_reducible repeat (first|apply kn_|apply kd_|apply ka_));exact BK139.out) hb);have n4_:=mk_ (blk_below (g:=gb140) (o:=.cells #[.int .i64 t141,.slice Ao11 t142.length co11,.slice none 0 0,.slice none 0 0] 26 (0,0)) (by (with_reducible repeat (first|apply kn_|apply kd_|apply ka_));refine blk_put (cs:=#[.int .i64 t141,.slice none 0 0,.slice none 0 0,.slice none 0 0]) ?_ 1 _ rfl;(with_reducible repeat (first|apply kn_|apply kd_|apply ka_));refine blk_put (cs:=#[.int .i64 0,.slice none 0 0,.slice none 0 0,.slice none 0 0]) ?_ 0 _ rfl;(with_reducible repeat (first|apply kn_|apply kd_|apply ka_));exact BK140.out) hb);have n5_:=mk_ (KeepBut.trans (u10_ HK GW139 GW140) (KeepBut.of_below hb g none) (.inl rfl));have n6_:=mk_ (st_ (u9_ HB HI0 GE139 GE140) hb);clear HO144 HI0 BK139 BK140 HK HB;have HO144:=n0_;have HO148:=n1_;have HI0:=n2_;have BK139:=n3_;have BK140:=n4_;have HK:=n5_;have HB:=n6_;clear n0_ n1_ n2_ n3_ n4_ n5_ n6_ hb ho13;obtain ⟨Ao14,co14,eo14⟩:=Kd.R_slice HO148.out;subst eo14)|((with_reducible refine gate_callee (f:=61) rfl ?_);refine goesL_ (some 19) rfl rfl Try.func61 (by kernel_rfl) rfl #[.pointer (some ⟨g,0,none⟩),.slice Ao14 y146.length co14] rfl qm_ ?_;(with_reducible refine (spec_l21Rd_num.calls k g s0_0 t145 _ _ y146 t149 t150 w0 _ ?side1 ?side2 ?side3 ?side4 ?side5 A3.out).mono ?_);(case side1 => exact u8_ HI0 NB0_139 NB0_140);(case side2 => exact u9_ HB HI0 GE139 GE140);(case side3 => repeat (first|exact (rr_ HO148.out).2.2|(with_reducible refine ca_ ?_ _)|(with_reducible refine cn_ ?_ _)|(with_reducible refine cd_ ?_)));(case side4 => exact (rr_ HO148.out).2.1);(case side5 => exact far_slice (IsS94.own_ne HI0.out HO148.out (by decide)));rintro e w15 ⟨rfl,hi,hb,hk⟩;refine ⟨_,rfl,?_⟩;have n0_:=mk_ (KeepBut.blk hk (g':=gb139) (o:=.cells #[.int .i64 0,.slice none 0 0,.slice none 0 0,.slice none 0 0] 26 (0,0)) (qk_ BK139) NB139_0.out (by simp));have n1_:=mk_ (KeepBut.blk hk (g':=gb140) (o:=.cells #[.int .i64 t141,.slice Ao11 t142.length co11,.slice none 0 0,.slice none 0 0] 26 (0,0)) (qk_ BK140) NB140_0.out (by simp));have n2_:=mk_ (rm_ (Kd.R_keep (IsS94.apart (show IsS94 w0 _ g s0_0 t145 from u8_ HI0 NB0_139 NB0_140) (qr_ HO144) (by decide)) hk (fun _ h => h.2)) (fun _ h => h.1));have n3_:=mk_ (rm_ (Kd.R_keep (IsS94.apart (show IsS94 w0 _ g s0_0 t145 from u8_ HI0 NB0_139 NB0_140) (qr_ HO148) (by decide)) hk (fun _ h => h.2)) (fun _ h => h.1));have n4_:=mk_ (KeepBut.trans (u10_ HK GW139 GW140) hk (.inl rfl));have n5_:=mk_ (hb);have n6_:=mk_ (hi);clear BK139 BK140 HO144 HO148 HK HB HI0;have BK139:=n0_;have BK140:=n1_;have HO144:=n2_;have HO148:=n3_;have HK:=n4_;have HB:=n5_;have HI0:=n6_;clear n0_ n1_ n2_ n3_ n4_ n5_ n6_;(try clear hb);(try clear hb2);(try clear hk);(try clear hi)))
 go_loopg [6] k (fun kq v6 w' => ∃ (x6_1 : Int) (x1001_1 : Int) (z6_ : List Int) (z8_ : List Int) (u141002 : Value) (u141003 : Value),v6 = .int .i64 x6_1 ∧ Aside0 (spec_l19Net.l0 kq t141 x6_1 s0_0 x1001_1 t141 t142 z6_ z8_ = some (r1,r2,r3,r4,r5)) ∧ Aside0 (kq ≤ k) ∧ Aside0 (Kd.R k83 83 w' w.heap.size (fun _ => True) (.slice Ao11 t142.length co11) t142) ∧ Aside0 (Kd.R (Kd.int .i64) 3 w' w.heap.size (fun k_ => some k_ ≠ (u141003 : Value).ownBlock) u141002 z6_) ∧ Aside0 (Kd.Q (Kd.int .i64) 3 w' w.heap.size (fun k_ => some k_ ≠ (u141002 : Value).ownBlock) u141003 z8_) ∧ Aside0 (w'.heap[gb139]? = some (.cells #[.int .i64 0,(.slice none 0 0),(.slice none 0 0),(.slice none 0 0)] 26 (0,0))) ∧ Aside0 (w'.heap[gb140]? = some (.cells #[.int .i64 t141,(.slice Ao11 t142.length co11),u141002,u141003] 26 (0,0))) ∧ Aside0 (IsS94 w0 w' g s0_0 x1001_1) ∧ Aside0 (KeepBut w w' g none) ∧ Aside0 (Below w0.heap.size w0 w'))
 case atStart => exact ⟨(t149),(t150),(([] : List Int)),(([] : List Int)),(.slice none 0 0),(.slice none 0 0),qf_,H',⟨Nat.le_refl _⟩,⟨qr_ HO144⟩,⟨by first|exact Kd.R_nil _ _ _ _ _|exact Kd.N_nil _ _ _ _ _|exact Kd.V_nil _ _ _ _ _|exact Kd.Q_nil _ _ _ _ _|exact Kd.S_nil _ _ _ _ _⟩,⟨Kd.Q_of_R (by first|exact Kd.R_nil _ _ _ _ _|exact Kd.N_nil _ _ _ _ _|exact Kd.V_nil _ _ _ _ _|exact Kd.Q_nil _ _ _ _ _|exact Kd.S_nil _ _ _ _ _)⟩,⟨qk_ BK139⟩,⟨qk_ BK140⟩,⟨u8_ HI0 NB0_139 NB0_140⟩,⟨u10_ HK GW139 GW140⟩,⟨u9_ HB HI0 GE139 GE140⟩⟩
 case round =>
  clear H'
  try clear c2
  try clear p2
  try clear c6
  try clear c7
  try clear hcz10_0
  try clear hcz10_1
  try clear hcz10_2
  try clear hcz10_3
  try clear hcz8_0
  try clear hcz8_1
  try clear hcz8_2
  try clear hcz8_3
  try clear hfz10_0
  try clear hfz10_1
  try clear hfz10_2
  try clear hfz10_3
  try clear hfz8_0
  try clear hfz8_1
  try clear hfz8_2
  try clear hfz8_3
  obtain ⟨x6_1,x1001_1,z6_,z8_,u141002,u141003,rfl,HA,HK1,z0_,z1_,z2_,BK139,BK140,HI0,HK,HB⟩:=hrel
  cases gk with
  | zero => exact absurd HA.out (by simp [spec_l19Net.l0])
  | succ k1 =>
   have H:=HA.out
   clear HA
   simp only [spec_l19Net.l0] at H
   by_cases c16 : x6_1 > 0
   ·rw [if_pos c16] at H
    have c16b0 : decide (0 < x6_1) = true:=decide_eq_true c16
    clear c16
    replace H:=Option.bind_eq_some_iff.mp H
    obtain ⟨⟨t151,t152⟩,A170,H⟩:=H
    replace H : (if z6_.length < 17592186044416 then ((spec_l21Rd_num.f k1 s0_0 t152 (([1,2,3] : List Int))).bind fun bt159 => ((spec_l21Rd_pick.f k1 s0_0 bt159.2 bt159.1).bind fun bt161 => (if z8_.length < 17592186044416 then (spec_l19Net.l0 k1 t141 (wrap64 (x6_1 - 1)) s0_0 bt161.2 t141 t142 (z6_ ++ [t151]) (z8_ ++ [wrap64 (1 + bt161.1)])) else (none)))) else (none)) = some (r1,r2,r3,r4,r5):=H
    have A17:=mk_ A170
    clear A170
    by_cases c18 : z6_.length < 17592186044416
    ·rw [if_pos c18] at H
     have LMc18:=mk_ c18
     clear c18
     obtain ⟨y153,hy153⟩ : ∃ y_ : List Int,y_ = (z6_ ++ [t151]):=⟨_,rfl⟩
     replace H : ((spec_l21Rd_num.f k1 s0_0 t152 (([1,2,3] : List Int))).bind fun bt159 => ((spec_l21Rd_pick.f k1 s0_0 bt159.2 bt159.1).bind fun bt161 => (if z8_.length < 17592186044416 then (spec_l19Net.l0 k1 t141 (wrap64 (x6_1 - 1)) s0_0 bt161.2 t141 t142 y153 (z8_ ++ [wrap64 (1 + bt161.1)])) else (none)))) = some (r1,r2,r3,r4,r5):=by first|(rw [hy153];with_reducible exact H)|(have H2_:=(Option.bind_some _ _).symm.trans H;rw [hy153];with_reducible exact H2_)|(have H2_:=(Option.bind_some _ _).symm.trans H;with_reducible exact H2_)|with_reducible exact H|(rw [hy153];exact H)|exact H
     have Ny153:=mk_ hy153
     clear hy153
     obtain ⟨y156,hy156⟩ : ∃ y_ : List Int,y_ = (([1,2,3] : List Int)):=⟨_,rfl⟩
     replace H : ((spec_l21Rd_num.f k1 s0_0 t152 y156).bind fun bt159 => ((spec_l21Rd_pick.f k1 s0_0 bt159.2 bt159.1).bind fun bt161 => (if z8_.length < 17592186044416 then (spec_l19Net.l0 k1 t141 (wrap64 (x6_1 - 1)) s0_0 bt161.2 t141 t142 y153 (z8_ ++ [wrap64 (1 + bt161.1)])) else (none)))) = some (r1,r2,r3,r4,r5):=by first|(rw [hy156];with_reducible exact H)|(have H2_:=(Option.bind_some _ _).symm.trans H;rw [hy156];with_reducible exact H2_)|(have H2_:=(Option.bind_some _ _).symm.trans H;with_reducible exact H2_)|with_reducible exact H|(rw [hy156];exact H)|exact H
     have Ny156:=mk_ hy156
     clear hy156
     replace H:=Option.bind_eq_some_iff.mp H
     obtain ⟨⟨t159,t160⟩,A190,H⟩:=H
     replace H : ((spec_l21Rd_pick.f k1 s0_0 t160 t159).bind fun bt161 => (if z8_.length < 17592186044416 then (spec_l19Net.l0 k1 t141 (wrap64 (x6_1 - 1)) s0_0 bt161.2 t141 t142 y153 (z8_ ++ [wrap64 (1 + bt161.1)])) else (none))) = some (r1,r2,r3,r4,r5):=H
     have A19:=mk_ A190
     clear A190
     replace H:=Option.bind_eq_some_iff.mp H
     obtain ⟨⟨t161,t162⟩,A200,H⟩:=H
     replace H : (if z8_.length < 17592186044416 then (spec_l19Net.l0 k1 t141 (wrap64 (x6_1 - 1)) s0_0 t162 t141 t142 y153 (z8_ ++ [wrap64 (1 + t161)])) else (none)) = some (r1,r2,r3,r4,r5):=H
     have A20:=mk_ A200
     clear A200
     by_cases c21 : z8_.length < 17592186044416
     ·rw [if_pos c21] at H
      have LMc21:=mk_ c21
      clear c21
      obtain ⟨y163,hy163⟩ : ∃ y_ : List Int,y_ = (z8_ ++ [wrap64 (1 + t161)]):=⟨_,rfl⟩
      replace H : (spec_l19Net.l0 k1 t141 (wrap64 (x6_1 - 1)) s0_0 t162 t141 t142 y153 y163) = some (r1,r2,r3,r4,r5):=by first|(rw [hy163];with_reducible exact H)|(have H2_:=(Option.bind_some _ _).symm.trans H;rw [hy163];with_reducible exact H2_)|(have H2_:=(Option.bind_some _ _).symm.trans H;with_reducible exact H2_)|with_reducible exact H|(rw [hy163];exact H)|exact H
      have Ny163:=mk_ hy163
      clear hy163
      have H':=mk_ H
      clear H
      try go_wp2
      have n0_:=mk_ (rd_ z0_.out)
      have n1_:=mk_ (rd_ z1_.out)
      have n2_:=mk_ (Kd.Q_drew z2_.out)
      have n3_:=mk_ (kd_ BK139.out)
      have n4_:=mk_ (kd_ BK140.out)
      have n5_:=mk_ (IsS94.drew HI0.out)
      have n6_:=mk_ (keep_drew HK.out)
      have n7_:=mk_ (bd_ HB.out)
      clear z0_
      clear z1_
      clear z2_
      clear BK139
      clear BK140
      clear HI0
      clear HK
      clear HB
      have z0_:=n0_
      have z1_:=n1_
      have z2_:=n2_
      have BK139:=n3_
      have BK140:=n4_
      have HI0:=n5_
      have HK:=n6_
      have HB:=n7_
      clear n0_ n1_ n2_ n3_ n4_ n5_ n6_ n7_
      refine start_ (n:=9) (S:=fun w' => w'.cell? ⟨gb140,0,none⟩ = some (.int .i64 t141) ∧ w'.cell? ⟨gb140,1,none⟩ = some (.slice Ao11 t142.length co11) ∧ w'.cell? ⟨gb140,2,none⟩ = some (u141002) ∧ w'.cell? ⟨gb140,3,none⟩ = some (u141003)) (ds:=[8]) #[false,false,false,false,false,false,false,false,false] (by kernel_rfl) rfl rfl ⟨(bc_ BK140.out 0).trans rfl,(bc_ BK140.out 1).trans rfl,(bc_ BK140.out 2).trans rfl,(bc_ BK140.out 3).trans rfl⟩ (fun hHeld => ?_);refine with_tabW spec_l19Net.tab8 spec_l19Net.bits8 (fun HT_ HW_ => ?_)
      generalize wr.drew = w22 at z0_ z1_ z2_ BK139 BK140 HI0 HK HB hHeld ⊢
      refine pu_ (i:=0) (N:=some 24) 9 1 ?_
      refine pu_ (i:=2) (N:=some 26) 9 5 ?_
      refine pu_ (i:=3) (N:=some 27) 9 13 ?_
      refine ta4_ (i:=1) (N:=some 25) 9 15 hHeld ?_
      refine on_ (i:=4) (N:=some 28) 9 31 (fun K hK => ?_)
      refine goes_ Try.func62 (by kernel_rfl) rfl #[.pointer (some ⟨g,0,none⟩),.int .i64 t141] (by rfl) rfl rfl qm_ ?_
      with_reducible refine (spec_l21Rd_pick.calls k1 g s0_0 x1001_1 t141 t151 t152 w0 _ ?side1 ?side2 A17.out).mono ?_
      (case side1 => exact u8_ HI0 NB0_139 NB0_140)
      (case side2 => exact u9_ HB HI0 GE139 GE140)
      rintro e w23 ⟨rfl,hi,hb,hk⟩
      refine ⟨_,rfl,?_⟩
      have n0_:=mk_ (rm_ (Kd.R_keep (IsS94.apart (show IsS94 w0 _ g s0_0 x1001_1 from u8_ HI0 NB0_139 NB0_140) (qr_ z0_) (by decide)) hk (fun _ h => h.2)) (fun _ h => h.1))
      have n1_:=mk_ (rm_ (Kd.R_keep (IsS94.apart (show IsS94 w0 _ g s0_0 x1001_1 from u8_ HI0 NB0_139 NB0_140) (qr_ z1_) (by decide)) hk (fun _ h => h.2)) (fun _ h => h.1))
      have n2_:=mk_ (Kd.Q_mono (Kd.Q_keep (IsS94.apartQ (show IsS94 w0 _ g s0_0 x1001_1 from u8_ HI0 NB0_139 NB0_140) (by (with_reducible repeat (first|apply Kd.Q_alloc|apply Kd.Q_drewN|apply Kd.Q_drew));exact z2_.out) (by decide)) hk (fun _ h => h.2)) (fun _ h => h.1))
      have n3_:=mk_ (KeepBut.blk hk (g':=gb139) (o:=.cells #[.int .i64 0,.slice none 0 0,.slice none 0 0,.slice none 0 0] 26 (0,0)) (qk_ BK139) NB139_0.out (by simp))
      have n4_:=mk_ (KeepBut.blk hk (g':=gb140) (o:=.cells #[.int .i64 t141,.slice Ao11 t142.length co11,u141002,u141003] 26 (0,0)) (qk_ BK140) NB140_0.out (by simp))
      have n5_:=mk_ (KeepBut.trans (u10_ HK GW139 GW140) hk (.inl rfl))
      have n6_:=mk_ (hb)
      have n7_:=mk_ (hi)
      clear z0_
      clear z1_
      clear z2_
      clear BK139
      clear BK140
      clear HK
      clear HB
      clear HI0
      have z0_:=n0_
      have z1_:=n1_
      have z2_:=n2_
      have BK139:=n3_
      have BK140:=n4_
      have HK:=n5_
      have HB:=n6_
      have HI0:=n7_
      clear n0_ n1_ n2_ n3_ n4_ n5_ n6_ n7_
      (try clear hb)
      (try clear hb2)
      (try clear hk)
      (try clear hi)
      refine hK.out _ _ ⟨(bc_ BK140.out 0).trans rfl,(bc_ BK140.out 1).trans rfl,(bc_ BK140.out 2).trans rfl,(bc_ BK140.out 3).trans rfl⟩ (fun hHeld => ?_)
      clear hK K
      refine norm_ (a':=?_) ?_ ?_
      rotate_left
      ·show Act.put _ (some 28) _ = _
       simp only [Act.put,sx_,sy_,sz_,i64_w,i32_w]
       rfl
      refine on_ (i:=5) (N:=some 29) 9 63 (fun K hK => ?_)
      refine value_ (w1:=?_) (v:=?_) (by rfl) rfl ?_ ?_
      rotate_left 2
      ·go_simp
       constructor
       ·rfl
       ·rfl
      refine hK.out _ _ ⟨(bc_ (ka_ BK140.out _) 0).trans rfl,(bc_ (ka_ BK140.out _) 1).trans rfl,(bc_ (ka_ BK140.out _) 2).trans rfl,(bc_ (ka_ BK140.out _) 3).trans rfl⟩ (fun hHeld => ?_)
      clear hK K
      refine norm_ (a':=?_) ?_ ?_
      rotate_left
      ·show Act.put _ (some 29) _ = _
       simp only [Act.put,sx_,sy_,sz_,i64_w,i32_w]
       rfl
      refine on_ (i:=6) (N:=some 30) 9 127 (fun K hK => ?_)
      refine Kd.R_append_step (Kd.int .i64) w.heap.size (by rfl) (.tmp 25) (.tmp 29) 24 3 (.int .i64 0) 8 rfl Try.underlying24 info3 rfl (by decide) (by omega) u141002 z6_ t151 [.int .i64 t151] (fun k_ => some k_ ≠ (u141003 : Value).ownBlock) (fun _ => False) rfl rfl ?aP (fun _ hk => hk.elim) ?aF ?aO (Below.refl _ _) ?aS ?aL ?_
      (case aP => exact rfl)
      (case aF => exact (fun k_ hk => Kd.fresh' (Kd.Q_lt (by (with_reducible repeat (first|apply Kd.Q_alloc|apply Kd.Q_drewN|apply Kd.Q_drew));exact z2_.out)) k_ hk))
      (case aO => exact (qr_ z1_))
      (case aS => exact (keep_size (w:=w) (g:=g) (row:=none) (u10_ HK GW139 GW140)))
      (case aL => have:=LMc18.out;omega)
      intro v154 w24 ho hb hg hat
      rw [← Ny153.out] at ho
      have n0_:=mk_ (Kd.R_over' (qr_ z0_) (Kd.R_typed (qr_ z1_)) (by decide) hg)
      have n1_:=mk_ (Kd.Q_after (ok:=(fun _ => True)) (by (with_reducible repeat (first|apply Kd.Q_alloc|apply Kd.Q_drewN|apply Kd.Q_drew));exact Kd.Q_mono z2_.out (fun _ hk => ⟨trivial,hk⟩)) hg hat)
      have n2_:=mk_ (blk_grown (g:=gb139) (o:=.cells #[.int .i64 0,.slice none 0 0,.slice none 0 0,.slice none 0 0] 26 (0,0)) (qk_ BK139) hg (Kd.R_ne z1_.out BK139.out (by decide)))
      have n3_:=mk_ (blk_grown (g:=gb140) (o:=.cells #[.int .i64 t141,.slice Ao11 t142.length co11,u141002,u141003] 26 (0,0)) (qk_ BK140) hg (Kd.R_ne z1_.out BK140.out (by decide)))
      have n4_:=mk_ (IsS94.grown (u8_ HI0 NB0_139 NB0_140) hg (IsS94.own_ne HI0.out z1_.out (by decide)))
      have n5_:=mk_ (below_weaken (u9_ HB HI0 GE139 GE140) HL.out hb)
      have n6_:=mk_ (KeepBut.trans (u10_ HK GW139 GW140) (KeepBut.of_grown hg g) (Kd.R_base2 z1_.out))
      have n7_:=mk_ (ho)
      clear z0_
      clear z2_
      clear BK139
      clear BK140
      clear HI0
      clear HB
      clear HK
      clear z1_
      have z0_:=n0_
      have z2_:=n1_
      have BK139:=n2_
      have BK140:=n3_
      have HI0:=n4_
      have HB:=n5_
      have HK:=n6_
      have HO155:=n7_
      clear n0_ n1_ n2_ n3_ n4_ n5_ n6_ n7_
      clear ho hb hg hat
      obtain ⟨Ao25,co25,eo25⟩:=Kd.R_slice HO155.out
      (first|subst eo25|(injection eo25 with f1_ f2_ f3_;have f4_:=f1_.symm;have f5_:=f3_.symm;clear f1_ f2_ f3_;subst f4_;subst f5_))
      refine hK.out _ _ ⟨(bc_ BK140.out 0).trans rfl,(bc_ BK140.out 1).trans rfl,(bc_ BK140.out 2).trans rfl,(bc_ BK140.out 3).trans rfl⟩ (fun hHeld => ?_)
      clear hK K
      refine norm_ (a':=?_) ?_ ?_
      rotate_left
      ·show Act.put _ (some 30) _ = _
       simp only [Act.put,sx_,sy_,sz_,i64_w,i32_w]
       rfl
      refine pu_ (i:=7) (N:=some 31) 9 255 ?_
      refine last_ (i:=8) (N:=none) #[true,true,true,true,true,true,true,true,true] rfl rfl (one_of HT_.out (by kernel_rfl)) (by decide) (fun K hK => ?_)
      have hs26 : w24.cell? ⟨gb140,2,none⟩ = some (u141002):=(bc_ BK140.out 2).trans rfl
      have hfs26:=bf_ BK140.out 2
      have hns26_0:=NB139_140.out
      have hms26_0:=NB140_139.out
      refine skip_ (w1:=?_) (by rfl) rfl ?_ ?_
      rotate_left
      ·go_simp
       rfl
      refine hK.out _ _ ?_
      clear hK K
      refine done_ (done_of HT_.out (by kernel_rfl)) ?_
      try go_wp2
      have n0_ : Aside0 (Kd.R k83 83 (w24.setCell ⟨gb140,2,none⟩ (.slice Ao25 y153.length co25)) w.heap.size (fun _ => True) (.slice Ao11 t142.length co11) t142):=⟨by (with_reducible repeat (first|apply ra_|apply rn_|apply rd_));exact rm_ (rf_ (p:=⟨gb140,2,none⟩) (rt_ z0_.out BK140.out (by decide)) (λ_ h=>h.2) (.slice Ao25 y153.length co25)) (λ_ _=>trivial)⟩
      have n1_ : Aside0 (Kd.Q (Kd.int .i64) 3 (w24.setCell ⟨gb140,2,none⟩ (.slice Ao25 y153.length co25)) w.heap.size (fun k_ => some k_ ≠ (.slice Ao25 y153.length co25 : Value).ownBlock) u141003 z8_):=⟨by (with_reducible repeat (first|apply Kd.Q_alloc|apply Kd.Q_drewN|apply Kd.Q_drew));exact Kd.Q_mono (Kd.Q_far (p:=⟨gb140,2,none⟩) (Kd.Q_types z2_.out BK140.out (by decide)) (λ_ h=>h.2) (.slice Ao25 y153.length co25)) (fun _ hk => hk.1.2)⟩
      have n2_ : Aside0 (Kd.R (Kd.int .i64) 3 (w24.setCell ⟨gb140,2,none⟩ (.slice Ao25 y153.length co25)) w.heap.size (fun k_ => some k_ ≠ (u141003 : Value).ownBlock) (.slice Ao25 y153.length co25) y153):=⟨by (with_reducible repeat (first|apply ra_|apply rn_|apply rd_));exact rm_ (rf_ (p:=⟨gb140,2,none⟩) (rt_ HO155.out BK140.out (by decide)) (λ_ h=>h.2) (.slice Ao25 y153.length co25)) (fun _ hk => hk.1)⟩
      have n3_ : Aside0 ((w24.setCell ⟨gb140,2,none⟩ (.slice Ao25 y153.length co25)).heap[gb139]? = some (.cells #[.int .i64 0,.slice none 0 0,.slice none 0 0,.slice none 0 0] 26 (0,0))):=⟨by (with_reducible repeat (first|apply kn_|apply kd_|apply ka_));refine blk_far ?_ NB139_140.out _;(with_reducible repeat (first|apply kn_|apply kd_|apply ka_));exact BK139.out⟩
      have n4_ : Aside0 ((w24.setCell ⟨gb140,2,none⟩ (.slice Ao25 y153.length co25)).heap[gb140]? = some (.cells #[.int .i64 t141,.slice Ao11 t142.length co11,.slice Ao25 y153.length co25,u141003] 26 (0,0))):=⟨by (with_reducible repeat (first|apply kn_|apply kd_|apply ka_));refine blk_put (cs:=#[.int .i64 t141,.slice Ao11 t142.length co11,u141002,u141003]) ?_ 2 _ rfl;(with_reducible repeat (first|apply kn_|apply kd_|apply ka_));exact BK140.out⟩
      have n5_ : Aside0 (IsS94 w0 (w24.setCell ⟨gb140,2,none⟩ (.slice Ao25 y153.length co25)) g s0_0 t152):=⟨u8_ HI0 NB0_139 NB0_140⟩
      have n6_ : Aside0 (KeepBut w (w24.setCell ⟨gb140,2,none⟩ (.slice Ao25 y153.length co25)) g none):=⟨u10_ HK GW139 GW140⟩
      have n7_ : Aside0 (Below w0.heap.size w0 (w24.setCell ⟨gb140,2,none⟩ (.slice Ao25 y153.length co25))):=⟨u9_ HB HI0 GE139 GE140⟩
      (try clear z0_)
      (try clear z2_)
      (try clear HO155)
      (try clear BK139)
      (try clear BK140)
      (try clear HI0)
      (try clear HK)
      (try clear HB)
      generalize (w24.setCell ⟨gb140,2,none⟩ (.slice Ao25 y153.length co25)) = w27 at n0_ n1_ n2_ n3_ n4_ n5_ n6_ n7_ ⊢
      have z0_:=n0_
      have z2_:=n1_
      have HO155:=n2_
      have BK139:=n3_
      have BK140:=n4_
      have HI0:=n5_
      have HK:=n6_
      have HB:=n7_
      clear n0_ n1_ n2_ n3_ n4_ n5_ n6_ n7_
      have n0_:=mk_ (rd_ z0_.out)
      have n1_:=mk_ (Kd.Q_drew z2_.out)
      have n2_:=mk_ (rd_ HO155.out)
      have n3_:=mk_ (kd_ BK139.out)
      have n4_:=mk_ (kd_ BK140.out)
      have n5_:=mk_ (IsS94.drew HI0.out)
      have n6_:=mk_ (keep_drew HK.out)
      have n7_:=mk_ (bd_ HB.out)
      clear z0_
      clear z2_
      clear HO155
      clear BK139
      clear BK140
      clear HI0
      clear HK
      clear HB
      have z0_:=n0_
      have z2_:=n1_
      have HO155:=n2_
      have BK139:=n3_
      have BK140:=n4_
      have HI0:=n5_
      have HK:=n6_
      have HB:=n7_
      clear n0_ n1_ n2_ n3_ n4_ n5_ n6_ n7_
      refine start_ (n:=12) (S:=fun w' => w'.cell? ⟨gb140,0,none⟩ = some (.int .i64 t141) ∧ w'.cell? ⟨gb140,1,none⟩ = some (.slice Ao11 t142.length co11) ∧ w'.cell? ⟨gb140,2,none⟩ = some (.slice Ao25 y153.length co25) ∧ w'.cell? ⟨gb140,3,none⟩ = some (u141003)) (ds:=[11]) #[false,false,false,false,false,false,false,false,false,false,false,false] (by kernel_rfl) rfl rfl ⟨(bc_ BK140.out 0).trans rfl,(bc_ BK140.out 1).trans rfl,(bc_ BK140.out 2).trans rfl,(bc_ BK140.out 3).trans rfl⟩ (fun hHeld => ?_);refine with_tabW spec_l19Net.tab9 spec_l19Net.bits9 (fun HT_ HW_ => ?_)
      generalize w27.drew = w28 at z0_ z2_ HO155 BK139 BK140 HI0 HK HB hHeld ⊢
      refine pu_ (i:=0) (N:=some 32) 12 1 ?_
      refine pu_ (i:=2) (N:=some 34) 12 5 ?_
      refine pu_ (i:=3) (N:=some 35) 12 13 ?_
      refine ta4_ (i:=1) (N:=some 33) 12 15 hHeld ?_
      refine on_ (i:=4) (N:=some 36) 12 31 (fun K hK => ?_)
      refine Kd.R_lit_step (Kd.int .i64) _ 3 ?hg (N:=36) ?hd (xs:=([1,2,3] : List Int)) (inner:=[.int .i64 1,.int .i64 2,.int .i64 3]) (ok:=fun _ => True) (okp:=fun _ => True) ?hr ?hp (fun _ hk => hk) trivial (Below.refl _ _) (Nat.le_refl _) (by simp) ?_;(case hd => rfl);(case hg => rfl);(case hr => first|(go_simp;done)|(go_simp;rfl));(case hp => exact (Reps.one (show Kd.M (Kd.int .i64) _ _ _ 1 [.int .i64 1] from rfl) (Reps.one (show Kd.M (Kd.int .i64) _ _ _ 2 [.int .i64 2] from rfl) (Reps.one (show Kd.M (Kd.int .i64) _ _ _ 3 [.int .i64 3] from rfl) (Reps.none _ _)))))
      intro v157 w29 ho30 hb hg_ hnew_
      clear hg_ hnew_
      (first|rw [← Ny156.out] at ho30|(simp only [Int.reduceToNat] at ho30;rw [← Ny156.out] at ho30))
      have n0_:=mk_ (rb_ (qr_ z0_) hb)
      have n1_:=mk_ (Kd.Q_elder' (by (with_reducible repeat (first|apply Kd.Q_alloc|apply Kd.Q_drewN|apply Kd.Q_drew));exact z2_.out) (Kd.R_base ho30) hb)
      have n2_:=mk_ (re_ (qr_ HO155) (Kd.R_base ho30) hb)
      have n3_:=mk_ (Kd.R_lower (Kd.R_new' (Kd.R_new' ho30 (Kd.Q_lt (by (with_reducible repeat (first|apply Kd.Q_alloc|apply Kd.Q_drewN|apply Kd.Q_drew));exact z2_.out))) (Kd.R_lt (qr_ HO155))) (keep_size (w:=w) (g:=g) (row:=none) (u10_ HK GW139 GW140)))
      have n4_:=mk_ (blk_below (g:=gb139) (o:=.cells #[.int .i64 0,.slice none 0 0,.slice none 0 0,.slice none 0 0] 26 (0,0)) (qk_ BK139) hb)
      have n5_:=mk_ (blk_below (g:=gb140) (o:=.cells #[.int .i64 t141,.slice Ao11 t142.length co11,.slice Ao25 y153.length co25,u141003] 26 (0,0)) (qk_ BK140) hb)
      have n6_:=mk_ (IsS94.below (u8_ HI0 NB0_139 NB0_140) hb)
      have n7_:=mk_ (KeepBut.trans (u10_ HK GW139 GW140) (KeepBut.of_below hb g none) (.inl rfl))
      have n8_:=mk_ (st_ (u9_ HB HI0 GE139 GE140) hb)
      clear z0_
      clear z2_
      clear HO155
      clear BK139
      clear BK140
      clear HI0
      clear HK
      clear HB
      have z0_:=n0_
      have z2_:=n1_
      have HO155:=n2_
      have HO158:=n3_
      have BK139:=n4_
      have BK140:=n5_
      have HI0:=n6_
      have HK:=n7_
      have HB:=n8_
      clear n0_ n1_ n2_ n3_ n4_ n5_ n6_ n7_ n8_
      clear hb ho30
      obtain ⟨Ao31,co31,eo31⟩:=Kd.R_slice HO158.out
      (first|subst eo31|(injection eo31 with f1_ f2_ f3_;have f4_:=f1_.symm;have f5_:=f3_.symm;clear f1_ f2_ f3_;subst f4_;subst f5_))
      refine hK.out _ _ ⟨(bc_ BK140.out 0).trans rfl,(bc_ BK140.out 1).trans rfl,(bc_ BK140.out 2).trans rfl,(bc_ BK140.out 3).trans rfl⟩ (fun hHeld => ?_)
      clear hK K
      refine norm_ (a':=?_) ?_ ?_
      rotate_left
      ·show Act.put _ (some 36) _ = _
       simp only [Act.put,sx_,sy_,sz_,i64_w,i32_w]
       rfl
      refine on_ (i:=5) (N:=some 37) 12 63 (fun K hK => ?_)
      refine goes_ Try.func61 (by kernel_rfl) rfl #[.pointer (some ⟨g,0,none⟩),.slice Ao31 y156.length co31] (by rfl) rfl rfl qm_ ?_
      with_reducible refine (spec_l21Rd_num.calls k1 g s0_0 t152 _ _ y156 t159 t160 w0 _ ?side1 ?side2 ?side3 ?side4 ?side5 A19.out).mono ?_
      (case side1 => exact u8_ HI0 NB0_139 NB0_140)
      (case side2 => exact u9_ HB HI0 GE139 GE140)
      (case side3 => repeat (first|exact (rr_ HO158.out).2.2|(with_reducible refine ca_ ?_ _)|(with_reducible refine cn_ ?_ _)|(with_reducible refine cd_ ?_)))
      (case side4 => exact (rr_ HO158.out).2.1)
      (case side5 => exact far_slice (IsS94.own_ne HI0.out HO158.out (by decide)))
      rintro e w32 ⟨rfl,hi,hb,hk⟩
      refine ⟨_,rfl,?_⟩
      have n0_:=mk_ (rm_ (Kd.R_keep (IsS94.apart (show IsS94 w0 _ g s0_0 t152 from u8_ HI0 NB0_139 NB0_140) (qr_ z0_) (by decide)) hk (fun _ h => h.2)) (fun _ h => h.1))
      have n1_:=mk_ (Kd.Q_mono (Kd.Q_keep (IsS94.apartQ (show IsS94 w0 _ g s0_0 t152 from u8_ HI0 NB0_139 NB0_140) (by (with_reducible repeat (first|apply Kd.Q_alloc|apply Kd.Q_drewN|apply Kd.Q_drew));exact z2_.out) (by decide)) hk (fun _ h => h.2)) (fun _ h => h.1))
      have n2_:=mk_ (KeepBut.blk hk (g':=gb139) (o:=.cells #[.int .i64 0,.slice none 0 0,.slice none 0 0,.slice none 0 0] 26 (0,0)) (qk_ BK139) NB139_0.out (by simp))
      have n3_:=mk_ (KeepBut.blk hk (g':=gb140) (o:=.cells #[.int .i64 t141,.slice Ao11 t142.length co11,.slice Ao25 y153.length co25,u141003] 26 (0,0)) (qk_ BK140) NB140_0.out (by simp))
      have n4_:=mk_ (rm_ (Kd.R_keep (IsS94.apart (show IsS94 w0 _ g s0_0 t152 from u8_ HI0 NB0_139 NB0_140) (qr_ HO155) (by decide)) hk (fun _ h => h.2)) (fun _ h => h.1))
      have n5_:=mk_ (rm_ (Kd.R_keep (IsS94.apart (show IsS94 w0 _ g s0_0 t152 from u8_ HI0 NB0_139 NB0_140) (qr_ HO158) (by decide)) hk (fun _ h => h.2)) (fun _ h => h.1))
      have n6_:=mk_ (KeepBut.trans (u10_ HK GW139 GW140) hk (.inl rfl))
      have n7_:=mk_ (hb)
      have n8_:=mk_ (hi)
      clear z0_
      clear z2_
      clear BK139
      clear BK140
      clear HO155
      clear HO158
      clear HK
      clear HB
      clear HI0
      have z0_:=n0_
      have z2_:=n1_
      have BK139:=n2_
      have BK140:=n3_
      have HO155:=n4_
      have HO158:=n5_
      have HK:=n6_
      have HB:=n7_
      have HI0:=n8_
      clear n0_ n1_ n2_ n3_ n4_ n5_ n6_ n7_ n8_
      (try clear hb)
      (try clear hb2)
      (try clear hk)
      (try clear hi)
      refine hK.out _ _ ⟨(bc_ BK140.out 0).trans rfl,(bc_ BK140.out 1).trans rfl,(bc_ BK140.out 2).trans rfl,(bc_ BK140.out 3).trans rfl⟩ (fun hHeld => ?_)
      clear hK K
      refine norm_ (a':=?_) ?_ ?_
      rotate_left
      ·show Act.put _ (some 37) _ = _
       simp only [Act.put,sx_,sy_,sz_,i64_w,i32_w]
       rfl
      refine on_ (i:=6) (N:=some 38) 12 127 (fun K hK => ?_)
      refine goes_ Try.func62 (by kernel_rfl) rfl #[.pointer (some ⟨g,0,none⟩),.int .i64 t159] (by rfl) rfl rfl qm_ ?_
      with_reducible refine (spec_l21Rd_pick.calls k1 g s0_0 t160 t159 t161 t162 w0 _ ?side1 ?side2 A20.out).mono ?_
      (case side1 => exact u8_ HI0 NB0_139 NB0_140)
      (case side2 => exact u9_ HB HI0 GE139 GE140)
      rintro e w33 ⟨rfl,hi,hb,hk⟩
      refine ⟨_,rfl,?_⟩
      have n0_:=mk_ (rm_ (Kd.R_keep (IsS94.apart (show IsS94 w0 _ g s0_0 t160 from u8_ HI0 NB0_139 NB0_140) (qr_ z0_) (by decide)) hk (fun _ h => h.2)) (fun _ h => h.1))
      have n1_:=mk_ (Kd.Q_mono (Kd.Q_keep (IsS94.apartQ (show IsS94 w0 _ g s0_0 t160 from u8_ HI0 NB0_139 NB0_140) (by (with_reducible repeat (first|apply Kd.Q_alloc|apply Kd.Q_drewN|apply Kd.Q_drew));exact z2_.out) (by decide)) hk (fun _ h => h.2)) (fun _ h => h.1))
      have n2_:=mk_ (KeepBut.blk hk (g':=gb139) (o:=.cells #[.int .i64 0,.slice none 0 0,.slice none 0 0,.slice none 0 0] 26 (0,0)) (qk_ BK139) NB139_0.out (by simp))
      have n3_:=mk_ (KeepBut.blk hk (g':=gb140) (o:=.cells #[.int .i64 t141,.slice Ao11 t142.length co11,.slice Ao25 y153.length co25,u141003] 26 (0,0)) (qk_ BK140) NB140_0.out (by simp))
      have n4_:=mk_ (rm_ (Kd.R_keep (IsS94.apart (show IsS94 w0 _ g s0_0 t160 from u8_ HI0 NB0_139 NB0_140) (qr_ HO155) (by decide)) hk (fun _ h => h.2)) (fun _ h => h.1))
      have n5_:=mk_ (rm_ (Kd.R_keep (IsS94.apart (show IsS94 w0 _ g s0_0 t160 from u8_ HI0 NB0_139 NB0_140) (qr_ HO158) (by decide)) hk (fun _ h => h.2)) (fun _ h => h.1))
      have n6_:=mk_ (KeepBut.trans (u10_ HK GW139 GW140) hk (.inl rfl))
      have n7_:=mk_ (hb)
      have n8_:=mk_ (hi)
      clear z0_
      clear z2_
      clear BK139
      clear BK140
      clear HO155
      clear HO158
      clear HK
      clear HB
      clear HI0
      have z0_:=n0_
      have z2_:=n1_
      have BK139:=n2_
      have BK140:=n3_
      have HO155:=n4_
      have HO158:=n5_
      have HK:=n6_
      have HB:=n7_
      have HI0:=n8_
      clear n0_ n1_ n2_ n3_ n4_ n5_ n6_ n7_ n8_
      (try clear hb)
      (try clear hb2)
      (try clear hk)
      (try clear hi)
      refine hK.out _ _ ⟨(bc_ BK140.out 0).trans rfl,(bc_ BK140.out 1).trans rfl,(bc_ BK140.out 2).trans rfl,(bc_ BK140.out 3).trans rfl⟩ (fun hHeld => ?_)
      clear hK K
      refine norm_ (a':=?_) ?_ ?_
      rotate_left
      ·show Act.put _ (some 38) _ = _
       simp only [Act.put,sx_,sy_,sz_,i64_w,i32_w]
       rfl
      refine pu_ (i:=7) (N:=some 39) 12 255 ?_
      refine on_ (i:=8) (N:=some 40) 12 511 (fun K hK => ?_)
      refine value_ (w1:=?_) (v:=?_) (by rfl) rfl ?_ ?_
      rotate_left 2
      ·go_simp
       constructor
       ·rfl
       ·rfl
      refine hK.out _ _ ⟨(bc_ (ka_ BK140.out _) 0).trans rfl,(bc_ (ka_ BK140.out _) 1).trans rfl,(bc_ (ka_ BK140.out _) 2).trans rfl,(bc_ (ka_ BK140.out _) 3).trans rfl⟩ (fun hHeld => ?_)
      clear hK K
      refine norm_ (a':=?_) ?_ ?_
      rotate_left
      ·show Act.put _ (some 40) _ = _
       simp only [Act.put,sx_,sy_,sz_,i64_w,i32_w]
       rfl
      refine on_ (i:=9) (N:=some 41) 12 1023 (fun K hK => ?_)
      refine Kd.Q_append_step (Kd.int .i64) w.heap.size (by rfl) (.tmp 33) (.tmp 40) 24 3 (.int .i64 0) 8 rfl Try.underlying24 info3 rfl (by decide) (by omega) u141003 z8_ (wrap64 (1 + t161)) [.int .i64 (wrap64 (1 + t161))] (fun k_ => some k_ ≠ (.slice Ao25 y153.length co25 : Value).ownBlock ∧ some k_ ≠ (.slice Ao31 y156.length co31 : Value).ownBlock) (fun _ => False) rfl rfl ?aP (fun _ hk => hk.elim) ?aF ?aO (Below.refl _ _) ?aS ?aL ?_
      (case aP => exact rfl)
      (case aF => exact (fun k_ hk => ⟨Kd.fresh' (Kd.R_lt (qr_ HO155)) k_ hk,Kd.fresh' (Kd.R_lt (qr_ HO158)) k_ hk⟩))
      (case aO => exact (by (with_reducible repeat (first|apply Kd.Q_alloc|apply Kd.Q_drewN|apply Kd.Q_drew));exact z2_.out))
      (case aS => exact (keep_size (w:=w) (g:=g) (row:=none) (u10_ HK GW139 GW140)))
      (case aL => have:=LMc21.out;omega)
      intro v164 w34 ho hb hg hat
      rw [← Ny163.out] at ho
      have n0_:=mk_ (Kd.R_over' (qr_ z0_) (Kd.Q_typed (by (with_reducible repeat (first|apply Kd.Q_alloc|apply Kd.Q_drewN|apply Kd.Q_drew));exact z2_.out)) (by decide) hg)
      have n1_:=mk_ (blk_grown (g:=gb139) (o:=.cells #[.int .i64 0,.slice none 0 0,.slice none 0 0,.slice none 0 0] 26 (0,0)) (qk_ BK139) hg (Kd.Q_ne z2_.out BK139.out (by decide)))
      have n2_:=mk_ (blk_grown (g:=gb140) (o:=.cells #[.int .i64 t141,.slice Ao11 t142.length co11,.slice Ao25 y153.length co25,u141003] 26 (0,0)) (qk_ BK140) hg (Kd.Q_ne z2_.out BK140.out (by decide)))
      have n3_:=mk_ (IsS94.grown (u8_ HI0 NB0_139 NB0_140) hg (IsS94.own_neQ HI0.out z2_.out (by decide)))
      have n4_:=mk_ (Kd.R_after (ok:=(fun k_ => some k_ ≠ (.slice Ao31 y156.length co31 : Value).ownBlock)) (by (with_reducible repeat (first|apply ra_|apply rn_|apply rd_));exact rm_ HO155.out (fun _ hk => ⟨hk.2,hk.1⟩)) hg hat)
      have n5_:=mk_ (Kd.R_after (ok:=(fun k_ => some k_ ≠ (.slice Ao25 y153.length co25 : Value).ownBlock)) (by (with_reducible repeat (first|apply ra_|apply rn_|apply rd_));exact rm_ HO158.out (fun _ hk => ⟨hk.2,hk.1.2⟩)) hg hat)
      have n6_:=mk_ (below_weaken (u9_ HB HI0 GE139 GE140) HL.out hb)
      have n7_:=mk_ (KeepBut.trans (u10_ HK GW139 GW140) (KeepBut.of_grown hg g) (Kd.Q_base2 z2_.out))
      have n8_:=mk_ (ho)
      clear z0_
      clear BK139
      clear BK140
      clear HI0
      clear HO155
      clear HO158
      clear HB
      clear HK
      clear z2_
      have z0_:=n0_
      have BK139:=n1_
      have BK140:=n2_
      have HI0:=n3_
      have HO155:=n4_
      have HO158:=n5_
      have HB:=n6_
      have HK:=n7_
      have HO165:=n8_
      clear n0_ n1_ n2_ n3_ n4_ n5_ n6_ n7_ n8_
      clear ho hb hg hat
      obtain ⟨Ao35,co35,eo35,_⟩:=Kd.Q_slice HO165.out
      (first|subst eo35|(injection eo35 with f1_ f2_ f3_;have f4_:=f1_.symm;have f5_:=f3_.symm;clear f1_ f2_ f3_;subst f4_;subst f5_))
      refine hK.out _ _ ⟨(bc_ BK140.out 0).trans rfl,(bc_ BK140.out 1).trans rfl,(bc_ BK140.out 2).trans rfl,(bc_ BK140.out 3).trans rfl⟩ (fun hHeld => ?_)
      clear hK K
      refine norm_ (a':=?_) ?_ ?_
      rotate_left
      ·show Act.put _ (some 41) _ = _
       simp only [Act.put,sx_,sy_,sz_,i64_w,i32_w]
       rfl
      refine pu_ (i:=10) (N:=some 42) 12 2047 ?_
      refine last_ (i:=11) (N:=none) #[true,true,true,true,true,true,true,true,true,true,true,true] rfl rfl (one_of HT_.out (by kernel_rfl)) (by decide) (fun K hK => ?_)
      have hs36 : w34.cell? ⟨gb140,3,none⟩ = some (u141003):=(bc_ BK140.out 3).trans rfl
      have hfs36:=bf_ BK140.out 3
      have hns36_0:=NB139_140.out
      have hms36_0:=NB140_139.out
      refine skip_ (w1:=?_) (by rfl) rfl ?_ ?_
      rotate_left
      ·go_simp
       rfl
      refine hK.out _ _ ?_
      clear hK K
      refine done_ (done_of HT_.out (by kernel_rfl)) ?_
      try go_wp2
      go_roundg k1
      case measure => have:=HK1.out;omega
      case rel => exact ⟨(wrap64 (x6_1 - 1)),(t162),(y153),(y163),(.slice Ao25 y153.length co25),(.slice Ao35 y163.length co35),qf_,H',⟨by have:=HK1.out;omega⟩,⟨by (with_reducible repeat (first|apply ra_|apply rn_|apply rd_));exact rm_ (rf_ (p:=⟨gb140,3,none⟩) (rt_ z0_.out BK140.out (by decide)) (λ_ h=>h.2) (.slice Ao35 y163.length co35)) (λ_ _=>trivial)⟩,⟨by (with_reducible repeat (first|apply ra_|apply rn_|apply rd_));exact rm_ (rf_ (p:=⟨gb140,3,none⟩) (rt_ HO155.out BK140.out (by decide)) (λ_ h=>h.2) (.slice Ao35 y163.length co35)) (fun _ hk => hk.1.2)⟩,⟨by (with_reducible repeat (first|apply Kd.Q_alloc|apply Kd.Q_drewN|apply Kd.Q_drew));exact Kd.Q_mono (Kd.Q_far (p:=⟨gb140,3,none⟩) (Kd.Q_types HO165.out BK140.out (by decide)) (λ_ h=>h.2) (.slice Ao35 y163.length co35)) (fun _ hk => hk.1.1)⟩,⟨by (with_reducible repeat (first|apply kn_|apply kd_|apply ka_));refine blk_far ?_ NB139_140.out _;(with_reducible repeat (first|apply kn_|apply kd_|apply ka_));exact BK139.out⟩,⟨by (with_reducible repeat (first|apply kn_|apply kd_|apply ka_));refine blk_put (cs:=#[.int .i64 t141,.slice Ao11 t142.length co11,.slice Ao25 y153.length co25,u141003]) ?_ 3 _ rfl;(with_reducible repeat (first|apply kn_|apply kd_|apply ka_));exact BK140.out⟩,⟨u8_ HI0 NB0_139 NB0_140⟩,⟨u10_ HK GW139 GW140⟩,⟨u9_ HB HI0 GE139 GE140⟩⟩
     ·rw [if_neg c21] at H
      exact absurd H (by simp)
    ·rw [if_neg c18] at H
     exact absurd H (by simp)
   ·rw [if_neg c16] at H
    have c16b0 : decide (0 < x6_1) = false:=decide_eq_false c16
    clear c16
    replace H:=Option.bind_eq_some_iff.mp H
    obtain ⟨⟨t166,t167⟩,A370,H⟩:=H
    replace H : (if t166 = 0 then (if 0 < (z6_.length : Int) then (some (t141,t142,(z6_.set (0 : Int).toNat t141),z8_,t167)) else (none)) else (if t166 = 1 then (if 0 < (z8_.length : Int) then (some (t141,t142,z6_,(z8_.set (0 : Int).toNat 0),t167)) else (none)) else (if t166 = 2 then (if 1 ≤ (z8_.length : Int) then (some (t141,t142,z6_,(z8_.drop (1 : Int).toNat),t167)) else (none)) else (if t166 = 3 then (some (9,t142,z6_,z8_,t167)) else (some (t141,t142,z6_,z8_,t167)))))) = some (r1,r2,r3,r4,r5):=H
    have A37:=mk_ A370
    clear A370
    by_cases c38 : t166 = 0
    ·rw [if_pos c38] at H
     have c38b0 : (t166 == 0) = true:=beq_iff_eq.mpr c38
     have c38b1 : (t166 != 0) = false:=bne_eq_false_iff_eq.mpr c38
     clear c38
     by_cases c39 : 0 < (z6_.length : Int)
     ·rw [if_pos c39] at H
      have c39b0 : decide (0 < (z6_.length : Int)) = true:=decide_eq_true c39
      have c39b1 : decide (0 < z6_.length) = true:=decide_eq_true (by omega)
      clear c39
      obtain ⟨y168,hy168⟩ : ∃ y_ : List Int,y_ = (z6_.set (0 : Int).toNat t141):=⟨_,rfl⟩
      replace H : (some (t141,t142,y168,z8_,t167)) = some (r1,r2,r3,r4,r5):=by first|(rw [hy168];with_reducible exact H)|(have H2_:=(Option.bind_some _ _).symm.trans H;rw [hy168];with_reducible exact H2_)|(have H2_:=(Option.bind_some _ _).symm.trans H;with_reducible exact H2_)|with_reducible exact H|(rw [hy168];exact H)|exact H
      have Ny168:=mk_ hy168
      clear hy168
      simp only [Option.some.injEq,Prod.mk.injEq] at H
      obtain ⟨rfl,rfl,rfl,rfl,rfl⟩:=H
      go_wp2_with (first|((with_reducible refine gate_callee (f:=62) rfl ?_);refine goesL_ (some 44) rfl rfl Try.func62 (by kernel_rfl) rfl #[.pointer (some ⟨g,0,none⟩),.int .i64 80] rfl qm_ ?_;(with_reducible refine (spec_l21Rd_pick.calls k1 g s0_0 x1001_1 80 t166 t167 w0 _ ?side1 ?side2 A37.out).mono ?_);(case side1 => exact u8_ HI0 NB0_139 NB0_140);(case side2 => exact u9_ HB HI0 GE139 GE140);rintro e w41 ⟨rfl,hi,hb,hk⟩;refine ⟨_,rfl,?_⟩;have n0_:=mk_ (rm_ (Kd.R_keep (IsS94.apart (show IsS94 w0 _ g s0_0 x1001_1 from u8_ HI0 NB0_139 NB0_140) (qr_ z0_) (by decide)) hk (fun _ h => h.2)) (fun _ h => h.1));have n1_:=mk_ (rm_ (Kd.R_keep (IsS94.apart (show IsS94 w0 _ g s0_0 x1001_1 from u8_ HI0 NB0_139 NB0_140) (qr_ z1_) (by decide)) hk (fun _ h => h.2)) (fun _ h => h.1));have n2_:=mk_ (Kd.Q_mono (Kd.Q_keep (IsS94.apartQ (show IsS94 w0 _ g s0_0 x1001_1 from u8_ HI0 NB0_139 NB0_140) (by (with_reducible repeat (first|apply Kd.Q_alloc|apply Kd.Q_drewN|apply Kd.Q_drew));exact z2_.out) (by decide)) hk (fun _ h => h.2)) (fun _ h => h.1));have n3_:=mk_ (KeepBut.blk hk (g':=gb139) (o:=.cells #[.int .i64 0,.slice none 0 0,.slice none 0 0,.slice none 0 0] 26 (0,0)) (qk_ BK139) NB139_0.out (by simp));have n4_:=mk_ (KeepBut.blk hk (g':=gb140) (o:=.cells #[.int .i64 t141,.slice Ao11 t142.length co11,u141002,u141003] 26 (0,0)) (qk_ BK140) NB140_0.out (by simp));have n5_:=mk_ (KeepBut.trans (u10_ HK GW139 GW140) hk (.inl rfl));have n6_:=mk_ (hb);have n7_:=mk_ (hi);clear z0_ z1_ z2_ BK139 BK140 HK HB HI0;have z0_:=n0_;have z1_:=n1_;have z2_:=n2_;have BK139:=n3_;have BK140:=n4_;have HK:=n5_;have HB:=n6_;have HI0:=n7_;clear n0_ n1_ n2_ n3_ n4_ n5_ n6_ n7_;(try clear hb);(try clear hb2);(try clear hk);(try clear hi);have hnb42:=NB140_139.out;have hnc42:=NB139_140.out;have hnb43:=NB140_0.out;have hnc43:=NB0_140.out;have hcz44_0 : w41.cell? ⟨gb140,0,none⟩ = some (.int .i64 t141):=(bc_ BK140.out 0).trans rfl;have hcz44_1 : w41.cell? ⟨gb140,1,none⟩ = some (.slice Ao11 t142.length co11):=(bc_ BK140.out 1).trans rfl;have hcz44_2 : w41.cell? ⟨gb140,2,none⟩ = some (u141002):=(bc_ BK140.out 2).trans rfl;have hcz44_3 : w41.cell? ⟨gb140,3,none⟩ = some (u141003):=(bc_ BK140.out 3).trans rfl;have hfz44_0:=bf_ BK140.out 0;have hfz44_1:=bf_ BK140.out 1;have hfz44_2:=bf_ BK140.out 2;have hfz44_3:=bf_ BK140.out 3;have p40 : 0 ≤ (0 : Int):=(by omega);have q40 : (0 : Int) < ((z6_.length : Int) : Int):=od_ qa_;have qi40 : (0 < z6_.length) = True:=eq_true (by omega);obtain ⟨go40,co40,eo40,gb40,gl40,cl40,HG40⟩:=Kd.R_form z1_.out (by omega);(first|cases eo40|(injection eo40 with ea_ en_ ec_;(first|subst ea_|(injection ea_ with ea_;subst ea_));subst ec_;clear en_));have GB40:=mk_ gb40;have GG40:=mk_ HG40;clear gb40 gl40 HG40;obtain ⟨hx40_0,hf40_0⟩:=Kd.R_celln 0 z1_.out (0 : Int) p40 q40;(try rw [show ((0 : Int)).toNat = 0 from rfl] at hx40_0);(try simp only [Nat.reduceMul,Nat.zero_mul,Nat.zero_add,Nat.add_zero,Nat.reduceAdd] at hx40_0);(try rw [show ((0 : Int)).toNat = 0 from rfl] at hf40_0);(try simp only [Nat.reduceMul,Nat.zero_mul,Nat.zero_add,Nat.add_zero,Nat.reduceAdd] at hf40_0);replace p40:=eq_true p40;replace q40:=eq_true q40;obtain ⟨hy45_,hz45_⟩:=Kd.R_celln 0 z1_.out (0 : Int) (by omega) (od_ qa_);(try simp only [Int.reduceToNat,Int.toNat_zero,Int.toNat_ofNat,Nat.reduceMul,Nat.zero_mul,Nat.zero_add,Nat.add_zero] at hy45_ hz45_);(try rw [show ((0 : Int)).toNat = 0 from rfl] at hy45_);(try rw [show ((0 : Int)).toNat = 0 from rfl] at hz45_);have HP45:=Kd.R_putg z1_.out (0 : Int) t141)|((with_reducible refine gate_store (t:=3) (p:=50) rfl ?_);refine store_event (t:=3) (p:=50) (v:=?vo_w46) (w1:=(w41.setCell ⟨go40,(0 : Int).toNat,none⟩ (.int .i64 t141))) ?hg ?ho ?hn ?hr ?_;(case ho => rfl);(case hg => rfl);(case hn => rfl);(case hr => first|(go_simp;done)|(go_simp;rfl));intro w46 hw;have hg : w41.grownBy w46 (some go40):=(by rw [hw];exact HP45.2);have hp_ : Kd.R (Kd.int .i64) 3 w46 w.heap.size (fun k_ => some k_ ≠ (u141003 : Value).ownBlock) (.slice (some ⟨go40,0,none⟩) z6_.length co40) y168:=(by rw [hw,Ny168.out];exact HP45.1);clear HP45;have n0_:=mk_ (Kd.R_over' (v:=(.slice (some ⟨go40,0,none⟩) z6_.length co40)) (qr_ z0_) (Kd.R_typed z1_.out) (by decide) hg);have n1_:=mk_ (hp_);have n2_:=mk_ (Kd.Q_after (v:=(.slice (some ⟨go40,0,none⟩) z6_.length co40)) (v1:=(.slice (some ⟨go40,0,none⟩) z6_.length co40)) (ok:=(fun _ => True)) (by (with_reducible repeat (first|apply Kd.Q_alloc|apply Kd.Q_drewN|apply Kd.Q_drew));exact Kd.Q_mono z2_.out (fun _ hk => ⟨trivial,hk⟩)) hg (.inl rfl));have n3_:=mk_ (blk_grown (g:=gb139) (o:=.cells #[.int .i64 0,.slice none 0 0,.slice none 0 0,.slice none 0 0] 26 (0,0)) (qk_ BK139) hg (Kd.R_ne z1_.out BK139.out (by decide)));have n4_:=mk_ (blk_grown (g:=gb140) (o:=.cells #[.int .i64 t141,.slice Ao11 t142.length co11,.slice (some ⟨go40,0,none⟩) z6_.length co40,u141003] 26 (0,0)) (qk_ BK140) hg (Kd.R_ne z1_.out BK140.out (by decide)));have n5_:=mk_ (IsS94.grown (u8_ HI0 NB0_139 NB0_140) hg (IsS94.own_ne HI0.out z1_.out (by decide)));have n6_:=mk_ ((by rw [hw];exact bs_ (HB.out) (Nat.le_trans HL.out GB40.out) : Below w0.heap.size w0 w46));have n7_:=mk_ (KeepBut.trans (u10_ HK GW139 GW140) (KeepBut.of_grown hg g) (Kd.R_base2 z1_.out));clear z0_ z1_ z2_ BK139 BK140 HI0 HB HK;have z0_:=n0_;have z1_:=n1_;have z2_:=n2_;have BK139:=n3_;have BK140:=n4_;have HI0:=n5_;have HB:=n6_;have HK:=n7_;clear n0_ n1_ n2_ n3_ n4_ n5_ n6_ n7_ hg hw hp_;have hcz47_0 : w46.cell? ⟨gb140,0,none⟩ = some (.int .i64 t141):=(bc_ BK140.out 0).trans rfl;have hcz47_1 : w46.cell? ⟨gb140,1,none⟩ = some (.slice Ao11 t142.length co11):=(bc_ BK140.out 1).trans rfl;have hcz47_2 : w46.cell? ⟨gb140,2,none⟩ = some (.slice (some ⟨go40,0,none⟩) z6_.length co40):=(bc_ BK140.out 2).trans rfl;have hcz47_3 : w46.cell? ⟨gb140,3,none⟩ = some (u141003):=(bc_ BK140.out 3).trans rfl;have hfz47_0:=bf_ BK140.out 0;have hfz47_1:=bf_ BK140.out 1;have hfz47_2:=bf_ BK140.out 2;have hfz47_3:=bf_ BK140.out 3;have hnb48:=NB139_0.out;have hnc48:=NB0_139.out;have hcz49_0 : w46.cell? ⟨gb139,0,none⟩ = some (.int .i64 0):=(bc_ BK139.out 0).trans rfl;have hcz49_1 : w46.cell? ⟨gb139,1,none⟩ = some (.slice none 0 0):=(bc_ BK139.out 1).trans rfl;have hcz49_2 : w46.cell? ⟨gb139,2,none⟩ = some (.slice none 0 0):=(bc_ BK139.out 2).trans rfl;have hcz49_3 : w46.cell? ⟨gb139,3,none⟩ = some (.slice none 0 0):=(bc_ BK139.out 3).trans rfl;have hfz49_0:=bf_ BK139.out 0;have hfz49_1:=bf_ BK139.out 1;have hfz49_2:=bf_ BK139.out 2;have hfz49_3:=bf_ BK139.out 3;obtain ⟨Ao50,co50,eo50,_⟩:=Kd.Q_slice z2_.out;subst eo50))
      refine bodyPost_ret (results_cell_row rfl _ _ gb139 26 #[.int .i64 t141,.slice Ao11 t142.length co11,.slice (some ⟨go40,0,none⟩) z6_.length co40,.slice Ao50 z8_.length co50] (0,0) _ rfl (by (with_reducible repeat (first|apply kn_|apply kd_|apply ka_));refine blk_put (cs:=#[.int .i64 t141,.slice Ao11 t142.length co11,.slice (some ⟨go40,0,none⟩) z6_.length co40,.slice none 0 0]) ?_ 3 _ rfl;(with_reducible repeat (first|apply kn_|apply kd_|apply ka_));refine blk_put (cs:=#[.int .i64 t141,.slice Ao11 t142.length co11,.slice none 0 0,.slice none 0 0]) ?_ 2 _ rfl;(with_reducible repeat (first|apply kn_|apply kd_|apply ka_));refine blk_put (cs:=#[.int .i64 t141,.slice none 0 0,.slice none 0 0,.slice none 0 0]) ?_ 1 _ rfl;(with_reducible repeat (first|apply kn_|apply kd_|apply ka_));refine blk_put (cs:=#[.int .i64 0,.slice none 0 0,.slice none 0 0,.slice none 0 0]) ?_ 0 _ rfl;(with_reducible repeat (first|apply kn_|apply kd_|apply ka_));exact BK139.out) Try.underlying26 rfl (by kernel_rfl)) rfl ?_
      exact ⟨_,_,_,qe_,by (with_reducible repeat (first|apply ra_|apply rn_|apply rd_));exact rm_ (rf_ (p:=⟨gb139,3,none⟩) (rf_ (p:=⟨gb139,2,none⟩) (rf_ (p:=⟨gb139,1,none⟩) (rf_ (p:=⟨gb139,0,none⟩) (rt_ z0_.out BK139.out (by decide)) (λ_ h=>h.2) (.int .i64 t141)) (λ_ h=>h.2) (.slice Ao11 t142.length co11)) (λ_ h=>h.2) (.slice (some ⟨go40,0,none⟩) z6_.length co40)) (λ_ h=>h.2) (.slice Ao50 z8_.length co50)) (λ_ _=>trivial),by (with_reducible repeat (first|apply ra_|apply rn_|apply rd_));exact rm_ (rf_ (p:=⟨gb139,3,none⟩) (rf_ (p:=⟨gb139,2,none⟩) (rf_ (p:=⟨gb139,1,none⟩) (rf_ (p:=⟨gb139,0,none⟩) (rt_ z1_.out BK139.out (by decide)) (λ_ h=>h.2) (.int .i64 t141)) (λ_ h=>h.2) (.slice Ao11 t142.length co11)) (λ_ h=>h.2) (.slice (some ⟨go40,0,none⟩) z6_.length co40)) (λ_ h=>h.2) (.slice Ao50 z8_.length co50)) (fun _ hk => hk.1),by (with_reducible repeat (first|apply Kd.Q_alloc|apply Kd.Q_drewN|apply Kd.Q_drew));exact Kd.Q_mono (Kd.Q_far (p:=⟨gb139,3,none⟩) (Kd.Q_far (p:=⟨gb139,2,none⟩) (Kd.Q_far (p:=⟨gb139,1,none⟩) (Kd.Q_far (p:=⟨gb139,0,none⟩) (Kd.Q_types z2_.out BK139.out (by decide)) (λ_ h=>h.2) (.int .i64 t141)) (λ_ h=>h.2) (.slice Ao11 t142.length co11)) (λ_ h=>h.2) (.slice (some ⟨go40,0,none⟩) z6_.length co40)) (λ_ h=>h.2) (.slice Ao50 z8_.length co50)) (fun _ hk => hk.1.2),u8_ HI0 NB0_139 NB0_140,u9_ HB HI0 GE139 GE140,u10_ HK GW139 GW140⟩
     ·rw [if_neg c39] at H
      exact absurd H (by simp)
    ·rw [if_neg c38] at H
     have c38b0 : (t166 == 0) = false:=beq_eq_false_iff_ne.mpr c38
     have c38b1 : (t166 != 0) = true:=bne_iff_ne.mpr c38
     by_cases c51 : t166 = 1
     ·rw [if_pos c51] at H
      have c51b0 : (t166 == 1) = true:=beq_iff_eq.mpr c51
      have c51b1 : (t166 != 1) = false:=bne_eq_false_iff_eq.mpr c51
      clear c51
      by_cases c52 : 0 < (z8_.length : Int)
      ·rw [if_pos c52] at H
       have c52b0 : decide (0 < (z8_.length : Int)) = true:=decide_eq_true c52
       have c52b1 : decide (0 < z8_.length) = true:=decide_eq_true (by omega)
       clear c52
       obtain ⟨y169,hy169⟩ : ∃ y_ : List Int,y_ = (z8_.set (0 : Int).toNat 0):=⟨_,rfl⟩
       replace H : (some (t141,t142,z6_,y169,t167)) = some (r1,r2,r3,r4,r5):=by first|(rw [hy169];with_reducible exact H)|(have H2_:=(Option.bind_some _ _).symm.trans H;rw [hy169];with_reducible exact H2_)|(have H2_:=(Option.bind_some _ _).symm.trans H;with_reducible exact H2_)|with_reducible exact H|(rw [hy169];exact H)|exact H
       have Ny169:=mk_ hy169
       clear hy169
       simp only [Option.some.injEq,Prod.mk.injEq] at H
       obtain ⟨rfl,rfl,rfl,rfl,rfl⟩:=H
       go_wp2_with (first|((with_reducible refine gate_callee (f:=62) rfl ?_);refine goesL_ (some 44) rfl rfl Try.func62 (by kernel_rfl) rfl #[.pointer (some ⟨g,0,none⟩),.int .i64 80] rfl qm_ ?_;(with_reducible refine (spec_l21Rd_pick.calls k1 g s0_0 x1001_1 80 t166 t167 w0 _ ?side1 ?side2 A37.out).mono ?_);(case side1 => exact u8_ HI0 NB0_139 NB0_140);(case side2 => exact u9_ HB HI0 GE139 GE140);rintro e w54 ⟨rfl,hi,hb,hk⟩;refine ⟨_,rfl,?_⟩;have n0_:=mk_ (rm_ (Kd.R_keep (IsS94.apart (show IsS94 w0 _ g s0_0 x1001_1 from u8_ HI0 NB0_139 NB0_140) (qr_ z0_) (by decide)) hk (fun _ h => h.2)) (fun _ h => h.1));have n1_:=mk_ (rm_ (Kd.R_keep (IsS94.apart (show IsS94 w0 _ g s0_0 x1001_1 from u8_ HI0 NB0_139 NB0_140) (qr_ z1_) (by decide)) hk (fun _ h => h.2)) (fun _ h => h.1));have n2_:=mk_ (Kd.Q_mono (Kd.Q_keep (IsS94.apartQ (show IsS94 w0 _ g s0_0 x1001_1 from u8_ HI0 NB0_139 NB0_140) (by (with_reducible repeat (first|apply Kd.Q_alloc|apply Kd.Q_drewN|apply Kd.Q_drew));exact z2_.out) (by decide)) hk (fun _ h => h.2)) (fun _ h => h.1));have n3_:=mk_ (KeepBut.blk hk (g':=gb139) (o:=.cells #[.int .i64 0,.slice none 0 0,.slice none 0 0,.slice none 0 0] 26 (0,0)) (qk_ BK139) NB139_0.out (by simp));have n4_:=mk_ (KeepBut.blk hk (g':=gb140) (o:=.cells #[.int .i64 t141,.slice Ao11 t142.length co11,u141002,u141003] 26 (0,0)) (qk_ BK140) NB140_0.out (by simp));have n5_:=mk_ (KeepBut.trans (u10_ HK GW139 GW140) hk (.inl rfl));have n6_:=mk_ (hb);have n7_:=mk_ (hi);clear z0_ z1_ z2_ BK139 BK140 HK HB HI0;have z0_:=n0_;have z1_:=n1_;have z2_:=n2_;have BK139:=n3_;have BK140:=n4_;have HK:=n5_;have HB:=n6_;have HI0:=n7_;clear n0_ n1_ n2_ n3_ n4_ n5_ n6_ n7_;(try clear hb);(try clear hb2);(try clear hk);(try clear hi);have hnb55:=NB140_139.out;have hnc55:=NB139_140.out;have hnb56:=NB140_0.out;have hnc56:=NB0_140.out;have hcz57_0 : w54.cell? ⟨gb140,0,none⟩ = some (.int .i64 t141):=(bc_ BK140.out 0).trans rfl;have hcz57_1 : w54.cell? ⟨gb140,1,none⟩ = some (.slice Ao11 t142.length co11):=(bc_ BK140.out 1).trans rfl;have hcz57_2 : w54.cell? ⟨gb140,2,none⟩ = some (u141002):=(bc_ BK140.out 2).trans rfl;have hcz57_3 : w54.cell? ⟨gb140,3,none⟩ = some (u141003):=(bc_ BK140.out 3).trans rfl;have hfz57_0:=bf_ BK140.out 0;have hfz57_1:=bf_ BK140.out 1;have hfz57_2:=bf_ BK140.out 2;have hfz57_3:=bf_ BK140.out 3;have p53 : 0 ≤ (0 : Int):=(by omega);have q53 : (0 : Int) < ((z8_.length : Int) : Int):=od_ qa_;have qi53 : (0 < z8_.length) = True:=eq_true (by omega);obtain ⟨go53,oo53,co53,eo53,gb53,gl53,cl53,HG53⟩:=Kd.Q_form z2_.out (by omega);(first|cases eo53|(injection eo53 with ea_ en_ ec_;(first|subst ea_|(injection ea_ with ea_;subst ea_));subst ec_;clear en_));have GB53:=mk_ gb53;have GG53:=mk_ HG53;clear gb53 gl53 HG53;obtain ⟨hx53_0,hf53_0⟩:=Kd.Q_cell 0 z2_.out (0 : Int) p53 q53;(try rw [show ((0 : Int)).toNat = 0 from rfl] at hx53_0);(try simp only [Nat.reduceMul,Nat.zero_mul,Nat.zero_add,Nat.add_zero,Nat.reduceAdd] at hx53_0);(try rw [show ((0 : Int)).toNat = 0 from rfl] at hf53_0);(try simp only [Nat.reduceMul,Nat.zero_mul,Nat.zero_add,Nat.add_zero,Nat.reduceAdd] at hf53_0);replace p53:=eq_true p53;replace q53:=eq_true q53;obtain ⟨hy58_,hz58_⟩:=Kd.Q_cell 0 z2_.out (0 : Int) (by omega) (od_ qa_);(try simp only [Int.reduceToNat,Int.toNat_zero,Int.toNat_ofNat,Nat.reduceMul,Nat.zero_mul,Nat.zero_add,Nat.add_zero] at hy58_ hz58_);(try rw [show ((0 : Int)).toNat = 0 from rfl] at hy58_);(try rw [show ((0 : Int)).toNat = 0 from rfl] at hz58_);have HP58:=Kd.Q_putg z2_.out (0 : Int) (by omega) (by have h_ : (0 : Int) < ((z8_.length : Int) : Int):=od_ qa_;first|exact h_|(have e_:=(Kd.Q_reads' z2_.out).1;omega)|simpa using h_) 0)|((with_reducible refine gate_store (t:=3) (p:=55) rfl ?_);refine store_event (t:=3) (p:=55) (v:=?vo_w59) (w1:=(w54.setCell ⟨go53,oo53 + (0 : Int).toNat,none⟩ (.int .i64 0))) ?hg ?ho ?hn ?hr ?_;(case ho => rfl);(case hg => rfl);(case hn => rfl);(case hr => first|(go_simp;done)|(go_simp;rfl));intro w59 hw;have hg : w54.grownBy w59 (some go53):=(by rw [hw];exact HP58.2);have hp_ : Kd.Q (Kd.int .i64) 3 w59 w.heap.size (fun k_ => some k_ ≠ (u141002 : Value).ownBlock) (.slice (some ⟨go53,oo53,none⟩) z8_.length co53) y169:=(by rw [hw,Ny169.out];exact HP58.1);clear HP58;have n0_:=mk_ (Kd.R_over' (v:=(.slice (some ⟨go53,oo53,none⟩) z8_.length co53)) (qr_ z0_) (Kd.Q_typed z2_.out) (by decide) hg);have n1_:=mk_ (Kd.R_after (v:=(.slice (some ⟨go53,oo53,none⟩) z8_.length co53)) (v1:=(.slice (some ⟨go53,oo53,none⟩) z8_.length co53)) (ok:=(fun _ => True)) (by (with_reducible repeat (first|apply ra_|apply rn_|apply rd_));exact rm_ z1_.out (fun _ hk => ⟨trivial,hk⟩)) hg (.inl rfl));have n2_:=mk_ (hp_);have n3_:=mk_ (blk_grown (g:=gb139) (o:=.cells #[.int .i64 0,.slice none 0 0,.slice none 0 0,.slice none 0 0] 26 (0,0)) (qk_ BK139) hg (Kd.Q_ne z2_.out BK139.out (by decide)));have n4_:=mk_ (blk_grown (g:=gb140) (o:=.cells #[.int .i64 t141,.slice Ao11 t142.length co11,u141002,.slice (some ⟨go53,oo53,none⟩) z8_.length co53] 26 (0,0)) (qk_ BK140) hg (Kd.Q_ne z2_.out BK140.out (by decide)));have n5_:=mk_ (IsS94.grown (u8_ HI0 NB0_139 NB0_140) hg (IsS94.own_neQ HI0.out z2_.out (by decide)));have n6_:=mk_ ((by rw [hw];exact bs_ (HB.out) (Nat.le_trans HL.out GB53.out) : Below w0.heap.size w0 w59));have n7_:=mk_ (KeepBut.trans (u10_ HK GW139 GW140) (KeepBut.of_grown hg g) (Kd.Q_base2 z2_.out));clear z0_ z1_ z2_ BK139 BK140 HI0 HB HK;have z0_:=n0_;have z1_:=n1_;have z2_:=n2_;have BK139:=n3_;have BK140:=n4_;have HI0:=n5_;have HB:=n6_;have HK:=n7_;clear n0_ n1_ n2_ n3_ n4_ n5_ n6_ n7_ hg hw hp_;have hcz60_0 : w59.cell? ⟨gb140,0,none⟩ = some (.int .i64 t141):=(bc_ BK140.out 0).trans rfl;have hcz60_1 : w59.cell? ⟨gb140,1,none⟩ = some (.slice Ao11 t142.length co11):=(bc_ BK140.out 1).trans rfl;have hcz60_2 : w59.cell? ⟨gb140,2,none⟩ = some (u141002):=(bc_ BK140.out 2).trans rfl;have hcz60_3 : w59.cell? ⟨gb140,3,none⟩ = some (.slice (some ⟨go53,oo53,none⟩) z8_.length co53):=(bc_ BK140.out 3).trans rfl;have hfz60_0:=bf_ BK140.out 0;have hfz60_1:=bf_ BK140.out 1;have hfz60_2:=bf_ BK140.out 2;have hfz60_3:=bf_ BK140.out 3;have hnb61:=NB139_0.out;have hnc61:=NB0_139.out;have hcz62_0 : w59.cell? ⟨gb139,0,none⟩ = some (.int .i64 0):=(bc_ BK139.out 0).trans rfl;have hcz62_1 : w59.cell? ⟨gb139,1,none⟩ = some (.slice none 0 0):=(bc_ BK139.out 1).trans rfl;have hcz62_2 : w59.cell? ⟨gb139,2,none⟩ = some (.slice none 0 0):=(bc_ BK139.out 2).trans rfl;have hcz62_3 : w59.cell? ⟨gb139,3,none⟩ = some (.slice none 0 0):=(bc_ BK139.out 3).trans rfl;have hfz62_0:=bf_ BK139.out 0;have hfz62_1:=bf_ BK139.out 1;have hfz62_2:=bf_ BK139.out 2;have hfz62_3:=bf_ BK139.out 3;obtain ⟨Ao63,co63,eo63⟩:=Kd.R_slice z1_.out;subst eo63))
       refine bodyPost_ret (results_cell_row rfl _ _ gb139 26 #[.int .i64 t141,.slice Ao11 t142.length co11,.slice Ao63 z6_.length co63,.slice (some ⟨go53,oo53,none⟩) z8_.length co53] (0,0) _ rfl (by (with_reducible repeat (first|apply kn_|apply kd_|apply ka_));refine blk_put (cs:=#[.int .i64 t141,.slice Ao11 t142.length co11,.slice Ao63 z6_.length co63,.slice none 0 0]) ?_ 3 _ rfl;(with_reducible repeat (first|apply kn_|apply kd_|apply ka_));refine blk_put (cs:=#[.int .i64 t141,.slice Ao11 t142.length co11,.slice none 0 0,.slice none 0 0]) ?_ 2 _ rfl;(with_reducible repeat (first|apply kn_|apply kd_|apply ka_));refine blk_put (cs:=#[.int .i64 t141,.slice none 0 0,.slice none 0 0,.slice none 0 0]) ?_ 1 _ rfl;(with_reducible repeat (first|apply kn_|apply kd_|apply ka_));refine blk_put (cs:=#[.int .i64 0,.slice none 0 0,.slice none 0 0,.slice none 0 0]) ?_ 0 _ rfl;(with_reducible repeat (first|apply kn_|apply kd_|apply ka_));exact BK139.out) Try.underlying26 rfl (by kernel_rfl)) rfl ?_
       exact ⟨_,_,_,qe_,by (with_reducible repeat (first|apply ra_|apply rn_|apply rd_));exact rm_ (rf_ (p:=⟨gb139,3,none⟩) (rf_ (p:=⟨gb139,2,none⟩) (rf_ (p:=⟨gb139,1,none⟩) (rf_ (p:=⟨gb139,0,none⟩) (rt_ z0_.out BK139.out (by decide)) (λ_ h=>h.2) (.int .i64 t141)) (λ_ h=>h.2) (.slice Ao11 t142.length co11)) (λ_ h=>h.2) (.slice Ao63 z6_.length co63)) (λ_ h=>h.2) (.slice (some ⟨go53,oo53,none⟩) z8_.length co53)) (λ_ _=>trivial),by (with_reducible repeat (first|apply ra_|apply rn_|apply rd_));exact rm_ (rf_ (p:=⟨gb139,3,none⟩) (rf_ (p:=⟨gb139,2,none⟩) (rf_ (p:=⟨gb139,1,none⟩) (rf_ (p:=⟨gb139,0,none⟩) (rt_ z1_.out BK139.out (by decide)) (λ_ h=>h.2) (.int .i64 t141)) (λ_ h=>h.2) (.slice Ao11 t142.length co11)) (λ_ h=>h.2) (.slice Ao63 z6_.length co63)) (λ_ h=>h.2) (.slice (some ⟨go53,oo53,none⟩) z8_.length co53)) (fun _ hk => hk.1.2),by (with_reducible repeat (first|apply Kd.Q_alloc|apply Kd.Q_drewN|apply Kd.Q_drew));exact Kd.Q_mono (Kd.Q_far (p:=⟨gb139,3,none⟩) (Kd.Q_far (p:=⟨gb139,2,none⟩) (Kd.Q_far (p:=⟨gb139,1,none⟩) (Kd.Q_far (p:=⟨gb139,0,none⟩) (Kd.Q_types z2_.out BK139.out (by decide)) (λ_ h=>h.2) (.int .i64 t141)) (λ_ h=>h.2) (.slice Ao11 t142.length co11)) (λ_ h=>h.2) (.slice Ao63 z6_.length co63)) (λ_ h=>h.2) (.slice (some ⟨go53,oo53,none⟩) z8_.length co53)) (fun _ hk => hk.1),u8_ HI0 NB0_139 NB0_140,u9_ HB HI0 GE139 GE140,u10_ HK GW139 GW140⟩
      ·rw [if_neg c52] at H
       exact absurd H (by simp)
     ·rw [if_neg c51] at H
      have c51b0 : (t166 == 1) = false:=beq_eq_false_iff_ne.mpr c51
      have c51b1 : (t166 != 1) = true:=bne_iff_ne.mpr c51
      by_cases c64 : t166 = 2
      ·rw [if_pos c64] at H
       have c64b0 : (t166 == 2) = true:=beq_iff_eq.mpr c64
       have c64b1 : (t166 != 2) = false:=bne_eq_false_iff_eq.mpr c64
       clear c64
       by_cases c65 : 1 ≤ (z8_.length : Int)
       ·rw [if_pos c65] at H
        have c65b0:=eq_true c65
        have c65b1 : decide (1 ≤ (z8_.length : Int)) = true:=decide_eq_true c65
        clear c65
        obtain ⟨y170,hy170⟩ : ∃ y_ : List Int,y_ = (z8_.drop (1 : Int).toNat):=⟨_,rfl⟩
        replace H : (some (t141,t142,z6_,y170,t167)) = some (r1,r2,r3,r4,r5):=by first|(rw [hy170];with_reducible exact H)|(have H2_:=(Option.bind_some _ _).symm.trans H;rw [hy170];with_reducible exact H2_)|(have H2_:=(Option.bind_some _ _).symm.trans H;with_reducible exact H2_)|with_reducible exact H|(rw [hy170];exact H)|exact H
        have Ny170:=mk_ hy170
        clear hy170
        simp only [Option.some.injEq,Prod.mk.injEq] at H
        obtain ⟨rfl,rfl,rfl,rfl,rfl⟩:=H
        go_wp2_with (first|((with_reducible refine gate_callee (f:=62) rfl ?_);refine goesL_ (some 44) rfl rfl Try.func62 (by kernel_rfl) rfl #[.pointer (some ⟨g,0,none⟩),.int .i64 80] rfl qm_ ?_;(with_reducible refine (spec_l21Rd_pick.calls k1 g s0_0 x1001_1 80 t166 t167 w0 _ ?side1 ?side2 A37.out).mono ?_);(case side1 => exact u8_ HI0 NB0_139 NB0_140);(case side2 => exact u9_ HB HI0 GE139 GE140);rintro e w66 ⟨rfl,hi,hb,hk⟩;refine ⟨_,rfl,?_⟩;have n0_:=mk_ (rm_ (Kd.R_keep (IsS94.apart (show IsS94 w0 _ g s0_0 x1001_1 from u8_ HI0 NB0_139 NB0_140) (qr_ z0_) (by decide)) hk (fun _ h => h.2)) (fun _ h => h.1));have n1_:=mk_ (rm_ (Kd.R_keep (IsS94.apart (show IsS94 w0 _ g s0_0 x1001_1 from u8_ HI0 NB0_139 NB0_140) (qr_ z1_) (by decide)) hk (fun _ h => h.2)) (fun _ h => h.1));have n2_:=mk_ (Kd.Q_mono (Kd.Q_keep (IsS94.apartQ (show IsS94 w0 _ g s0_0 x1001_1 from u8_ HI0 NB0_139 NB0_140) (by (with_reducible repeat (first|apply Kd.Q_alloc|apply Kd.Q_drewN|apply Kd.Q_drew));exact z2_.out) (by decide)) hk (fun _ h => h.2)) (fun _ h => h.1));have n3_:=mk_ (KeepBut.blk hk (g':=gb139) (o:=.cells #[.int .i64 0,.slice none 0 0,.slice none 0 0,.slice none 0 0] 26 (0,0)) (qk_ BK139) NB139_0.out (by simp));have n4_:=mk_ (KeepBut.blk hk (g':=gb140) (o:=.cells #[.int .i64 t141,.slice Ao11 t142.length co11,u141002,u141003] 26 (0,0)) (qk_ BK140) NB140_0.out (by simp));have n5_:=mk_ (KeepBut.trans (u10_ HK GW139 GW140) hk (.inl rfl));have n6_:=mk_ (hb);have n7_:=mk_ (hi);clear z0_ z1_ z2_ BK139 BK140 HK HB HI0;have z0_:=n0_;have z1_:=n1_;have z2_:=n2_;have BK139:=n3_;have BK140:=n4_;have HK:=n5_;have HB:=n6_;have HI0:=n7_;clear n0_ n1_ n2_ n3_ n4_ n5_ n6_ n7_;(try clear hb);(try clear hb2);(try clear hk);(try clear hi);have hnb67:=NB140_139.out;have hnc67:=NB139_140.out;have hnb68:=NB140_0.out;have hnc68:=NB0_140.out;have hcz69_0 : w66.cell? ⟨gb140,0,none⟩ = some (.int .i64 t141):=(bc_ BK140.out 0).trans rfl;have hcz69_1 : w66.cell? ⟨gb140,1,none⟩ = some (.slice Ao11 t142.length co11):=(bc_ BK140.out 1).trans rfl;have hcz69_2 : w66.cell? ⟨gb140,2,none⟩ = some (u141002):=(bc_ BK140.out 2).trans rfl;have hcz69_3 : w66.cell? ⟨gb140,3,none⟩ = some (u141003):=(bc_ BK140.out 3).trans rfl;have hfz69_0:=bf_ BK140.out 0;have hfz69_1:=bf_ BK140.out 1;have hfz69_2:=bf_ BK140.out 2;have hfz69_3:=bf_ BK140.out 3;obtain ⟨Ao70,co70,eo70,_⟩:=Kd.Q_slice z2_.out;subst eo70;have q71 : (1 : Int) ≤ ((z8_.length : Int) : Int):=od_ qa_;obtain ⟨i071,hi071,_,hsz71,_⟩:=info_parts info3;have hcut71:=cut_from (P:=Try.prog) 24 3 .i64 Try.underlying24 hi071 1 hsz71 Ao70 z8_.length co70 1 (by omega) q71;have hr71:=Kd.Q_drop (k:=(1 : Int).toNat) z2_.out (by omega);obtain ⟨A71,hA71⟩ : ∃ A1,A1 = (if co70 = (1 : Int).toNat then Ao70 else (Ao70 : Option Addr).map (·.add ((1 : Int).toNat * 1))):=⟨_,rfl⟩;obtain ⟨c71,hc71⟩ : ∃ c1,c1 = co70 - (1 : Int).toNat:=⟨_,rfl⟩;have hy71 : y170.length = z8_.length - (1 : Int).toNat:=(by rw [Ny170.out,List.length_drop]);rw [← Ny170.out] at hr71;rw [← hy71,← hA71,← hc71] at hcut71;replace hr71 : Kd.Q (Kd.int .i64) 3 w66 w.heap.size (fun k_ => some k_ ≠ (u141002 : Value).ownBlock) (.slice A71 y170.length c71) y170:=(by rw [hA71,hc71,hy71];exact hr71);have HE71 : Aside0 ((Value.slice A71 y170.length c71).ownBlock = (.slice Ao70 z8_.length co70 : Value).ownBlock):=⟨by rw [hA71];split <;> (cases (Ao70 : Option Addr) <;> rfl)⟩;clear hy71 hi071 hsz71 z2_ hA71 hc71;have HO172:=mk_ hr71;clear hr71;replace q71:=eq_true q71;have n_:=mk_ (rm_ (ok':=fun k_ => some k_ ≠ (.slice A71 y170.length c71 : Value).ownBlock) z1_.out (fun k_ hk => (by rw [HE71.out];exact hk)));clear z1_;have z1_:=n_;clear n_;have hnb72:=NB139_0.out;have hnc72:=NB0_139.out;have hcz73_0 : w66.cell? ⟨gb139,0,none⟩ = some (.int .i64 0):=(bc_ BK139.out 0).trans rfl;have hcz73_1 : w66.cell? ⟨gb139,1,none⟩ = some (.slice none 0 0):=(bc_ BK139.out 1).trans rfl;have hcz73_2 : w66.cell? ⟨gb139,2,none⟩ = some (.slice none 0 0):=(bc_ BK139.out 2).trans rfl;have hcz73_3 : w66.cell? ⟨gb139,3,none⟩ = some (.slice none 0 0):=(bc_ BK139.out 3).trans rfl;have hfz73_0:=bf_ BK139.out 0;have hfz73_1:=bf_ BK139.out 1;have hfz73_2:=bf_ BK139.out 2;have hfz73_3:=bf_ BK139.out 3;obtain ⟨Ao74,co74,eo74⟩:=Kd.R_slice z1_.out;subst eo74))
        refine bodyPost_ret (results_cell_row rfl _ _ gb139 26 #[.int .i64 t141,.slice Ao11 t142.length co11,.slice Ao74 z6_.length co74,.slice A71 y170.length c71] (0,0) _ rfl (by (with_reducible repeat (first|apply kn_|apply kd_|apply ka_));refine blk_put (cs:=#[.int .i64 t141,.slice Ao11 t142.length co11,.slice Ao74 z6_.length co74,.slice none 0 0]) ?_ 3 _ rfl;(with_reducible repeat (first|apply kn_|apply kd_|apply ka_));refine blk_put (cs:=#[.int .i64 t141,.slice Ao11 t142.length co11,.slice none 0 0,.slice none 0 0]) ?_ 2 _ rfl;(with_reducible repeat (first|apply kn_|apply kd_|apply ka_));refine blk_put (cs:=#[.int .i64 t141,.slice none 0 0,.slice none 0 0,.slice none 0 0]) ?_ 1 _ rfl;(with_reducible repeat (first|apply kn_|apply kd_|apply ka_));refine blk_put (cs:=#[.int .i64 0,.slice none 0 0,.slice none 0 0,.slice none 0 0]) ?_ 0 _ rfl;(with_reducible repeat (first|apply kn_|apply kd_|apply ka_));refine blk_far ?_ NB139_140.out _;(with_reducible repeat (first|apply kn_|apply kd_|apply ka_));exact BK139.out) Try.underlying26 rfl (by kernel_rfl)) rfl ?_
        exact ⟨_,_,_,qe_,by (with_reducible repeat (first|apply ra_|apply rn_|apply rd_));exact rm_ (rf_ (p:=⟨gb139,3,none⟩) (rf_ (p:=⟨gb139,2,none⟩) (rf_ (p:=⟨gb139,1,none⟩) (rf_ (p:=⟨gb139,0,none⟩) (rf_ (p:=⟨gb140,3,none⟩) (rt_ (rt_ z0_.out BK140.out (by decide)) BK139.out (by decide)) (fun _ hk => hk.1.2) (.slice A71 y170.length c71)) (λ_ h=>h.2) (.int .i64 t141)) (λ_ h=>h.2) (.slice Ao11 t142.length co11)) (λ_ h=>h.2) (.slice Ao74 z6_.length co74)) (λ_ h=>h.2) (.slice A71 y170.length c71)) (λ_ _=>trivial),by (with_reducible repeat (first|apply ra_|apply rn_|apply rd_));exact rm_ (rf_ (p:=⟨gb139,3,none⟩) (rf_ (p:=⟨gb139,2,none⟩) (rf_ (p:=⟨gb139,1,none⟩) (rf_ (p:=⟨gb139,0,none⟩) (rf_ (p:=⟨gb140,3,none⟩) (rt_ (rt_ z1_.out BK140.out (by decide)) BK139.out (by decide)) (fun _ hk => hk.1.2) (.slice A71 y170.length c71)) (λ_ h=>h.2) (.int .i64 t141)) (λ_ h=>h.2) (.slice Ao11 t142.length co11)) (λ_ h=>h.2) (.slice Ao74 z6_.length co74)) (λ_ h=>h.2) (.slice A71 y170.length c71)) (fun _ hk => hk.1.1),by (with_reducible repeat (first|apply Kd.Q_alloc|apply Kd.Q_drewN|apply Kd.Q_drew));exact Kd.Q_mono (Kd.Q_far (p:=⟨gb139,3,none⟩) (Kd.Q_far (p:=⟨gb139,2,none⟩) (Kd.Q_far (p:=⟨gb139,1,none⟩) (Kd.Q_far (p:=⟨gb139,0,none⟩) (Kd.Q_far (p:=⟨gb140,3,none⟩) (Kd.Q_types (Kd.Q_types HO172.out BK140.out (by decide)) BK139.out (by decide)) (fun _ hk => hk.1.2) (.slice A71 y170.length c71)) (λ_ h=>h.2) (.int .i64 t141)) (λ_ h=>h.2) (.slice Ao11 t142.length co11)) (λ_ h=>h.2) (.slice Ao74 z6_.length co74)) (λ_ h=>h.2) (.slice A71 y170.length c71)) (fun _ hk => hk.1.1),u8_ HI0 NB0_139 NB0_140,u9_ HB HI0 GE139 GE140,u10_ HK GW139 GW140⟩
       ·rw [if_neg c65] at H
        exact absurd H (by simp)
      ·rw [if_neg c64] at H
       have c64b0 : (t166 == 2) = false:=beq_eq_false_iff_ne.mpr c64
       have c64b1 : (t166 != 2) = true:=bne_iff_ne.mpr c64
       by_cases c75 : t166 = 3
       ·rw [if_pos c75] at H
        have c75b0 : (t166 == 3) = true:=beq_iff_eq.mpr c75
        have c75b1 : (t166 != 3) = false:=bne_eq_false_iff_eq.mpr c75
        clear c75
        simp only [Option.some.injEq,Prod.mk.injEq] at H
        obtain ⟨rfl,rfl,rfl,rfl,rfl⟩:=H
        go_wp2_with (first|((with_reducible refine gate_callee (f:=62) rfl ?_);refine goesL_ (some 44) rfl rfl Try.func62 (by kernel_rfl) rfl #[.pointer (some ⟨g,0,none⟩),.int .i64 80] rfl qm_ ?_;(with_reducible refine (spec_l21Rd_pick.calls k1 g s0_0 x1001_1 80 t166 t167 w0 _ ?side1 ?side2 A37.out).mono ?_);(case side1 => exact u8_ HI0 NB0_139 NB0_140);(case side2 => exact u9_ HB HI0 GE139 GE140);rintro e w76 ⟨rfl,hi,hb,hk⟩;refine ⟨_,rfl,?_⟩;have n0_:=mk_ (rm_ (Kd.R_keep (IsS94.apart (show IsS94 w0 _ g s0_0 x1001_1 from u8_ HI0 NB0_139 NB0_140) (qr_ z0_) (by decide)) hk (fun _ h => h.2)) (fun _ h => h.1));have n1_:=mk_ (rm_ (Kd.R_keep (IsS94.apart (show IsS94 w0 _ g s0_0 x1001_1 from u8_ HI0 NB0_139 NB0_140) (qr_ z1_) (by decide)) hk (fun _ h => h.2)) (fun _ h => h.1));have n2_:=mk_ (Kd.Q_mono (Kd.Q_keep (IsS94.apartQ (show IsS94 w0 _ g s0_0 x1001_1 from u8_ HI0 NB0_139 NB0_140) (by (with_reducible repeat (first|apply Kd.Q_alloc|apply Kd.Q_drewN|apply Kd.Q_drew));exact z2_.out) (by decide)) hk (fun _ h => h.2)) (fun _ h => h.1));have n3_:=mk_ (KeepBut.blk hk (g':=gb139) (o:=.cells #[.int .i64 0,.slice none 0 0,.slice none 0 0,.slice none 0 0] 26 (0,0)) (qk_ BK139) NB139_0.out (by simp));have n4_:=mk_ (KeepBut.blk hk (g':=gb140) (o:=.cells #[.int .i64 t141,.slice Ao11 t142.length co11,u141002,u141003] 26 (0,0)) (qk_ BK140) NB140_0.out (by simp));have n5_:=mk_ (KeepBut.trans (u10_ HK GW139 GW140) hk (.inl rfl));have n6_:=mk_ (hb);have n7_:=mk_ (hi);clear z0_ z1_ z2_ BK139 BK140 HK HB HI0;have z0_:=n0_;have z1_:=n1_;have z2_:=n2_;have BK139:=n3_;have BK140:=n4_;have HK:=n5_;have HB:=n6_;have HI0:=n7_;clear n0_ n1_ n2_ n3_ n4_ n5_ n6_ n7_;(try clear hb);(try clear hb2);(try clear hk);(try clear hi);have hnb77:=NB140_139.out;have hnc77:=NB139_140.out;have hnb78:=NB140_0.out;have hnc78:=NB0_140.out;have hcz79_0 : w76.cell? ⟨gb140,0,none⟩ = some (.int .i64 t141):=(bc_ BK140.out 0).trans rfl;have hcz79_1 : w76.cell? ⟨gb140,1,none⟩ = some (.slice Ao11 t142.length co11):=(bc_ BK140.out 1).trans rfl;have hcz79_2 : w76.cell? ⟨gb140,2,none⟩ = some (u141002):=(bc_ BK140.out 2).trans rfl;have hcz79_3 : w76.cell? ⟨gb140,3,none⟩ = some (u141003):=(bc_ BK140.out 3).trans rfl;have hfz79_0:=bf_ BK140.out 0;have hfz79_1:=bf_ BK140.out 1;have hfz79_2:=bf_ BK140.out 2;have hfz79_3:=bf_ BK140.out 3;have hnb80:=NB139_0.out;have hnc80:=NB0_139.out;have hcz81_0 : w76.cell? ⟨gb139,0,none⟩ = some (.int .i64 0):=(bc_ BK139.out 0).trans rfl;have hcz81_1 : w76.cell? ⟨gb139,1,none⟩ = some (.slice none 0 0):=(bc_ BK139.out 1).trans rfl;have hcz81_2 : w76.cell? ⟨gb139,2,none⟩ = some (.slice none 0 0):=(bc_ BK139.out 2).trans rfl;have hcz81_3 : w76.cell? ⟨gb139,3,none⟩ = some (.slice none 0 0):=(bc_ BK139.out 3).trans rfl;have hfz81_0:=bf_ BK139.out 0;have hfz81_1:=bf_ BK139.out 1;have hfz81_2:=bf_ BK139.out 2;have hfz81_3:=bf_ BK139.out 3;obtain ⟨Ao82,co82,eo82⟩:=Kd.R_slice z1_.out;subst eo82;obtain ⟨Ao83,co83,eo83,_⟩:=Kd.Q_slice z2_.out;subst eo83))
        refine bodyPost_ret (results_cell_row rfl _ _ gb139 26 #[.int .i64 9,.slice Ao11 t142.length co11,.slice Ao82 z6_.length co82,.slice Ao83 z8_.length co83] (0,0) _ rfl (by (with_reducible repeat (first|apply kn_|apply kd_|apply ka_));refine blk_put (cs:=#[.int .i64 9,.slice Ao11 t142.length co11,.slice Ao82 z6_.length co82,.slice none 0 0]) ?_ 3 _ rfl;(with_reducible repeat (first|apply kn_|apply kd_|apply ka_));refine blk_put (cs:=#[.int .i64 9,.slice Ao11 t142.length co11,.slice none 0 0,.slice none 0 0]) ?_ 2 _ rfl;(with_reducible repeat (first|apply kn_|apply kd_|apply ka_));refine blk_put (cs:=#[.int .i64 9,.slice none 0 0,.slice none 0 0,.slice none 0 0]) ?_ 1 _ rfl;(with_reducible repeat (first|apply kn_|apply kd_|apply ka_));refine blk_put (cs:=#[.int .i64 0,.slice none 0 0,.slice none 0 0,.slice none 0 0]) ?_ 0 _ rfl;(with_reducible repeat (first|apply kn_|apply kd_|apply ka_));refine blk_far ?_ NB139_140.out _;(with_reducible repeat (first|apply kn_|apply kd_|apply ka_));exact BK139.out) Try.underlying26 rfl (by kernel_rfl)) rfl ?_
        exact ⟨_,_,_,qe_,by (with_reducible repeat (first|apply ra_|apply rn_|apply rd_));exact rm_ (rf_ (p:=⟨gb139,3,none⟩) (rf_ (p:=⟨gb139,2,none⟩) (rf_ (p:=⟨gb139,1,none⟩) (rf_ (p:=⟨gb139,0,none⟩) (rf_ (p:=⟨gb140,0,none⟩) (rt_ (rt_ z0_.out BK140.out (by decide)) BK139.out (by decide)) (fun _ hk => hk.1.2) (.int .i64 9)) (λ_ h=>h.2) (.int .i64 9)) (λ_ h=>h.2) (.slice Ao11 t142.length co11)) (λ_ h=>h.2) (.slice Ao82 z6_.length co82)) (λ_ h=>h.2) (.slice Ao83 z8_.length co83)) (λ_ _=>trivial),by (with_reducible repeat (first|apply ra_|apply rn_|apply rd_));exact rm_ (rf_ (p:=⟨gb139,3,none⟩) (rf_ (p:=⟨gb139,2,none⟩) (rf_ (p:=⟨gb139,1,none⟩) (rf_ (p:=⟨gb139,0,none⟩) (rf_ (p:=⟨gb140,0,none⟩) (rt_ (rt_ z1_.out BK140.out (by decide)) BK139.out (by decide)) (fun _ hk => hk.1.2) (.int .i64 9)) (λ_ h=>h.2) (.int .i64 9)) (λ_ h=>h.2) (.slice Ao11 t142.length co11)) (λ_ h=>h.2) (.slice Ao82 z6_.length co82)) (λ_ h=>h.2) (.slice Ao83 z8_.length co83)) (fun _ hk => hk.1.1),by (with_reducible repeat (first|apply Kd.Q_alloc|apply Kd.Q_drewN|apply Kd.Q_drew));exact Kd.Q_mono (Kd.Q_far (p:=⟨gb139,3,none⟩) (Kd.Q_far (p:=⟨gb139,2,none⟩) (Kd.Q_far (p:=⟨gb139,1,none⟩) (Kd.Q_far (p:=⟨gb139,0,none⟩) (Kd.Q_far (p:=⟨gb140,0,none⟩) (Kd.Q_types (Kd.Q_types z2_.out BK140.out (by decide)) BK139.out (by decide)) (fun _ hk => hk.1.2) (.int .i64 9)) (λ_ h=>h.2) (.int .i64 9)) (λ_ h=>h.2) (.slice Ao11 t142.length co11)) (λ_ h=>h.2) (.slice Ao82 z6_.length co82)) (λ_ h=>h.2) (.slice Ao83 z8_.length co83)) (fun _ hk => hk.1.1),u8_ HI0 NB0_139 NB0_140,u9_ HB HI0 GE139 GE140,u10_ HK GW139 GW140⟩
       ·rw [if_neg c75] at H
        have c75b0 : (t166 == 3) = false:=beq_eq_false_iff_ne.mpr c75
        have c75b1 : (t166 != 3) = true:=bne_iff_ne.mpr c75
        simp only [Option.some.injEq,Prod.mk.injEq] at H
        obtain ⟨rfl,rfl,rfl,rfl,rfl⟩:=H
        go_wp2_with (first|((with_reducible refine gate_callee (f:=62) rfl ?_);refine goesL_ (some 44) rfl rfl Try.func62 (by kernel_rfl) rfl #[.pointer (some ⟨g,0,none⟩),.int .i64 80] rfl qm_ ?_;(with_reducible refine (spec_l21Rd_pick.calls k1 g s0_0 x1001_1 80 t166 t167 w0 _ ?side1 ?side2 A37.out).mono ?_);(case side1 => exact u8_ HI0 NB0_139 NB0_140);(case side2 => exact u9_ HB HI0 GE139 GE140);rintro e w84 ⟨rfl,hi,hb,hk⟩;refine ⟨_,rfl,?_⟩;have n0_:=mk_ (rm_ (Kd.R_keep (IsS94.apart (show IsS94 w0 _ g s0_0 x1001_1 from u8_ HI0 NB0_139 NB0_140) (qr_ z0_) (by decide)) hk (fun _ h => h.2)) (fun _ h => h.1));have n1_:=mk_ (rm_ (Kd.R_keep (IsS94.apart (show IsS94 w0 _ g s0_0 x1001_1 from u8_ HI0 NB0_139 NB0_140) (qr_ z1_) (by decide)) hk (fun _ h => h.2)) (fun _ h => h.1));have n2_:=mk_ (Kd.Q_mono (Kd.Q_keep (IsS94.apartQ (show IsS94 w0 _ g s0_0 x1001_1 from u8_ HI0 NB0_139 NB0_140) (by (with_reducible repeat (first|apply Kd.Q_alloc|apply Kd.Q_drewN|apply Kd.Q_drew));exact z2_.out) (by decide)) hk (fun _ h => h.2)) (fun _ h => h.1));have n3_:=mk_ (KeepBut.blk hk (g':=gb139) (o:=.cells #[.int .i64 0,.slice none 0 0,.slice none 0 0,.slice none 0 0] 26 (0,0)) (qk_ BK139) NB139_0.out (by simp));have n4_:=mk_ (KeepBut.blk hk (g':=gb140) (o:=.cells #[.int .i64 t141,.slice Ao11 t142.length co11,u141002,u141003] 26 (0,0)) (qk_ BK140) NB140_0.out (by simp));have n5_:=mk_ (KeepBut.trans (u10_ HK GW139 GW140) hk (.inl rfl));have n6_:=mk_ (hb);have n7_:=mk_ (hi);clear z0_ z1_ z2_ BK139 BK140 HK HB HI0;have z0_:=n0_;have z1_:=n1_;have z2_:=n2_;have BK139:=n3_;have BK140:=n4_;have HK:=n5_;have HB:=n6_;have HI0:=n7_;clear n0_ n1_ n2_ n3_ n4_ n5_ n6_ n7_;(try clear hb);(try clear hb2);(try clear hk);(try clear hi);have hnb85:=NB140_139.out;have hnc85:=NB139_140.out;have hnb86:=NB140_0.out;have hnc86:=NB0_140.out;have hcz87_0 : w84.cell? ⟨gb140,0,none⟩ = some (.int .i64 t141):=(bc_ BK140.out 0).trans rfl;have hcz87_1 : w84.cell? ⟨gb140,1,none⟩ = some (.slice Ao11 t142.length co11):=(bc_ BK140.out 1).trans rfl;have hcz87_2 : w84.cell? ⟨gb140,2,none⟩ = some (u141002):=(bc_ BK140.out 2).trans rfl;have hcz87_3 : w84.cell? ⟨gb140,3,none⟩ = some (u141003):=(bc_ BK140.out 3).trans rfl;have hfz87_0:=bf_ BK140.out 0;have hfz87_1:=bf_ BK140.out 1;have hfz87_2:=bf_ BK140.out 2;have hfz87_3:=bf_ BK140.out 3;have hnb88:=NB139_0.out;have hnc88:=NB0_139.out;have hcz89_0 : w84.cell? ⟨gb139,0,none⟩ = some (.int .i64 0):=(bc_ BK139.out 0).trans rfl;have hcz89_1 : w84.cell? ⟨gb139,1,none⟩ = some (.slice none 0 0):=(bc_ BK139.out 1).trans rfl;have hcz89_2 : w84.cell? ⟨gb139,2,none⟩ = some (.slice none 0 0):=(bc_ BK139.out 2).trans rfl;have hcz89_3 : w84.cell? ⟨gb139,3,none⟩ = some (.slice none 0 0):=(bc_ BK139.out 3).trans rfl;have hfz89_0:=bf_ BK139.out 0;have hfz89_1:=bf_ BK139.out 1;have hfz89_2:=bf_ BK139.out 2;have hfz89_3:=bf_ BK139.out 3;obtain ⟨Ao90,co90,eo90⟩:=Kd.R_slice z1_.out;subst eo90;obtain ⟨Ao91,co91,eo91,_⟩:=Kd.Q_slice z2_.out;subst eo91))
        refine bodyPost_ret (results_cell_row rfl _ _ gb139 26 #[.int .i64 t141,.slice Ao11 t142.length co11,.slice Ao90 z6_.length co90,.slice Ao91 z8_.length co91] (0,0) _ rfl (by (with_reducible repeat (first|apply kn_|apply kd_|apply ka_));refine blk_put (cs:=#[.int .i64 t141,.slice Ao11 t142.length co11,.slice Ao90 z6_.length co90,.slice none 0 0]) ?_ 3 _ rfl;(with_reducible repeat (first|apply kn_|apply kd_|apply ka_));refine blk_put (cs:=#[.int .i64 t141,.slice Ao11 t142.length co11,.slice none 0 0,.slice none 0 0]) ?_ 2 _ rfl;(with_reducible repeat (first|apply kn_|apply kd_|apply ka_));refine blk_put (cs:=#[.int .i64 t141,.slice none 0 0,.slice none 0 0,.slice none 0 0]) ?_ 1 _ rfl;(with_reducible repeat (first|apply kn_|apply kd_|apply ka_));refine blk_put (cs:=#[.int .i64 0,.slice none 0 0,.slice none 0 0,.slice none 0 0]) ?_ 0 _ rfl;(with_reducible repeat (first|apply kn_|apply kd_|apply ka_));exact BK139.out) Try.underlying26 rfl (by kernel_rfl)) rfl ?_
        exact ⟨_,_,_,qe_,by (with_reducible repeat (first|apply ra_|apply rn_|apply rd_));exact rm_ (rf_ (p:=⟨gb139,3,none⟩) (rf_ (p:=⟨gb139,2,none⟩) (rf_ (p:=⟨gb139,1,none⟩) (rf_ (p:=⟨gb139,0,none⟩) (rt_ z0_.out BK139.out (by decide)) (λ_ h=>h.2) (.int .i64 t141)) (λ_ h=>h.2) (.slice Ao11 t142.length co11)) (λ_ h=>h.2) (.slice Ao90 z6_.length co90)) (λ_ h=>h.2) (.slice Ao91 z8_.length co91)) (λ_ _=>trivial),by (with_reducible repeat (first|apply ra_|apply rn_|apply rd_));exact rm_ (rf_ (p:=⟨gb139,3,none⟩) (rf_ (p:=⟨gb139,2,none⟩) (rf_ (p:=⟨gb139,1,none⟩) (rf_ (p:=⟨gb139,0,none⟩) (rt_ z1_.out BK139.out (by decide)) (λ_ h=>h.2) (.int .i64 t141)) (λ_ h=>h.2) (.slice Ao11 t142.length co11)) (λ_ h=>h.2) (.slice Ao90 z6_.length co90)) (λ_ h=>h.2) (.slice Ao91 z8_.length co91)) (fun _ hk => hk.1),by (with_reducible repeat (first|apply Kd.Q_alloc|apply Kd.Q_drewN|apply Kd.Q_drew));exact Kd.Q_mono (Kd.Q_far (p:=⟨gb139,3,none⟩) (Kd.Q_far (p:=⟨gb139,2,none⟩) (Kd.Q_far (p:=⟨gb139,1,none⟩) (Kd.Q_far (p:=⟨gb139,0,none⟩) (Kd.Q_types z2_.out BK139.out (by decide)) (λ_ h=>h.2) (.int .i64 t141)) (λ_ h=>h.2) (.slice Ao11 t142.length co11)) (λ_ h=>h.2) (.slice Ao90 z6_.length co90)) (λ_ h=>h.2) (.slice Ao91 z8_.length co91)) (fun _ hk => hk.1),u8_ HI0 NB0_139 NB0_140,u9_ HB HI0 GE139 GE140,u10_ HK GW139 GW140⟩
/-! ### slices_Clone_int_int: function 75 (by hand) -/
def slices_Clone_int_int.f (l0 : List Int) : Option (List Int) :=
 if l0.length < 17592186044416 then some l0 else none
set_option maxHeartbeats 4000000 in
set_option maxRecDepth 100000 in
theorem slices_Clone_int_int.calls (A0 : Option Addr) (c0 : Nat) (l0 : List Int) (r : List Int) (w : World) (hr0 : Kd.C (Kd.int .i64) w A0 l0.length l0) (hc0 : l0.length ≤ c0) (h : slices_Clone_int_int.f l0 = some r) :
  Calls Try.prog 75 #[.slice A0 l0.length c0] w fun e w' => ∃ v0_ : Value,e = .returned (v0_) ∧ Kd.R (Kd.int .i64) 3 w' w.heap.size (fun _ => True) v0_ r ∧ Below w.heap.size w w':=by
 unfold slices_Clone_int_int.f at h
 by_cases hl : l0.length < 17592186044416
 ·rw [if_pos hl] at h
  obtain rfl:=Option.some.inj h
  clear h
  cases A0 with
  | none =>
   cases l0 with
   | cons x t =>
    obtain ⟨ad,e,_⟩:=Kd.at_int hr0 (0 : Int) (by omega) (by simp)
    cases e
   | nil =>
    have heq : ∀ w,(binOp .eql 24 (.slice none 0 c0) (.slice none 0 0)).run Try.prog w = .ok (.bool true) w:=fun w => Lib.run_eql_slice_nil (P:=Try.prog) w 24 3 none 0 c0 0 0 Try.underlying24
    clear hr0 hc0 hl
    simp only [List.length_nil]
    go_enter Try.func75,Try.ntmps75
    go_wp2
    go_ret
    exact ⟨_,rfl,Kd.R_nil _ _ _ _ _,Below.refl _ w⟩
  | some ad =>
   have heq : ∀ w,(binOp .eql 24 (.slice (some ad) l0.length c0) (.slice none 0 0)).run Try.prog w = .ok (.bool false) w:=fun w => Lib.run_eql_slice_nil (P:=Try.prog) w 24 3 (some ad) l0.length c0 0 0 Try.underlying24
   have HR:=mk_ hr0
   have HL:=mk_ hl
   clear hr0 hl
   go_enter Try.func75,Try.ntmps75
   go_wp2_with (first|((with_reducible refine gate_dst (N:=5) rfl ?_);refine Kd.R_lit (w0:=w) (Kd.int .i64) _ 3 ?hg (N:=5) ?hd (xs:=([] : List Int)) (inner:=[]) (ok:=fun _ => True) (okp:=fun _ => True) ?hr ?hp (fun _ hk => hk) trivial (Below.refl _ _) (Nat.le_refl _) (by simp) ?_;(case hd => rfl);(case hg => rfl);(case hr => first|(go_simp;done)|(go_simp;rfl));(case hp => exact (Reps.none _ _));intro v1 w1 ho hb _ _;have HO:=mk_ ho;have HB:=mk_ hb;clear ho hb)|((with_reducible refine gate_dst (N:=7) rfl ?_);refine Kd.R_append_rows (Kd.int .i64) (w0:=w) w.heap.size rfl (.tmp 5) (.tmp 6) 24 3 (.int .i64 0) 8 rfl Try.underlying24 (by kernel_rfl) rfl (by decide) (by omega) v1 [] l0 _ _ _ (fun _ => True) (fun _ => False) rfl rfl HO.out (cb_ HR.out HB.out) (fun _ _ h => h) (fun _ h => h.elim) (fun _ _ => trivial) HB.out HB.out.size (by have:=HL.out;simp only [List.length_nil];omega) ?_;intro v2 w2 ho hb _ _;rw [List.nil_append] at ho;have HO2:=mk_ ho;have HB2:=mk_ hb;clear ho hb))
   go_ret
   exact ⟨_,rfl,HO2.out,HB2.out⟩
 ·rw [if_neg hl] at h
  cases h
def onceL (l : List Int) : List Int:=Lib.compact (l.mergeSort fun x y => decide (x ≤ y))
theorem own_cut {w : World} {b e g n m cap : Nat} {xs : List Value} (h : w.ownsRow b e 1 (.slice (some ⟨g,0,none⟩) n cap) n xs) (hm : m ≤ n) : w.ownsRow b e 1 (.slice (some ⟨g,0,none⟩) m cap) m (xs.take m):=by
 obtain ⟨h1,h2⟩:=h
 refine ⟨by rw [List.length_take,h1];omega,?_⟩
 rcases h2 with ⟨h2,_⟩|⟨g',cap',cur,hv,hb,hg,hn,hc,hs,ht⟩
 ·cases h2
 ·cases hv
  exact Or.inr ⟨g,cap,cur,rfl,hb,hg,by omega,hc,hs,by rw [← ht,List.take_take];congr 1;omega⟩
theorem below_grown1 {w0 W W1 : World} {row : Option Nat} (h : Below w0.heap.size w0 W) (hg : W.grownBy W1 row) (hr : ∀ k,row = some k → w0.heap.size ≤ k) : Below w0.heap.size w0 W1 :=
 ⟨hg.os.trans h.os,hg.tape.trans h.tape,hg.output.trans h.output,Nat.le_trans h.size hg.size,fun k hk => (hg.block k (Nat.lt_of_lt_of_le hk h.size) (fun e => by have:=hr k e.symm;omega)).trans (h.block k hk)⟩
theorem sort_size (l : List Int) : (l.mergeSort fun x y => decide (x ≤ y)).length = l.length:=List.length_mergeSort l
theorem compact_size (l : List Int) : (Lib.compact l).length ≤ l.length:=by
 unfold Lib.compact Lib.compactUpTo
 rw [List.length_map]
 exact Nat.le_trans (List.length_filter_le _ _) (by rw [List.length_range];exact Nat.le_refl _)
set_option maxHeartbeats 4000000 in
set_option maxRecDepth 100000 in
theorem x_once (A : Option Addr) (c : Nat) (l : List Int) (w : World) (hr : Kd.C (Kd.int .i64) w A l.length l) (hc : l.length ≤ c) (hl : l.length ≤ 10000000000000) :
    Calls Try.prog 37 #[.slice A l.length c] w fun e w' => ∃ v,e = .returned v ∧ Kd.R (Kd.int .i64) 3 w' w.heap.size (fun _ => True) v (onceL l) ∧ Below w.heap.size w w':=by
  have hcl:=slices_Clone_int_int.calls A c l l w hr hc (by show (if _ then _ else _) = _;rw [if_pos (by omega)])
  have HCL:=Aside0.mk hcl
  clear hcl hr hc
  obtain ⟨z,hz⟩ : ∃ z,z = onceL l:=⟨_,rfl⟩
  rw [← hz]
  have HZ:=Aside0.mk hz
  clear hz
  go_enter Try.func37,Try.ntmps37
  go_wp2_with fail
  refine HCL.out.mono ?_
  rintro e w1 ⟨v1,rfl,hr1,hb1⟩
  have HB1:=Aside0.mk hb1
  have hlt1:=Kd.R_lt hr1
  have ho1:=Kd.own_of_R hr1
  clear hr1 hb1 HCL
  by_cases h0 : l.length = 0
  · obtain rfl : l = []:=List.eq_nil_of_length_eq_zero h0
    have HZ0 : Aside0 (z = []):=⟨by rw [HZ.out];unfold onceL;rw [List.mergeSort_nil];rfl⟩
    obtain ⟨A1,c1,rfl⟩ : ∃ A1 c1,v1 = .slice A1 0 c1:=by
      rcases ho1.2 with ⟨h,_⟩ | ⟨g,cap,cur,h,_⟩
      · exact ⟨_,_,h⟩
      · exact ⟨_,_,h⟩
    have HR:=Aside0.mk (show Kd.R (Kd.int .i64) 3 w1 w.heap.size (fun _ => True) (.slice A1 0 c1) [] from Kd.R_of_own (enc:=Value.int .i64) ho1 (fun _ _ => trivial))
    have hs:=Try.slices_Sort_int_none A1 c1 w1
    have hcm:=Try.slices_Compact_int_empty A1 c1 w1
    clear ho1 hlt1
    go_wp2_with (first | (go_at_call 46;refine hs.mono ?_;rintro e w2 ⟨rfl,rfl⟩) | (go_at_call 76;refine hcm.mono ?_;rintro e w2 ⟨rfl,rfl⟩))
    go_ret
    exact ⟨_,rfl,by rw [HZ0.out];exact HR.out,HB1.out⟩
  · obtain ⟨g, cap, cur, rfl, hg, hh, hn, hcap, hsz, ht⟩ : ∃ g cap cur, v1 = .slice (some ⟨g, 0, none⟩) l.length cap ∧ w.heap.size ≤ g ∧ w1.heap[g]? = some (.cells cur 3 (0, 0)) ∧ l.length ≤ cap ∧ cap ≤ maxLen ∧ cur.size = cap * 1 ∧ cur.toList.take l.length = l.map (Value.int .i64) := by
      rcases ho1.2 with ⟨_,h⟩ | ⟨g,cap,cur,h1,h2,h3,h4,h5,h6,h7⟩
      · exact absurd h h0
      · exact ⟨g,cap,cur,h1,h2,h3,h4,h5,h6,by rw [Nat.mul_one] at h7;rw [h7];rfl⟩
    have hs:=Try.slices_Sort_int g 0 cap l w1 (holds_of_blockI hh ht) (blk_lt hh) (by omega)
    have HS:=Aside0.mk hs
    have HH:=Aside0.mk hh
    have HSZ:=Aside0.mk hsz
    clear hs ho1 hlt1 hh hsz ht
    go_wp2_with fail
    refine HS.out.mono ?_
    rintro e w2 ⟨rfl,n,os,hw2⟩
    have hsl:=sort_size l
    have HZ2 : Aside0 (z = Lib.compact (l.mergeSort fun x y => decide (x ≤ y))):=HZ
    generalize (l.mergeSort fun x y => decide (x ≤ y)) = s at hw2 hsl HZ2
    have ho2:=ownsRow_sortedI (n:=n) (os:=os) (ts:=s) (ss:=l) hsl hg HH.out hn hcap HSZ.out
    have hb2:=heap_sortedI (n:=n) (os:=os) s.toArray HH.out
    have hg2:=grownBy_sortedI (w:=w1) (g:=g) (n:=n) (os:=os) s.toArray
    rw [← hw2] at ho2 hb2 hg2
    have hsz:=HSZ.out
    have htk:=take_putCellsI cur s (by omega)
    have hcm:=Try.slices_Compact_int g 0 cap s w2 (holds_of_blockI hb2 htk) (by omega) (by omega)
    have hcz:=compact_size s
    rw [hsl] at hcm hcz
    have HB2:=Aside0.mk (below_grown1 HB1.out hg2 (fun k hk => by injection hk with hk;omega))
    have HCM:=Aside0.mk hcm
    have HB:=Aside0.mk hb2
    have HSL:=Aside0.mk hsl
    have HP : Aside0 ((Go.Sort.putCells (Value.int .i64) 0 s.toArray cur).size = cap * 1):=⟨by simp [Go.Sort.putCells,hsz]⟩
    clear hcm ho2 hb2 hg2 htk hw2 hsl HS HSZ HH HB1
    go_wp2_with fail
    refine HCM.out.mono ?_
    rintro e w3 ⟨rfl,q,hw3⟩
    have hl3 : (Lib.compact s ++ List.replicate (l.length - (Lib.compact s).length) (0 : Int)).length = l.length:=by rw [List.length_append,List.length_replicate];omega
    have ho3:=ownsRow_sortedI (n:=q) (os:=#[]) (ts:=Lib.compact s ++ List.replicate (l.length - (Lib.compact s).length) (0 : Int)) (ss:=l) hl3 hg HB.out hn hcap HP.out
    have hg3:=grownBy_sortedI (w:=w2) (g:=g) (n:=q) (os:=#[]) (Lib.compact s ++ List.replicate (l.length - (Lib.compact s).length) (0 : Int)).toArray
    rw [Go.Sort.grow_empty,← hw3] at ho3 hg3
    have ho4:=own_cut ho3 hcz
    have e4 : ((Lib.compact s ++ List.replicate (l.length - (Lib.compact s).length) (0 : Int)).map (Value.int .i64)).take (Lib.compact s).length = (Lib.compact s).map (Value.int .i64):=by
      rw [List.map_append,List.take_append_of_le_length (by simp),List.take_of_length_le (by simp)]
    rw [e4] at ho4
    have HR:=Aside0.mk (show Kd.R (Kd.int .i64) 3 w3 w.heap.size (fun _ => True) (.slice (some ⟨g,0,none⟩) (Lib.compact s).length cap) (Lib.compact s) from Kd.R_of_own (enc:=Value.int .i64) ho4 (fun _ _ => trivial))
    have HB3:=Aside0.mk (below_grown1 HB2.out hg3 (fun k hk => by injection hk with hk;omega))
    clear ho3 hg3 ho4 e4 hl3 hw3 HP HB HB2 HCM
    go_wp2_with fail
    go_ret
    exact ⟨_,rfl,by rw [HZ2.out];exact HR.out,HB3.out⟩
/-! ### slices_Sort_int_int: function 46 (by hand) -/
def slices_Sort_int_int.f (k : Nat) (l0 : List Int) : Option (List Int) :=
 if l0.length ≤ 10000000000000 then some (l0.mergeSort fun x y => decide (x ≤ y)) else none
theorem slices_Sort_int_int.mono : ∀ a0 k,LeO (slices_Sort_int_int.f k a0) (slices_Sort_int_int.f (k + 1) a0):=fun _ _ => LeO.refl _
set_option maxHeartbeats 4000000 in
set_option maxRecDepth 100000 in
theorem slices_Sort_int_int.calls (k : Nat) (P0_ : Nat → Prop) (u9000_ : Value) (l0 : List Int) (r : List Int) (w0 w : World) (hB : Below w0.heap.size w0 w) (ho0 : Kd.R (Kd.int .i64) 3 w w0.heap.size P0_ u9000_ l0) (h : slices_Sort_int_int.f k l0 = some r) :
  Calls Try.prog 46 #[u9000_] w fun e w' => e = .returned (.tuple #[]) ∧ Kd.R (Kd.int .i64) 3 w' w0.heap.size (fun k_ => (P0_ k_ ∨ w.heap.size ≤ k_)) u9000_ r ∧ Below w0.heap.size w0 w' ∧ Kept w w' (fun k_ => P0_ k_):=by
 unfold slices_Sort_int_int.f at h
 by_cases hl : l0.length ≤ 10000000000000
 ·rw [if_pos hl] at h
  obtain rfl:=Option.some.inj h
  have hP:=ho0.1
  have ho1:=Kd.own_of_R ho0
  by_cases h0 : l0.length = 0
  ·obtain rfl : l0 = []:=List.eq_nil_of_length_eq_zero h0
   rw [List.mergeSort_nil]
   obtain ⟨A1,c1,rfl⟩ : ∃ A1 c1,u9000_ = .slice A1 0 c1:=by
    rcases ho1.2 with ⟨h,_⟩|⟨g,cap,cur,h,_⟩
    ·exact ⟨_,_,h⟩
    ·exact ⟨_,_,h⟩
   refine (Try.slices_Sort_int_none A1 c1 w).mono ?_
   rintro e w2 ⟨rfl,rfl⟩
   exact ⟨rfl,rm_ ho0 (fun _ hk => Or.inl hk),hB,Kept.refl _ _⟩
  ·obtain ⟨g,cap,cur,rfl,hg,hh,hn,hcap,hsz,ht⟩ : ∃ g cap cur,u9000_ = .slice (some ⟨g,0,none⟩) l0.length cap ∧ w0.heap.size ≤ g ∧ w.heap[g]? = some (.cells cur 3 (0,0)) ∧ l0.length ≤ cap ∧ cap ≤ maxLen ∧ cur.size = cap * 1 ∧ cur.toList.take l0.length = l0.map (Value.int .i64):=by
    rcases ho1.2 with ⟨_,h⟩|⟨g,cap,cur,h1,h2,h3,h4,h5,h6,h7⟩
    ·exact absurd h h0
    ·exact ⟨g,cap,cur,h1,h2,h3,h4,h5,h6,by rw [Nat.mul_one] at h7;rw [h7];rfl⟩
   refine (Try.slices_Sort_int g 0 cap l0 w (holds_of_blockI hh ht) (blk_lt hh) (by omega)).mono ?_
   rintro e w2 ⟨rfl,n,os,hw2⟩
   have hsl:=sort_size l0
   generalize (l0.mergeSort fun x y => decide (x ≤ y)) = s at hw2 hsl ⊢
   have ho2:=ownsRow_sortedI (n:=n) (os:=os) (ts:=s) (ss:=l0) hsl hg hh hn hcap hsz
   have hg2:=grownBy_sortedI (w:=w) (g:=g) (n:=n) (os:=os) s.toArray
   rw [← hw2] at ho2 hg2
   rw [← hsl] at ho2 ⊢
   refine ⟨rfl,Kd.R_of_own (enc:=Value.int .i64) ho2 (fun k hk => Or.inl (hP k hk)),below_grown1 hB hg2 (fun k hk => by injection hk with hk;omega),Kept.of_grown hg2 (Kept.refl _ _) (fun k hk => Or.inl (hP k hk))⟩
 ·rw [if_neg hl] at h
  cases h
def relaxR (o : List Int) (c : S83) : List Int:=(o.set c.f0.toNat (mn (rd o c.f0) (rd o c.f1))).set c.f1.toNat (mn (rd o c.f0) (rd o c.f1))
def fillL : Nat → List Int → List Int
 | 0,l => l
 | k + 1,l => (fillL k l).set k (k : Int)
def passR (cs : List S83) : Nat → List Int → List Int
 | 0,l => l
 | k + 1,l => cs.foldl relaxR (passR cs k l)
def rootsL (N : Nat) (cs : List S83) : List Int:=passR cs N (fillL N (List.replicate N 0))
theorem foldl_len (cs : List S83) : ∀ l,(cs.foldl relaxR l).length = l.length:=by
 induction cs with
 | nil => exact fun _ => rfl
 | cons c cs ih => intro l;rw [List.foldl_cons,ih];unfold relaxR;simp
theorem fillL_len (k : Nat) (l : List Int) : (fillL k l).length = l.length:=by
 induction k with
 | zero => rfl
 | succ k ih => rw [fillL,List.length_set,ih]
theorem passR_len (cs : List S83) (k : Nat) (l : List Int) : (passR cs k l).length = l.length:=by
 induction k with
 | zero => rfl
 | succ k ih => rw [passR,foldl_len,ih]
set_option maxHeartbeats 8000000 in
set_option maxRecDepth 100000 in
theorem x_rootsOf (N : Nat) (A1 : Option Addr) (c1 : Nat) (l1 : List S83) (w : World) (hN : 1 ≤ N ∧ N ≤ 8) (hl : l1.length ≤ 20) (hcs : ∀ x ∈ l1, 0 ≤ x.f0 ∧ x.f0 < N ∧ 0 ≤ x.f1 ∧ x.f1 < N ∧ x.f0 ≠ x.f1) (hr1 : Kd.C k83 w A1 l1.length l1) :
  Calls Try.prog 43 #[.int .i64 (N : Int),.slice A1 l1.length c1] w fun e w' => ∃ v0_ : Value,e = .returned (v0_) ∧ Kd.R (Kd.int .i64) 3 w' w.heap.size (fun _ => True) v0_ (rootsL N l1) ∧ Below w.heap.size w w':=by
 have hu:=Try.underlying83
 have HR:=mk_ hr1
 have HCS:=mk_ hcs
 have HZ : Aside0 (rootsL N l1 = passR l1 N (fillL N (List.replicate N 0))):=⟨rfl⟩
 generalize rootsL N l1 = z at HZ ⊢
 clear hr1 hcs
 obtain ⟨hN1,hN8⟩:=hN
 go_enter Try.func43,Try.ntmps43
 go_wp2_with (first|((with_reducible refine gate_dst (N:=11) rfl ?_);refine Kd.R_make (Kd.int .i64) (w0:=w) w.heap.size 3 rfl (N:=11) rfl 24 _ _ rfl (N : Int) rfl rfl Try.underlying24 (.int .i64 0) 8 (by kernel_rfl) rfl (by decide) (by omega) 0 (ok:=fun _ => True) (okp:=fun _ => True) rfl (fun _ hk => hk) trivial (by omega) (by rw [Int.toNat_natCast];omega) (Below.refl _ _) (Nat.le_refl _) ?_;intro v1 w1 ho hb hg hnew;rw [Int.toNat_natCast] at ho;obtain ⟨go,co,ev,hgo,hgl,_⟩:=Kd.R_form ho (by simp;omega);rw [List.length_replicate] at ev;subst ev;have HO1:=mk_ ho;have HB1:=mk_ hb;clear ho hb hg hnew))
 go_loopg [6,14] N (fun gg _ s14 wr => ∃ kk : Nat,kk ≤ N ∧ N - kk ≤ gg ∧ s14 = .int .i64 kk ∧ Aside0 (Kd.R (Kd.int .i64) 3 wr w.heap.size (fun _ => True) (.slice (some ⟨go,0,none⟩) N co) (fillL kk (List.replicate N 0))) ∧ Aside0 (Below w.heap.size w wr))
 case atStart => exact ⟨0,Nat.zero_le _,by omega,rfl,HO1,HB1⟩
 case round =>
  clear HO1 HB1
  obtain ⟨kk,hkk,hgg,rfl,HO,BW⟩:=hrel
  by_cases hlt : kk < N
  ·obtain ⟨hx,hf⟩:=Kd.R_celln 0 HO.out (kk : Int) (by omega) (by omega)
   have HP:=Kd.R_putg HO.out (kk : Int) (kk : Int)
   have hp1:=mk_ HP.1
   have hb1:=mk_ (bs_ BW.out hgo (j:=(kk : Int).toNat) (v:=.int .i64 (kk : Int)))
   rw [Int.toNat_natCast] at hx hf hp1 hb1
   have p1 : ((kk : Int) < (N : Int)) = True:=eq_true (by omega)
   have p0 : (0 ≤ (kk : Int)) = True:=eq_true (by omega)
   clear HP
   go_wp2
   go_roundg (N - (kk + 1))
   case measure => omega
   case rel => exact ⟨kk + 1,by omega,by omega,by go_num,hp1,hb1⟩
  ·have e : kk = N:=by omega
   subst e
   have HK:=mk_ HO.out
   have HBK:=mk_ BW.out
   clear hlt hkk hgg HO BW
   go_wp2
   obtain ⟨wo,rfl⟩ : ∃ wo : World,wo = wr:=⟨_,rfl⟩
   go_loopg [8,9,23,27] kk (fun gg _ _ s23 _ wr => ∃ ii : Nat,ii ≤ kk ∧ kk - ii ≤ gg ∧ s23 = .int .i64 ii ∧ Aside0 (Kd.R (Kd.int .i64) 3 wr w.heap.size (fun _ => True) (.slice (some ⟨go,0,none⟩) kk co) (passR l1 ii (fillL kk (List.replicate kk 0)))) ∧ Aside0 (Below w.heap.size w wr))
   case atStart => exact ⟨0,Nat.zero_le _,by omega,rfl,HK,HBK⟩
   case round =>
    clear HK HBK
    obtain ⟨ii,hii,hgg,rfl,HO,BW⟩:=hrel
    by_cases hlt : ii < kk
    ·have p1 : ((ii : Int) < (kk : Int)) = True:=eq_true (by omega)
     have HO0:=HO
     have HB0:=BW
     have HL0 : Aside0 ((passR l1 ii (fillL kk (List.replicate kk 0))).length = kk):=⟨by rw [passR_len,fillL_len,List.length_replicate]⟩
     have HP0 : Aside0 (passR l1 (ii + 1) (fillL kk (List.replicate kk 0)) = l1.foldl relaxR (passR l1 ii (fillL kk (List.replicate kk 0)))):=⟨rfl⟩
     generalize passR l1 ii (fillL kk (List.replicate kk 0)) = L0 at HO0 HL0 HP0
     clear HO BW
     go_wp2
     obtain ⟨wo2,rfl⟩ : ∃ wo2 : World,wo2 = wr:=⟨_,rfl⟩
     go_loopg [8,9,27] l1.length (fun gg _ _ s27 wr => ∃ jj : Nat,jj ≤ l1.length ∧ l1.length - jj ≤ gg ∧ s27 = .int .i64 jj ∧ Aside0 (Kd.R (Kd.int .i64) 3 wr w.heap.size (fun _ => True) (.slice (some ⟨go,0,none⟩) kk co) ((l1.take jj).foldl relaxR L0)) ∧ Aside0 (Below w.heap.size w wr))
     case atStart => exact ⟨0,Nat.zero_le _,by omega,rfl,HO0,HB0⟩
     case round =>
      clear HO0 HB0
      obtain ⟨jj,hjj,hgg2,rfl,HO,BW⟩:=hrel
      by_cases hlt2 : jj < l1.length
      ·obtain ⟨ad,e,hx0,hx1,hx2⟩:=at_T83 (cb_ HR.out BW.out) (jj : Int) (by omega) (by omega)
       cases e
       rw [Int.toNat_natCast] at hx0 hx1 hx2
       rw [rdCab_get l1 jj hlt2] at hx0 hx1 hx2
       obtain ⟨g1,g2,g3,g4,g5⟩:=HCS.out l1[jj] (List.getElem_mem hlt2)
       have HF : Aside0 ((l1.take (jj + 1)).foldl relaxR L0 = relaxR ((l1.take jj).foldl relaxR L0) l1[jj]):=⟨by rw [List.take_succ_eq_append_getElem hlt2,List.foldl_append];rfl⟩
       have HL1 : Aside0 (((l1.take jj).foldl relaxR L0).length = kk):=⟨by rw [foldl_len,HL0.out]⟩
       generalize l1[jj] = cc at hx0 hx1 hx2 g1 g2 g3 g4 g5 HF
       obtain ⟨A,B,C⟩:=cc
       simp only [] at hx0 hx1 hx2 g1 g2 g3 g4 g5
       generalize (l1.take jj).foldl relaxR L0 = L1 at HO HF HL1
       have p1 : ((jj : Int) < (l1.length : Int)) = True:=eq_true (by omega)
       have hsz : w.heap.size ≤ wr.heap.size:=BW.out.size
       go_wp2
       have HOa:=rb_ HO.out (ba_ (Below.refl _ wr) (.cells #[.int .i64 A,.int .i64 B,.int .i64 C] 83))
       have HBa:=mk_ (ba_ BW.out (.cells #[.int .i64 A,.int .i64 B,.int .i64 C] 83))
       have HNa:=blk_new wr (.cells #[.int .i64 A,.int .i64 B,.int .i64 C] 83)
       have hgs:=mk_ hsz
       generalize wr.alloc (.cells #[.int .i64 A,.int .i64 B,.int .i64 C] 83) = W1 at HOa HBa HNa ⊢
       generalize wr.heap.size = gc at HNa hgs ⊢
       have k0 : W1.cell? ⟨gc,0,none⟩ = some (.int .i64 A):=(bc_ HNa 0).trans rfl
       have k1 : W1.cell? ⟨gc,1,none⟩ = some (.int .i64 B):=(bc_ HNa 1).trans rfl
       obtain ⟨ha,fa⟩:=Kd.R_celln 0 HOa A g1 g2
       obtain ⟨hb,fb⟩:=Kd.R_celln 0 HOa B g3 g4
       have q1 : (0 ≤ A) = True:=eq_true g1
       have q2 : (A < (kk : Int)) = True:=eq_true g2
       have q3 : (0 ≤ B) = True:=eq_true g3
       have q4 : (B < (kk : Int)) = True:=eq_true g4
       have HOA:=mk_ HOa
       clear HOa HO BW hsz
       have HM : Aside0 (relaxR L1 ⟨A,B,C⟩ = (L1.set A.toNat (mn (rdOf 0 L1 A) (rdOf 0 L1 B))).set B.toNat (mn (rdOf 0 L1 A) (rdOf 0 L1 B))):=⟨rfl⟩
       have n1 : (A.toNat = B.toNat) = False:=eq_false (by omega)
       have n2 : (B.toNat = A.toNat) = False:=eq_false (by omega)
       have HN:=mk_ HNa
       have hgne : gc ≠ go:=by
        intro e
        rw [e] at HNa
        exact Kd.R_ne HOA.out HNa (by decide) (by simp [Value.ownBlock])
       have n3 : (gc = go) = False:=eq_false hgne
       have n4 : (go = gc) = False:=eq_false (Ne.symm hgne)
       clear g5 HNa hgne
       have hmn : mn (rdOf 0 L1 A) (rdOf 0 L1 B) = if rdOf 0 L1 A ≤ rdOf 0 L1 B then rdOf 0 L1 A else rdOf 0 L1 B:=by
        show (if rdOf 0 L1 B < rdOf 0 L1 A then rdOf 0 L1 B else rdOf 0 L1 A) = _
        split <;> split <;> omega
       rw [hmn] at HM
       clear hmn
       generalize rdOf 0 L1 A = ra at *
       generalize rdOf 0 L1 B = rb at *
       go_quiet (fail)
       go_wp2
       all_goals (first|((have hm : ra ≤ rb:=by assumption);rw [if_pos hm] at HM;clear hm)|((have hm : rb < ra:=by assumption);rw [if_neg (by omega)] at HM;clear hm))
       all_goals
        have k0' : (W1.drewN nq).cell? ⟨gc,0,none⟩ = some (.int .i64 A):=k0
        have k1' : (W1.drewN nq).cell? ⟨gc,1,none⟩ = some (.int .i64 B):=k1
        have ha' : (W1.drewN nq).cell? ⟨go,A.toNat,none⟩ = some (.int .i64 ra):=ha
        have hb' : (W1.drewN nq).cell? ⟨go,B.toNat,none⟩ = some (.int .i64 rb):=hb
        have fa' : (W1.drewN nq).frozen? ⟨go,A.toNat,none⟩ = false:=fa
        have fb' : (W1.drewN nq).frozen? ⟨go,B.toNat,none⟩ = false:=fb
        have HO2:=mk_ (rb_ HOA.out (bn_ (Below.refl _ W1) nq))
        have HB2:=mk_ (st_ HBa.out (bn_ (Below.refl _ W1) nq))
        clear k0 k1 ha hb fa fb HOA HBa
        generalize W1.drewN nq = W2 at *
        go_region
       ·have HO3:=mk_ (rd_ (Kd.R_putg (Kd.R_putg HO2.out A rb).1 B rb).1)
        have HB3:=mk_ (bd_ (bs_ (bs_ HB2.out hgo (j:=A.toNat) (v:=.int .i64 rb)) hgo (j:=B.toNat) (v:=.int .i64 rb)))
        rw [← HM.out,← HF.out] at HO3
        clear HO2 HB2 k0' k1' ha' hb' fa' fb'
        go_wp2
        go_roundg (l1.length - (jj + 1))
        case measure => omega
        case rel => exact ⟨jj + 1,by omega,by omega,by go_num,HO3,HB3⟩
       ·have HO3:=mk_ (rd_ (Kd.R_putg (Kd.R_putg HO2.out A ra).1 B ra).1)
        have HB3:=mk_ (bd_ (bs_ (bs_ HB2.out hgo (j:=A.toNat) (v:=.int .i64 ra)) hgo (j:=B.toNat) (v:=.int .i64 ra)))
        rw [← HM.out,← HF.out] at HO3
        clear HO2 HB2 k0' k1' ha' hb' fa' fb'
        go_wp2
        go_roundg (l1.length - (jj + 1))
        case measure => omega
        case rel => exact ⟨jj + 1,by omega,by omega,by go_num,HO3,HB3⟩
      ·have e : jj = l1.length:=by omega
       subst e
       rw [List.take_length,← HP0.out] at HO
       go_wp2
       go_roundg (kk - (ii + 1))
       case measure => omega
       case rel => exact ⟨ii + 1,by omega,by omega,by go_num,HO,BW⟩
    ·have e : ii = kk:=by omega
     subst e
     go_wp2
     go_ret
     exact ⟨_,rfl,by rw [HZ.out];exact HO.out,BW.out⟩
/-! ### impl_rootsOf: function 43 (by hand) -/
def impl_rootsOf.f (a0 : Int) (l1 : List (S83)) : Option (List Int) :=
 if cabsB a0 l1 = true then some (rootsL a0.toNat l1) else none
set_option maxHeartbeats 4000000 in
set_option maxRecDepth 100000 in
theorem impl_rootsOf.calls (a0 : Int) (A1 : Option Addr) (c1 : Nat) (l1 : List (S83)) (r : List Int) (w : World) (hr1 : Kd.C k83 w A1 l1.length l1) (hc1 : l1.length ≤ c1) (h : impl_rootsOf.f a0 l1 = some r) :
  Calls Try.prog 43 #[.int .i64 a0,.slice A1 l1.length c1] w fun e w' => ∃ v0_ : Value,e = .returned (v0_) ∧ Kd.R (Kd.int .i64) 3 w' w.heap.size (fun _ => True) v0_ r ∧ Below w.heap.size w w':=by
 unfold impl_rootsOf.f at h
 cases hv : cabsB a0 l1 with
 | false => rw [hv,if_neg (by decide)] at h;cases h
 | true =>
  rw [hv,if_pos rfl] at h
  obtain rfl:=Option.some.inj h
  obtain ⟨f1,f2,f3,f4⟩:=cabsB_facts hv
  obtain ⟨N,hN⟩ : ∃ N : Nat,a0 = (N : Int):=⟨a0.toNat,by omega⟩
  subst hN
  rw [Int.toNat_natCast]
  exact x_rootsOf N A1 c1 l1 w (by omega) f3 (fun x hx => by have:=f4 x hx;omega) hr1
/-! ### bits_Mul64: function 122 -/
def bits_Mul64.f (a0 : Int) (a1 : Int) : Option (Int × Int):=some (IntKind.u64.wrap ((IntKind.u64.wrap ((IntKind.u64.wrap ((a0 / 4294967296) * (a1 / 4294967296))) + ((IntKind.u64.wrap ((IntKind.u64.wrap ((a0 / 4294967296) * (Go.bits .and .u64 a1 4294967295))) + ((IntKind.u64.wrap ((Go.bits .and .u64 a0 4294967295) * (Go.bits .and .u64 a1 4294967295))) / 4294967296))) / 4294967296))) + ((IntKind.u64.wrap ((Go.bits .and .u64 (IntKind.u64.wrap ((IntKind.u64.wrap ((a0 / 4294967296) * (Go.bits .and .u64 a1 4294967295))) + ((IntKind.u64.wrap ((Go.bits .and .u64 a0 4294967295) * (Go.bits .and .u64 a1 4294967295))) / 4294967296))) 4294967295) + (IntKind.u64.wrap ((Go.bits .and .u64 a0 4294967295) * (a1 / 4294967296))))) / 4294967296)),IntKind.u64.wrap (a0 * a1))
set_option maxHeartbeats 8000000 in
set_option maxRecDepth 100000 in
theorem bits_Mul64.calls (a0 : Int) (a1 : Int) (r1 : Int) (r2 : Int) (w : World) (h : bits_Mul64.f a0 a1 = some (r1,r2)) :
  Calls Try.prog 122 #[.int .u64 a0,.int .u64 a1] w fun e w' => e = .returned (.tuple #[.int .u64 r1,.int .u64 r2]) ∧ Drawn0 w w':=by
 have H : (some (IntKind.u64.wrap ((IntKind.u64.wrap ((IntKind.u64.wrap ((a0 / 4294967296) * (a1 / 4294967296))) + ((IntKind.u64.wrap ((IntKind.u64.wrap ((a0 / 4294967296) * (Go.bits .and .u64 a1 4294967295))) + ((IntKind.u64.wrap ((Go.bits .and .u64 a0 4294967295) * (Go.bits .and .u64 a1 4294967295))) / 4294967296))) / 4294967296))) + ((IntKind.u64.wrap ((Go.bits .and .u64 (IntKind.u64.wrap ((IntKind.u64.wrap ((a0 / 4294967296) * (Go.bits .and .u64 a1 4294967295))) + ((IntKind.u64.wrap ((Go.bits .and .u64 a0 4294967295) * (Go.bits .and .u64 a1 4294967295))) / 4294967296))) 4294967295) + (IntKind.u64.wrap ((Go.bits .and .u64 a0 4294967295) * (a1 / 4294967296))))) / 4294967296)),IntKind.u64.wrap (a0 * a1))) = some (r1,r2):=h
 clear h
 simp only [Option.some.injEq,Prod.mk.injEq] at H
 obtain ⟨rfl,rfl⟩:=H
 go_enter Try.func122,Try.ntmps122
 go_wp2
 go_ret2
 exact ⟨by first|rfl|(simp;done)|(simp [*];done),by repeat (first|exact Drawn0.refl _|apply Drawn0.step)⟩
/-! ### bits_Mul: function 112 -/
def bits_Mul.f (a0 : Int) (a1 : Int) : Option (Int × Int):=(bits_Mul64.f a0 a1).bind fun bt357 => (some (bt357.1,bt357.2))
set_option maxHeartbeats 8000000 in
set_option maxRecDepth 100000 in
theorem bits_Mul.calls (a0 : Int) (a1 : Int) (r1 : Int) (r2 : Int) (w : World) (h : bits_Mul.f a0 a1 = some (r1,r2)) :
  Calls Try.prog 112 #[.int .u64 a0,.int .u64 a1] w fun e w' => e = .returned (.tuple #[.int .u64 r1,.int .u64 r2]) ∧ Drawn0 w w':=by
 have H : ((bits_Mul64.f a0 a1).bind fun bt357 => (some (bt357.1,bt357.2))) = some (r1,r2):=h
 clear h
 replace H:=Option.bind_eq_some_iff.mp H
 obtain ⟨⟨t357,t358⟩,A30,H⟩:=H
 replace H : (some (t357,t358)) = some (r1,r2):=H
 have A3:=mk_ A30
 clear A30
 simp only [Option.some.injEq,Prod.mk.injEq] at H
 obtain ⟨rfl,rfl⟩:=H
 go_enter Try.func112,Try.ntmps112
 go_wp2_with (first|((with_reducible refine gate_callee (f:=122) rfl ?_);refine goesL_ (some 25) rfl rfl Try.func122 (by kernel_rfl) rfl #[.int .u64 a0,.int .u64 a1] rfl qm_ ?_;(with_reducible refine (bits_Mul64.calls a0 a1 t357 t358 _ A3.out).mono ?_);rintro e w' ⟨rfl,⟨nd,rfl⟩⟩;refine ⟨_,rfl,?_⟩))
 go_ret2
 exact ⟨by first|rfl|(simp;done)|(simp [*];done),by repeat (first|exact Drawn0.refl _|apply Drawn0.step)⟩
/-! ### slices_Repeat_int_int: function 96 (by hand) -/
theorem R_fills {g cap : Nat} {base : Nat} {ok : Nat → Prop} {n : Nat} (v : Int) (m : Nat) : ∀ (o : Nat) (W : World) (xs : List Int),Kd.R (Kd.int .i64) 3 W base ok (.slice (some ⟨g,0,none⟩) n cap) xs → o + m ≤ n → xs.take o = List.replicate o v →
  ∃ ys,Kd.R (Kd.int .i64) 3 (W.setCells g o (List.replicate m (.int .i64 v))) base ok (.slice (some ⟨g,0,none⟩) n cap) ys ∧ ys.take (o + m) = List.replicate (o + m) v:=by
 induction m with
 | zero => exact fun o W xs h _ he => ⟨xs,h,he⟩
 | succ m ih =>
  intro o W xs h hm he
  have hn:=(rr_ h).1
  have h1:=(Kd.R_putg h (o : Int) v).1
  rw [Int.toNat_natCast] at h1
  obtain ⟨ys,h2,h3⟩:=ih (o + 1) _ _ h1 (by omega) (by
   rw [List.take_add_one,List.take_set_of_le (Nat.le_refl o),he,List.getElem?_set_self (by omega),List.replicate_succ']
   rfl)
  exact ⟨ys,h2,by rw [show o + (m + 1) = o + 1 + m by omega];exact h3⟩
theorem below_fills {w0 : World} {g : Nat} (hg : w0.heap.size ≤ g) (vs : List Value) : ∀ (o : Nat) (W : World),Below w0.heap.size w0 W → Below w0.heap.size w0 (W.setCells g o vs):=by
 induction vs with
 | nil => exact fun _ _ h => h
 | cons v vs ih => exact fun o W h => ih (o + 1) _ (bs_ h hg)
/-- 'copy' of a row's first n cells behind themselves. -/
theorem copy_fills {g cap n : Nat} {base : Nat} {ok : Nat → Prop} {W : World} {xs : List Int} (v : Int) (o m c1 c2 : Nat) (h : Kd.R (Kd.int .i64) 3 W base ok (.slice (some ⟨g,0,none⟩) n cap) xs) (he : xs.take o = List.replicate o v) (hm : m = Nat.min o (n - o)) (ho : o ≤ n) :
  ∀ ty,(Builtin.copy_ #[24,24] ty #[.slice (some ⟨g,o,none⟩) (n - o) c1,.slice (some ⟨g,0,none⟩) o c2]).run Try.prog W = .ok (.int .i64 m) (W.setCells g o (List.replicate m (.int .i64 v))):=by
 intro ty
 have hn:=(rr_ h).1
 have hmo : m ≤ o ∧ m ≤ n - o:=by rw [hm];exact ⟨Nat.min_le_left _ _,Nat.min_le_right _ _⟩
 have hval : ∀ j,j < o → rdOf 0 xs (j : Int) = v:=fun j hj => by
  have:=congrArg (fun t => t[j]?) he
  simp only [List.getElem?_take,if_pos hj,List.getElem?_replicate] at this
  simp [rdOf,List.getD_eq_getElem?_getD,this]
 have e:=run_copy_cells (P:=Try.prog) W 24 24 ty 3 g o (n - o) c1 ⟨g,0,none⟩ o c2 (List.replicate m (.int .i64 v)) Try.underlying24 (by kernel_rfl) (by rw [List.length_replicate];exact hm)
  (fun j u hj => by
   rw [List.getElem?_replicate] at hj
   split at hj
   ·rename_i hjm
    have hc:=(Kd.R_celln 0 h (j : Int) (by omega) (by omega)).1
    rw [Int.toNat_natCast,hval j (by omega)] at hc
    have e2 : (⟨g,0,none⟩ : Addr).add j = ⟨g,j,none⟩:=by simp [Addr.add];exact fun h => h.symm
    rw [e2,hc]
    exact hj
   ·cases hj)
  (fun j hj => by
   rw [List.length_replicate] at hj
   have hc:=(Kd.R_celln 0 h ((o + j : Nat) : Int) (by omega) (by omega)).1
   rw [Int.toNat_natCast] at hc
   rw [hc];rfl)
  (fun j hj => by
   rw [List.length_replicate] at hj
   have hc:=(Kd.R_celln 0 h ((o + j : Nat) : Int) (by omega) (by omega)).2
   rw [Int.toNat_natCast] at hc
   exact hc)
  (fun u hu => by rw [List.eq_of_mem_replicate hu];rfl)
 rw [List.length_replicate] at e
 exact e
theorem step_copy_run {P : Program} {ops : Array Oper} {o : Oper} {a : Act} {w : World} {K : Act → World → Prop} {Q : Exit → Act → World → Prop} {E : Prop}
  (hg : o.guard = none) (d x : Operand) (dT sT : TypeId) (hop : o.op = Op.call { callee:=Callee.builtin Builtin.copy,args:=#[d,x],argTypes:=#[dT,sT] })
  (v u : Value) (hd : a.eval d = v) (hx : a.eval x = u) {v' : Value} {w' : World} (hr : (Builtin.copy_ #[dT,sT] o.type #[v,u]).run P w = .ok v' w') (hK : K (a.put o.dst v') w') :
  if Region.wanted o (yielded ops a.tmps) = true then Oper.wp P o a w K Q else E:=by
 have hw : Region.wanted o (yielded ops a.tmps) = true:=by simp [Region.wanted,hg]
 rw [if_pos hw]
 unfold Oper.wp
 simp [execOp,hop,resolve,invoke,builtin,hd,hx,hr,Result.andThen]
 exact hK
/-- The first copy: of one number. -/
theorem first_copy {g cap n c0 : Nat} {base : Nat} {ok : Nat → Prop} {W : World} {xs : List Int} {v : Int} {ad : Addr} (h : Kd.R (Kd.int .i64) 3 W base ok (.slice (some ⟨g,0,none⟩) n cap) xs) (hn1 : 1 ≤ n) (hs : Kd.C (Kd.int .i64) W (some ad) 1 [v]) :
  ∀ ty,(Builtin.copy_ #[24,24] ty #[.slice (some ⟨g,0,none⟩) n cap,.slice (some ad) 1 c0]).run Try.prog W = .ok (.int .i64 1) (W.setCells g 0 [.int .i64 v]):=by
 intro ty
 obtain ⟨ad',e,hx⟩:=Kd.at_int hs (0 : Int) (by omega) (by omega)
 obtain rfl:=Option.some.inj e
 have hc:=Kd.R_celln 0 h (0 : Int) (by omega) (by omega)
 exact run_copy_cells (P:=Try.prog) W 24 24 ty 3 g 0 n cap ad 1 c0 [.int .i64 v] Try.underlying24 (by kernel_rfl) (by have : Nat.min 1 n = 1:=Nat.min_eq_left hn1;rw [this];rfl)
  (fun j u hj => by
   match j,hj with
   | 0,hj => exact hx.trans hj
   | j + 1,hj => simp at hj)
  (fun j hj => by
   obtain rfl : j = 0:=by simp at hj;exact hj
   rw [show (⟨g,0 + 0,none⟩ : Addr) = ⟨g,(0 : Int).toNat,none⟩ from rfl,hc.1];rfl)
  (fun j hj => by
   obtain rfl : j = 0:=by simp at hj;exact hj
   exact hc.2)
  (fun u hu => by rw [List.mem_singleton.1 hu];rfl)
def slices_Repeat_int_int.f (l0 : List Int) (a1 : Int) : Option (List Int) :=
 match l0 with
 | [v] => if 1 ≤ a1 ∧ a1 ≤ 20 then some (List.replicate a1.toNat v) else none
 | _ => none
set_option maxHeartbeats 4000000 in
set_option maxRecDepth 100000 in
theorem slices_Repeat_int_int.calls (A0 : Option Addr) (c0 : Nat) (l0 : List Int) (a1 : Int) (r : List Int) (w : World) (hr0 : Kd.C (Kd.int .i64) w A0 l0.length l0) (hc0 : l0.length ≤ c0) (h : slices_Repeat_int_int.f l0 a1 = some r) :
  Calls Try.prog 96 #[.slice A0 l0.length c0,.int .i64 a1] w fun e w' => ∃ v0_ : Value,e = .returned (v0_) ∧ Kd.R (Kd.int .i64) 3 w' w.heap.size (fun _ => True) v0_ r ∧ Below w.heap.size w w':=by
 unfold slices_Repeat_int_int.f at h
 match l0,h,hr0,hc0 with
 | [],h,_,_ => cases h
 | _ :: _ :: _,h,_,_ => cases h
 | [v],h,hr0,hc0 =>
  simp only [] at h
  by_cases hc : 1 ≤ a1 ∧ a1 ≤ 20
  ·rw [if_pos hc] at h
   obtain rfl:=Option.some.inj h
   clear h
   obtain ⟨N,hN⟩ : ∃ N : Nat,a1 = (N : Int):=⟨a1.toNat,by omega⟩
   subst hN
   rw [Int.toNat_natCast]
   obtain ⟨ad,e,hx⟩:=Kd.at_int hr0 (0 : Int) (by omega) (by simp)
   subst e
   have hN1 : 1 ≤ N:=by omega
   have hN20 : N ≤ 20:=by omega
   have hmul : bits_Mul.f 1 (N : Int) = some (0,(N : Int)):=by
    have : N = 1 ∨ N = 2 ∨ N = 3 ∨ N = 4 ∨ N = 5 ∨ N = 6 ∨ N = 7 ∨ N = 8 ∨ N = 9 ∨ N = 10 ∨ N = 11 ∨ N = 12 ∨ N = 13 ∨ N = 14 ∨ N = 15 ∨ N = 16 ∨ N = 17 ∨ N = 18 ∨ N = 19 ∨ N = 20:=by omega
    rcases this with rfl|rfl|rfl|rfl|rfl|rfl|rfl|rfl|rfl|rfl|rfl|rfl|rfl|rfl|rfl|rfl|rfl|rfl|rfl|rfl <;> decide
   have HM : Aside0 (∀ W,Calls Try.prog 112 #[.int .u64 1,.int .u64 (N : Int)] W fun e w' => e = .returned (.tuple #[.int .u64 0,.int .u64 (N : Int)]) ∧ Drawn0 W w'):=⟨fun W => bits_Mul.calls 1 (N : Int) 0 (N : Int) W hmul⟩
   have HX:=mk_ hx
   have HR:=mk_ hr0
   simp only [List.length_cons,List.length_nil,Nat.zero_add] at HR
   have hw1 : IntKind.u64.wrap 1 = 1:=rfl
   have hwN : IntKind.u64.wrap (N : Int) = (N : Int):=by
    have : IntKind.u64.wrap (N : Int) = (N : Int) % 18446744073709551616:=by simp [IntKind.wrap,IntKind.bits,IntKind.signed]
    rw [this];omega
   have hiN : IntKind.i64.wrap (N : Int) = (N : Int):=by rw [i64_w];exact (by unfold wrap64;omega)
   have p0 : ((N : Int) < 0) = False:=eq_false (by omega)
   have p1 : ((9223372036854775807 : Int) < (N : Int)) = False:=eq_false (by omega)
   clear hmul hr0 hx hc
   simp only [List.length_cons,List.length_nil,Nat.zero_add] at hc0 ⊢
   go_enter Try.func96,Try.ntmps96
   go_wp2_with (first|(go_at_call 112;refine (HM.out w).mono ?_;rintro e w1 ⟨rfl,hd1⟩;have HD:=mk_ hd1.below;clear hd1)|((with_reducible refine gate_dst (N:=30) rfl ?_);refine Kd.R_make (Kd.int .i64) (w0:=w) w.heap.size 3 rfl (N:=30) rfl 24 _ _ rfl (N : Int) rfl rfl Try.underlying24 (.int .i64 0) 8 (by kernel_rfl) rfl (by decide) (by omega) 0 (ok:=fun _ => True) (okp:=fun _ => True) rfl (fun _ hk => hk) trivial (by omega) (by rw [Int.toNat_natCast];omega) HD.out HD.out.size ?_;intro v1 w2 ho hb hg hnew;rw [Int.toNat_natCast] at ho;obtain ⟨go,co,ev,hgo,hgl,_⟩:=Kd.R_form ho (by simp;omega);rw [List.length_replicate] at ev;subst ev;have hcp:=first_copy (n:=N) (cap:=co) (c0:=c0) ho hN1 (cb_ HR.out hb);obtain ⟨ys,hy1,hy2⟩:=R_fills v 1 0 w2 (List.replicate N 0) ho (by omega) rfl;have HY:=mk_ hy1;have HT:=mk_ hy2;have HB:=mk_ (below_fills hgo [.int .i64 v] 0 w2 hb);clear ho hb hg hnew hgl hy1 hy2 HD HX)|(simp only [hcp]))
   clear hcp
   go_loopg [8] N (fun gg s8 wr => ∃ (m : Nat) (L : List Int),s8 = .int .i64 m ∧ 1 ≤ m ∧ m ≤ N ∧ N - m ≤ gg ∧ Aside0 (Kd.R (Kd.int .i64) 3 wr w.heap.size (fun _ => True) (.slice (some ⟨go,0,none⟩) N co) L) ∧ Aside0 (L.take m = List.replicate m v) ∧ Aside0 (Below w.heap.size w wr))
   case atStart => exact ⟨1,ys,by go_num,by omega,by omega,by omega,HY,HT,HB⟩
   case round =>
    clear HY HT HB
    obtain ⟨m,L,rfl,hm1,hmQ_,hgg,HO,HT,BW⟩:=hrel
    by_cases hlt : m < N
    ·have hcc:=(rr_ HO.out).2.1
     obtain ⟨q,hq,hq1,hq2⟩ : ∃ q : Nat,q = Nat.min m (N - m) ∧ q ≤ N - m ∧ 1 ≤ q:=⟨_,rfl,Nat.min_le_right _ _,Nat.le_min.2 ⟨hm1,by omega⟩⟩
     have hcp:=copy_fills (W:=wr.drew) v m q (co - m) co (rd_ HO.out) HT.out hq hmQ_
     obtain ⟨ys2,hy1,hy2⟩:=R_fills v q m wr.drew L (rd_ HO.out) (by omega) HT.out
     have HY2:=mk_ hy1
     have HT2:=mk_ hy2
     have HB2:=mk_ (below_fills hgo (List.replicate q (.int .i64 v)) m wr.drew (bd_ BW.out))
     have p2 : ((m : Int) < (N : Int)) = True:=eq_true (by omega)
     clear hy1 hy2 hq
     have hcm : (co = m) = False:=eq_false (by omega)
     have hmco : m ≤ co:=by omega
     have hmco2 : (m : Int) ≤ (co : Int):=by omega
     have hmq : IntKind.i64.wrap ((m : Int) + (q : Int)) = ((m + q : Nat) : Int):=by rw [i64_w];exact (by unfold wrap64;omega)
     go_wp2
     go_region_law (refine step_copy_run rfl (.tmp 41) (.tmp 44) 24 24 rfl (.slice (some ⟨go,m,none⟩) (N - m) (co - m)) (.slice (some ⟨go,0,none⟩) m co) (by simp [Act.eval,Act.put]) (by simp [Act.eval,Act.put]) (hcp _) ?_)
     all_goals
      try go_simp
      go_wp2
      go_roundg (N - (m + q))
      case measure => omega
      case rel => exact ⟨m + q,ys2,by go_num,by omega,by omega,by omega,HY2,HT2,HB2⟩
    ·obtain rfl : m = N:=by omega
     have hL:=(rr_ HO.out).1
     have p2 : ((m : Int) < (m : Int)) = False:=eq_false (by omega)
     have hLe : L = List.replicate m v:=by rw [← HT.out,List.take_of_length_le (by omega)]
     subst hLe
     clear HT hL
     go_wp2
     go_ret
     exact ⟨_,rfl,HO.out,BW.out⟩
  ·rw [if_neg hc] at h
   cases h
/-! ### impl_costsOf: function 70 -/
mutual
def impl_costsOf.l0 : Nat → Int → List (S83) → List Int → List Int → Int → Int → Option (List Int)
 | 0,_,_,_,_,_,_ => none
 | k + 1,x0,x1,x5,x15,x16,x17 => if x17 < x16 then (if 0 ≤ x17 then (if x17 < (x15.length : Int) then (if x17 = (rd x15 x17) then (if x17 < (x5.length : Int) then (impl_costsOf.l0 k x0 x1 (x5.set (x17 : Int).toNat 0) x15 x16 (wrap64 (x17 + 1))) else (none)) else (impl_costsOf.l0 k x0 x1 x5 x15 x16 (wrap64 (x17 + 1)))) else (none)) else (none)) else (impl_costsOf.l1 k x1 x5 x0 0)
def impl_costsOf.l1 : Nat → List (S83) → List Int → Int → Int → Option (List Int)
 | 0,_,_,_,_ => none
 | k + 1,x1,x5,x29,x30 => if x30 < x29 then (impl_costsOf.l2 k x1 x5 x29 x30 x1 (x1.length : Int) 0) else (some x5)
def impl_costsOf.l2 : Nat → List (S83) → List Int → Int → Int → List (S83) → Int → Int → Option (List Int)
 | 0,_,_,_,_,_,_,_ => none
 | k + 1,x1,x5,x29,x30,x32,x33,x34 => if x34 < x33 then (if 0 ≤ x34 then (if x34 < (x32.length : Int) then (if 0 ≤ ((rd_T83 x32 x34).f0) then (if ((rd_T83 x32 x34).f0) < (x5.length : Int) then (if 0 ≤ ((rd_T83 x32 x34).f1) then (if ((rd_T83 x32 x34).f1) < (x5.length : Int) then ((some (x5.set (((rd_T83 x32 x34).f0) : Int).toNat (mn (rd x5 ((rd_T83 x32 x34).f0)) (wrap64 ((rd x5 ((rd_T83 x32 x34).f1)) + ((rd_T83 x32 x34).f2)))) : List Int)).bind fun y374 => (impl_costsOf.l2 k x1 (y374.set (((rd_T83 x32 x34).f1) : Int).toNat (mn (rd y374 ((rd_T83 x32 x34).f1)) (wrap64 ((rd y374 ((rd_T83 x32 x34).f0)) + ((rd_T83 x32 x34).f2))))) x29 x30 x32 x33 (wrap64 (x34 + 1)))) else (none)) else (none)) else (none)) else (none)) else (none)) else (none)) else (impl_costsOf.l1 k x1 x5 x29 (wrap64 (x30 + 1)))
end
def impl_costsOf.f (k : Nat) (a0 : Int) (l1 : List (S83)) : Option (List Int):=(slices_Repeat_int_int.f (([1073741824] : List Int)) a0).bind fun t362 => ((impl_rootsOf.f a0 l1).bind fun t365 => (impl_costsOf.l0 k a0 l1 t362 t365 (t365.length : Int) 0))
theorem impl_costsOf.mono_l : ∀ k,(∀ y0 y1 y2 y3 y4 y5,LeO (impl_costsOf.l0 k y0 y1 y2 y3 y4 y5) (impl_costsOf.l0 (k + 1) y0 y1 y2 y3 y4 y5)) ∧ (∀ y0 y1 y2 y3,LeO (impl_costsOf.l1 k y0 y1 y2 y3) (impl_costsOf.l1 (k + 1) y0 y1 y2 y3)) ∧ (∀ y0 y1 y2 y3 y4 y5 y6,LeO (impl_costsOf.l2 k y0 y1 y2 y3 y4 y5 y6) (impl_costsOf.l2 (k + 1) y0 y1 y2 y3 y4 y5 y6))
 | 0 => ⟨fun _ _ _ _ _ _ r h => by simp [impl_costsOf.l0] at h,fun _ _ _ _ r h => by simp [impl_costsOf.l1] at h,fun _ _ _ _ _ _ _ r h => by simp [impl_costsOf.l2] at h⟩
 | k + 1 => by
  obtain ⟨ih0,ih1,ih2⟩:=impl_costsOf.mono_l k
  refine ⟨?_,?_,?_⟩
  ·intro y0 y1 y2 y3 y4 y5
   unfold impl_costsOf.l0
   repeat' first
   | (with_reducible exact ih0 _ _ _ _ _ _)
   | (with_reducible exact ih1 _ _ _ _)
   | (with_reducible exact ih2 _ _ _ _ _ _ _)
   | (with_reducible exact LeO.refl _)
   | (with_reducible exact LeO.none _)
   | (with_reducible refine LeO.ite ?_ ?_)
   | (with_reducible refine LeO.bind ?_ (fun _ => ?_))
   | exact ih0 _ _ _ _ _ _
   | exact ih1 _ _ _ _
   | exact ih2 _ _ _ _ _ _ _
   | exact LeO.none _
   | refine LeO.ite ?_ ?_
   | refine LeO.bind ?_ (fun _ => ?_)
  ·intro y0 y1 y2 y3
   unfold impl_costsOf.l1
   repeat' first
   | (with_reducible exact ih0 _ _ _ _ _ _)
   | (with_reducible exact ih1 _ _ _ _)
   | (with_reducible exact ih2 _ _ _ _ _ _ _)
   | (with_reducible exact LeO.refl _)
   | (with_reducible exact LeO.none _)
   | (with_reducible refine LeO.ite ?_ ?_)
   | (with_reducible refine LeO.bind ?_ (fun _ => ?_))
   | exact ih0 _ _ _ _ _ _
   | exact ih1 _ _ _ _
   | exact ih2 _ _ _ _ _ _ _
   | exact LeO.none _
   | refine LeO.ite ?_ ?_
   | refine LeO.bind ?_ (fun _ => ?_)
  ·intro y0 y1 y2 y3 y4 y5 y6
   unfold impl_costsOf.l2
   repeat' first
   | (with_reducible exact ih0 _ _ _ _ _ _)
   | (with_reducible exact ih1 _ _ _ _)
   | (with_reducible exact ih2 _ _ _ _ _ _ _)
   | (with_reducible exact LeO.refl _)
   | (with_reducible exact LeO.none _)
   | (with_reducible refine LeO.ite ?_ ?_)
   | (with_reducible refine LeO.bind ?_ (fun _ => ?_))
   | exact ih0 _ _ _ _ _ _
   | exact ih1 _ _ _ _
   | exact ih2 _ _ _ _ _ _ _
   | exact LeO.none _
   | refine LeO.ite ?_ ?_
   | refine LeO.bind ?_ (fun _ => ?_)
theorem impl_costsOf.mono : ∀ a0 a1 k,LeO (impl_costsOf.f k a0 a1) (impl_costsOf.f (k + 1) a0 a1):=by
 intro a0 a1 k
 obtain ⟨ih0,ih1,ih2⟩:=impl_costsOf.mono_l k
 unfold impl_costsOf.f
 repeat' first
   | (with_reducible exact ih0 _ _ _ _ _ _)
   | (with_reducible exact ih1 _ _ _ _)
   | (with_reducible exact ih2 _ _ _ _ _ _ _)
   | (with_reducible exact LeO.refl _)
   | (with_reducible exact LeO.none _)
   | (with_reducible refine LeO.ite ?_ ?_)
   | (with_reducible refine LeO.bind ?_ (fun _ => ?_))
   | exact ih0 _ _ _ _ _ _
   | exact ih1 _ _ _ _
   | exact ih2 _ _ _ _ _ _ _
   | exact LeO.none _
   | refine LeO.ite ?_ ?_
   | refine LeO.bind ?_ (fun _ => ?_)
def impl_costsOf.T13 : Bool × List (List Nat × List Nat):=(true,[([],[]),([],[]),([1],[1]),([],[]),([],[]),([4],[4]),([3,5],[3,5]),([6],[6]),([],[]),([],[]),([9],[9]),([8,10],[8,10]),([11],[11]),([],[]),([13],[13]),([12,14],[12,14]),([7,15],[7,15]),([0,2,0,1,2,3,4,5,6,7,8,9,10,11,12,13,14,15,16],[0,2]),([17,16,0,1,2,3,4,5,6,7,8,9,10,11,12,13,14,15,16],[16,17])])
def impl_costsOf.B13 : List Nat:=[0,0,2,0,0,16,56,120,0,0,512,1792,3840,0,8192,32512,65528,131071,262143]
theorem impl_costsOf.tab13 : rtab .any (opsOf Try.f70 13) = impl_costsOf.T13:=by kernel_rfl
theorem impl_costsOf.bits13 : waitsOk impl_costsOf.T13.2 impl_costsOf.B13 = true:=by kernel_rfl
def impl_costsOf.T14 : Bool × List (List Nat × List Nat):=(true,[([],[]),([],[]),([1],[1]),([],[]),([],[]),([4],[4]),([3,5],[3,5]),([6],[6]),([],[]),([],[]),([9],[9]),([8,10],[8,10]),([11],[11]),([],[]),([13],[13]),([12,14],[12,14]),([7,15],[7,15]),([0,2,0,1,2,3,4,5,6,7,8,9,10,11,12,13,14,15,16],[0,2]),([17,16,0,1,2,3,4,5,6,7,8,9,10,11,12,13,14,15,16],[16,17])])
def impl_costsOf.B14 : List Nat:=[0,0,2,0,0,16,56,120,0,0,512,1792,3840,0,8192,32512,65528,131071,262143]
theorem impl_costsOf.tab14 : rtab .any (opsOf Try.f70 14) = impl_costsOf.T14:=by kernel_rfl
theorem impl_costsOf.bits14 : waitsOk impl_costsOf.T14.2 impl_costsOf.B14 = true:=by kernel_rfl
set_option maxHeartbeats 8000000 in
set_option maxRecDepth 100000 in
theorem impl_costsOf.calls (k : Nat) (a0 : Int) (A1 : Option Addr) (c1 : Nat) (l1 : List (S83)) (r : List Int) (w : World) (hr1 : Kd.C k83 w A1 l1.length l1) (hc1 : l1.length ≤ c1) (h : impl_costsOf.f k a0 l1 = some r) :
  Calls Try.prog 70 #[.int .i64 a0,.slice A1 l1.length c1] w fun e w' => ∃ v0_ : Value,e = .returned (v0_) ∧ Kd.R (Kd.int .i64) 3 w' w.heap.size (fun _ => True) v0_ r ∧ Below w.heap.size w w':=by
 have hu83:=Try.underlying83
 have HR1:=mk_ hr1
 have HC1:=mk_ hc1
 clear hr1 hc1
 have HB:=mk_ (Below.refl w.heap.size w)
 have H : ((slices_Repeat_int_int.f (([1073741824] : List Int)) a0).bind fun t362 => ((impl_rootsOf.f a0 l1).bind fun t365 => (impl_costsOf.l0 k a0 l1 t362 t365 (t365.length : Int) 0))) = some r:=h
 clear h
 obtain ⟨y359,hy359⟩ : ∃ y_ : List Int,y_ = (([1073741824] : List Int)):=⟨_,rfl⟩
 replace H : ((slices_Repeat_int_int.f y359 a0).bind fun t362 => ((impl_rootsOf.f a0 l1).bind fun t365 => (impl_costsOf.l0 k a0 l1 t362 t365 (t365.length : Int) 0))) = some r:=by first|(rw [hy359];with_reducible exact H)|(have H2_:=(Option.bind_some _ _).symm.trans H;rw [hy359];with_reducible exact H2_)|(have H2_:=(Option.bind_some _ _).symm.trans H;with_reducible exact H2_)|with_reducible exact H|(rw [hy359];exact H)|exact H
 have Ny359:=mk_ hy359
 clear hy359
 replace H:=Option.bind_eq_some_iff.mp H
 obtain ⟨t362,A30,H⟩:=H
 replace H : ((impl_rootsOf.f a0 l1).bind fun t365 => (impl_costsOf.l0 k a0 l1 t362 t365 (t365.length : Int) 0)) = some r:=H
 have A3:=mk_ A30
 clear A30
 replace H:=Option.bind_eq_some_iff.mp H
 obtain ⟨t365,A40,H⟩:=H
 replace H : (impl_costsOf.l0 k a0 l1 t362 t365 (t365.length : Int) 0) = some r:=H
 have A4:=mk_ A40
 clear A40
 have H':=mk_ H
 clear H
 go_enter Try.func70,Try.ntmps70
 go_wp2_with (first|((with_reducible refine gate_dst (N:=10) rfl ?_);refine Kd.R_lit (Kd.int .i64) _ 3 ?hg (N:=10) ?hd (xs:=([1073741824] : List Int)) (inner:=[.int .i64 1073741824]) (ok:=fun _ => True) (okp:=fun _ => True) ?hr ?hp (fun _ hk => hk) trivial (Below.refl _ _) (Nat.le_refl _) (by simp) ?_;(case hd => rfl);(case hg => rfl);(case hr => first|(go_simp;done)|(go_simp;rfl));(case hp => exact (Reps.one (show Kd.M (Kd.int .i64) _ _ _ 1073741824 [.int .i64 1073741824] from rfl) (Reps.none _ _)));intro v360 w5 ho6 hb hg_ hnew_;clear hg_ hnew_;(first|rw [← Ny359.out] at ho6|(simp only [Int.reduceToNat] at ho6;rw [← Ny359.out] at ho6));have n0_:=mk_ (Kd.R_lower ho6 (bz_ (qb_ HB)));have n1_:=mk_ (st_ (qb_ HB) hb);clear HB;have HO361:=n0_;have HB:=n1_;clear n0_ n1_ hb ho6;obtain ⟨Ao7,co7,eo7⟩:=Kd.R_slice HO361.out;subst eo7)|((with_reducible refine gate_callee (f:=96) rfl ?_);refine goesL_ (some 12) rfl rfl Try.func96 (by kernel_rfl) rfl #[.slice Ao7 y359.length co7,.int .i64 a0] rfl qm_ ?_;(with_reducible refine (slices_Repeat_int_int.calls _ _ y359 a0 t362 _ ?side1 ?side2 A3.out).mono ?_);(case side1 => repeat (first|exact (rr_ HO361.out).2.2|(with_reducible refine ca_ ?_ _)|(with_reducible refine cn_ ?_ _)|(with_reducible refine cd_ ?_)));(case side2 => exact (rr_ HO361.out).2.1);rintro e w8 ⟨v363,rfl,ho0,hb⟩;refine ⟨_,rfl,?_⟩;have n0_:=mk_ (re_ (qr_ HO361) (Kd.R_base ho0) hb);have n1_:=mk_ (Kd.R_lower (Kd.R_new' ho0 (Kd.R_lt (qr_ HO361))) (bz_ (qb_ HB)));have n2_:=mk_ (st_ (qb_ HB) hb);clear HO361 HB;have HO361:=n0_;have HO364:=n1_;have HB:=n2_;clear n0_ n1_ n2_;(try clear hb);(try clear hb2);(try clear hk);(try clear hi);(try clear ho0))|((with_reducible refine gate_callee (f:=43) rfl ?_);refine goesL_ (some 15) rfl rfl Try.func43 (by kernel_rfl) rfl #[.int .i64 a0,.slice A1 l1.length c1] rfl qm_ ?_;(with_reducible refine (impl_rootsOf.calls a0 _ _ l1 t365 _ ?side1 ?side2 A4.out).mono ?_);(case side1 => exact qn_ HR1 HB);(case side2 => exact HC1.out);rintro e w9 ⟨v366,rfl,ho0,hb⟩;refine ⟨_,rfl,?_⟩;have n0_:=mk_ (re_ (qr_ HO361) (Kd.R_base ho0) hb);have n1_:=mk_ (re_ (qr_ HO364) (Kd.R_base ho0) hb);have n2_:=mk_ (Kd.R_lower (Kd.R_new' (Kd.R_new' ho0 (Kd.R_lt (qr_ HO361))) (Kd.R_lt (qr_ HO364))) (bz_ (qb_ HB)));have n3_:=mk_ (st_ (qb_ HB) hb);clear HO361 HO364 HB;have HO361:=n0_;have HO364:=n1_;have HO367:=n2_;have HB:=n3_;clear n0_ n1_ n2_ n3_;(try clear hb);(try clear hb2);(try clear hk);(try clear hi);(try clear ho0);obtain ⟨Ao10,co10,eo10⟩:=Kd.R_slice HO367.out;subst eo10))
 go_loopg [17] k (fun kq v17 w' => ∃ (x5_1 : List Int) (x17_1 : Int),v17 = .int .i64 x17_1 ∧ Aside0 (impl_costsOf.l0 kq a0 l1 x5_1 t365 (t365.length : Int) x17_1 = some r) ∧ Aside0 (kq ≤ k) ∧ Aside0 (Kd.R (Kd.int .i64) 3 w' w.heap.size (fun k_ => some k_ ≠ ((.slice Ao10 t365.length co10) : Value).ownBlock) v363 x5_1) ∧ Aside0 (Kd.R (Kd.int .i64) 3 w' w.heap.size (fun k_ => some k_ ≠ (v363 : Value).ownBlock) (.slice Ao10 t365.length co10) t365) ∧ Aside0 (Below w.heap.size w w'))
 case atStart => exact ⟨(t362),(0),qf_,H',⟨Nat.le_refl _⟩,⟨by (with_reducible repeat (first|apply ra_|apply rn_|apply rd_));exact rm_ HO364.out (λ_ h=>h.2)⟩,⟨by (with_reducible repeat (first|apply ra_|apply rn_|apply rd_));exact rm_ HO367.out (λ_ h=>h.2)⟩,⟨u1_ HB⟩⟩
 case round =>
  clear H'
  try clear c1
  try clear p2
  try clear c4
  try clear c7
  try clear c9
  obtain ⟨x5_1,x17_1,rfl,HA,HK1,HO_5,HO_15,HB⟩:=hrel
  cases gk with
  | zero => exact absurd HA.out (by simp [impl_costsOf.l0])
  | succ k1 =>
   have H:=HA.out
   clear HA
   simp only [impl_costsOf.l0] at H
   by_cases c11 : x17_1 < (t365.length : Int)
   ·rw [if_pos c11] at H
    have c11b0 : decide (x17_1 < (t365.length : Int)) = true:=decide_eq_true c11
    clear c11
    by_cases c12 : 0 ≤ x17_1
    ·rw [if_pos c12] at H
     have c12b0 : decide (0 ≤ x17_1) = true:=decide_eq_true c12
     clear c12
     by_cases c13 : x17_1 < (t365.length : Int)
     ·rw [if_pos c13] at H
      have c13b0 : decide (x17_1 < (t365.length : Int)) = true:=decide_eq_true c13
      clear c13
      by_cases c14 : x17_1 = (rd t365 x17_1)
      ·rw [if_pos c14] at H
       have c14b0 : (x17_1 == (rd t365 x17_1)) = true:=beq_iff_eq.mpr c14
       have c14b1 : (x17_1 != (rd t365 x17_1)) = false:=bne_eq_false_iff_eq.mpr c14
       clear c14
       by_cases c15 : x17_1 < (x5_1.length : Int)
       ·rw [if_pos c15] at H
        have c15b0 : decide (x17_1 < (x5_1.length : Int)) = true:=decide_eq_true c15
        clear c15
        obtain ⟨y369,hy369⟩ : ∃ y_ : List Int,y_ = (x5_1.set (x17_1 : Int).toNat 0):=⟨_,rfl⟩
        replace H : (impl_costsOf.l0 k1 a0 l1 y369 t365 (t365.length : Int) (wrap64 (x17_1 + 1))) = some r:=by first|(rw [hy369];with_reducible exact H)|(have H2_:=(Option.bind_some _ _).symm.trans H;rw [hy369];with_reducible exact H2_)|(have H2_:=(Option.bind_some _ _).symm.trans H;with_reducible exact H2_)|with_reducible exact H|(rw [hy369];exact H)|exact H
        have Ny369:=mk_ hy369
        clear hy369
        have H':=mk_ H
        clear H
        have p368 : 0 ≤ (x17_1 : Int):=od_ qa_
        have q368 : x17_1 < (t365.length : Int):=od_ qa_
        obtain ⟨ad368,e368,hx368_0⟩:=Kd.at_int (rr_ HO_15.out).2.2 x17_1 p368 q368
        cases e368
        replace p368:=eq_true p368
        replace q368:=eq_true q368
        have p16 : 0 ≤ (x17_1 : Int):=od_ qa_
        have q16 : (x17_1 : Int) < ((x5_1.length : Int) : Int):=od_ qa_
        obtain ⟨go16,co16,eo16,gb16,gl16,cl16,HG16⟩:=Kd.R_form HO_5.out (by omega)
        (first|cases eo16|(injection eo16 with ea_ en_ ec_;(first|subst ea_|(injection ea_ with ea_;subst ea_));subst ec_;clear en_))
        have GB16:=mk_ gb16
        have GG16:=mk_ HG16
        clear gb16 gl16 HG16
        obtain ⟨hx16_0,hf16_0⟩:=Kd.R_celln 0 HO_5.out (x17_1 : Int) p16 q16
        replace p16:=eq_true p16
        replace q16:=eq_true q16
        have HP17:=Kd.R_putg HO_5.out (x17_1 : Int) 0
        go_wp2_with (first|((with_reducible refine gate_store (t:=3) (p:=27) rfl ?_);refine store_event (t:=3) (p:=27) (v:=?vo_w18) (w1:=(wr.setCell ⟨go16,(x17_1 : Int).toNat,none⟩ (.int .i64 0))) ?hg ?ho ?hn ?hr ?_;(case ho => rfl);(case hg => rfl);(case hn => rfl);(case hr => first|(go_simp;done)|(go_simp;rfl));intro w18 hw;have hg : wr.grownBy w18 (some go16):=(by rw [hw];exact HP17.2);have hp_ : Kd.R (Kd.int .i64) 3 w18 w.heap.size (fun k_ => some k_ ≠ (.slice (some ad368) t365.length co10 : Value).ownBlock) (.slice (some ⟨go16,0,none⟩) x5_1.length co16) y369:=(by rw [hw,Ny369.out];exact HP17.1);clear HP17;have n0_:=mk_ (hp_);have n1_:=mk_ (Kd.R_after (v:=(.slice (some ⟨go16,0,none⟩) x5_1.length co16)) (v1:=(.slice (some ⟨go16,0,none⟩) x5_1.length co16)) (ok:=(fun _ => True)) (by (with_reducible repeat (first|apply ra_|apply rn_|apply rd_));exact rm_ HO_15.out (fun _ hk => ⟨trivial,hk⟩)) hg (.inl rfl));have n2_:=mk_ ((by rw [hw];exact bs_ (HB.out) GB16.out : Below w.heap.size w w18));clear HO_5 HO_15 HB;have HO_5:=n0_;have HO_15:=n1_;have HB:=n2_;clear n0_ n1_ n2_ hg hw hp_))
        go_roundg k1
        case measure => have:=HK1.out;omega
        case rel => exact ⟨(y369),(wrap64 (x17_1 + 1)),qf_,H',⟨by have:=HK1.out;omega⟩,⟨qr_ HO_5⟩,⟨by (with_reducible repeat (first|apply ra_|apply rn_|apply rd_));exact rm_ HO_15.out (λ_ h=>h.2)⟩,⟨u1_ HB⟩⟩
       ·rw [if_neg c15] at H
        exact absurd H (by simp)
      ·rw [if_neg c14] at H
       have c14b0 : (x17_1 == (rd t365 x17_1)) = false:=beq_eq_false_iff_ne.mpr c14
       have c14b1 : (x17_1 != (rd t365 x17_1)) = true:=bne_iff_ne.mpr c14
       have H':=mk_ H
       clear H
       have p368 : 0 ≤ (x17_1 : Int):=od_ qa_
       have q368 : x17_1 < (t365.length : Int):=od_ qa_
       obtain ⟨ad368,e368,hx368_0⟩:=Kd.at_int (rr_ HO_15.out).2.2 x17_1 p368 q368
       cases e368
       replace p368:=eq_true p368
       replace q368:=eq_true q368
       go_wp2
       go_roundg k1
       case measure => have:=HK1.out;omega
       case rel => exact ⟨(x5_1),(wrap64 (x17_1 + 1)),qf_,H',⟨by have:=HK1.out;omega⟩,⟨qr_ HO_5⟩,⟨qr_ HO_15⟩,⟨u1_ HB⟩⟩
     ·rw [if_neg c13] at H
      exact absurd H (by simp)
    ·rw [if_neg c12] at H
     exact absurd H (by simp)
   ·rw [if_neg c11] at H
    have c11b0 : decide (x17_1 < (t365.length : Int)) = false:=decide_eq_false c11
    clear c11
    have H':=mk_ H
    clear H
    go_wp2
    go_loopg [30] k1 (fun kq v30 w' => ∃ (x5_2 : List Int) (x30_2 : Int),v30 = .int .i64 x30_2 ∧ Aside0 (impl_costsOf.l1 kq l1 x5_2 a0 x30_2 = some r) ∧ Aside0 (kq ≤ k1) ∧ Aside0 (Kd.R (Kd.int .i64) 3 w' w.heap.size (fun _ => True) v363 x5_2) ∧ Aside0 (Below w.heap.size w w'))
    case atStart => exact ⟨(x5_1),(0),qf_,H',⟨Nat.le_refl _⟩,⟨by (with_reducible repeat (first|apply ra_|apply rn_|apply rd_));exact rm_ HO_5.out (λ_ _=>trivial)⟩,⟨u1_ HB⟩⟩
    case round =>
     clear H'
     try clear c1
     try clear p1
     try clear q1
     try clear hx1
     try clear p2
     try clear p3
     try clear q3
     try clear hx3
     try clear c4
     try clear p6
     try clear c7
     try clear c9
     try clear c11
     try clear c11b0
     try clear c12
     try clear c12b0
     try clear c13
     try clear c13b0
     try clear c14
     try clear c14b0
     try clear c14b1
     try clear c15
     try clear c15b0
     try clear p16
     try clear q16
     try clear hx16
     try clear hf16
     try clear hx16_0
     try clear hx368_0
     try clear p16
     try clear p2
     try clear p368
     try clear q16
     try clear q368
     obtain ⟨x5_2,x30_2,rfl,HA,HK2,HO_5,HB⟩:=hrel
     cases gk with
     | zero => exact absurd HA.out (by simp [impl_costsOf.l1])
     | succ k2 =>
      have H:=HA.out
      clear HA
      simp only [impl_costsOf.l1] at H
      by_cases c19 : x30_2 < a0
      ·rw [if_pos c19] at H
       have c19b0 : decide (x30_2 < a0) = true:=decide_eq_true c19
       clear c19
       have H':=mk_ H
       clear H
       go_wp2
       go_loopg [34] k2 (fun kq v34 w' => ∃ (x5_3 : List Int) (x34_3 : Int),v34 = .int .i64 x34_3 ∧ Aside0 (impl_costsOf.l2 kq l1 x5_3 a0 x30_2 l1 (l1.length : Int) x34_3 = some r) ∧ Aside0 (kq ≤ k2) ∧ Aside0 (Kd.R (Kd.int .i64) 3 w' w.heap.size (fun _ => True) v363 x5_3) ∧ Aside0 (Below w.heap.size w w'))
       case atStart => exact ⟨(x5_2),(0),qf_,H',⟨Nat.le_refl _⟩,⟨qr_ HO_5⟩,⟨u1_ HB⟩⟩
       case round =>
        clear H'
        try clear c1
        try clear p1
        try clear q1
        try clear hx1
        try clear p2
        try clear p3
        try clear q3
        try clear hx3
        try clear c4
        try clear p6
        try clear c7
        try clear c9
        try clear c11
        try clear c11b0
        try clear c12
        try clear c12b0
        try clear c13
        try clear c13b0
        try clear c14
        try clear c14b0
        try clear c14b1
        try clear c15
        try clear c15b0
        try clear p16
        try clear q16
        try clear hx16
        try clear hf16
        try clear c19
        try clear c19b0
        try clear hx16_0
        try clear hx368_0
        try clear p1
        try clear p16
        try clear p2
        try clear p3
        try clear p368
        try clear p6
        try clear q1
        try clear q16
        try clear q3
        try clear q368
        obtain ⟨x5_3,x34_3,rfl,HA,HK3,HO_5,HB⟩:=hrel
        cases gk with
        | zero => exact absurd HA.out (by simp [impl_costsOf.l2])
        | succ k3 =>
         have H:=HA.out
         clear HA
         simp only [impl_costsOf.l2] at H
         by_cases c20 : x34_3 < (l1.length : Int)
         ·rw [if_pos c20] at H
          have c20b0 : decide (x34_3 < (l1.length : Int)) = true:=decide_eq_true c20
          clear c20
          by_cases c21 : 0 ≤ x34_3
          ·rw [if_pos c21] at H
           have c21b0 : decide (0 ≤ x34_3) = true:=decide_eq_true c21
           clear c21
           by_cases c22 : x34_3 < (l1.length : Int)
           ·rw [if_pos c22] at H
            have c22b0 : decide (x34_3 < (l1.length : Int)) = true:=decide_eq_true c22
            clear c22
            by_cases c23 : 0 ≤ ((rd_T83 l1 x34_3).f0)
            ·rw [if_pos c23] at H
             have c23b0 : decide (0 ≤ ((rd_T83 l1 x34_3).f0)) = true:=decide_eq_true c23
             clear c23
             by_cases c24 : ((rd_T83 l1 x34_3).f0) < (x5_3.length : Int)
             ·rw [if_pos c24] at H
              have c24b0 : decide (((rd_T83 l1 x34_3).f0) < (x5_3.length : Int)) = true:=decide_eq_true c24
              clear c24
              by_cases c25 : 0 ≤ ((rd_T83 l1 x34_3).f1)
              ·rw [if_pos c25] at H
               have c25b0 : decide (0 ≤ ((rd_T83 l1 x34_3).f1)) = true:=decide_eq_true c25
               clear c25
               by_cases c26 : ((rd_T83 l1 x34_3).f1) < (x5_3.length : Int)
               ·rw [if_pos c26] at H
                have c26b0 : decide (((rd_T83 l1 x34_3).f1) < (x5_3.length : Int)) = true:=decide_eq_true c26
                clear c26
                obtain ⟨ji27,hji27⟩ : ∃ j_ : Int,(mn (rd x5_3 ((rd_T83 l1 x34_3).f0)) (wrap64 ((rd x5_3 ((rd_T83 l1 x34_3).f1)) + ((rd_T83 l1 x34_3).f2)))) = j_:=⟨_,rfl⟩
                replace H : ((some (x5_3.set (((rd_T83 l1 x34_3).f0) : Int).toNat (ji27) : List Int)).bind fun y374 => (impl_costsOf.l2 k3 l1 (y374.set (((rd_T83 l1 x34_3).f1) : Int).toNat (mn (rd y374 ((rd_T83 l1 x34_3).f1)) (wrap64 ((rd y374 ((rd_T83 l1 x34_3).f0)) + ((rd_T83 l1 x34_3).f2))))) a0 x30_2 l1 (l1.length : Int) (wrap64 (x34_3 + 1)))) = some r:=by first|(rw [hji27] at H;exact H)|(simp only [hji27] at H ⊢;exact H)
                have hji27_ : (if (wrap64 ((rd x5_3 ((rd_T83 l1 x34_3).f1)) + ((rd_T83 l1 x34_3).f2))) < (rd x5_3 ((rd_T83 l1 x34_3).f0)) then (wrap64 ((rd x5_3 ((rd_T83 l1 x34_3).f1)) + ((rd_T83 l1 x34_3).f2))) else (rd x5_3 ((rd_T83 l1 x34_3).f0))) = ji27:=hji27
                obtain ⟨y374,hy374⟩ : ∃ y_ : List Int,y_ = (x5_3.set (((rd_T83 l1 x34_3).f0) : Int).toNat (ji27)):=⟨_,rfl⟩
                replace H : (impl_costsOf.l2 k3 l1 (y374.set (((rd_T83 l1 x34_3).f1) : Int).toNat (mn (rd y374 ((rd_T83 l1 x34_3).f1)) (wrap64 ((rd y374 ((rd_T83 l1 x34_3).f0)) + ((rd_T83 l1 x34_3).f2))))) a0 x30_2 l1 (l1.length : Int) (wrap64 (x34_3 + 1))) = some r:=by first|(rw [hy374];with_reducible exact H)|(have H2_:=(Option.bind_some _ _).symm.trans H;rw [hy374];with_reducible exact H2_)|(have H2_:=(Option.bind_some _ _).symm.trans H;with_reducible exact H2_)|with_reducible exact H|(rw [hy374];exact H)|exact H
                have Ny374:=mk_ hy374
                clear hy374
                obtain ⟨ji29,hji29⟩ : ∃ j_ : Int,(mn (rd y374 ((rd_T83 l1 x34_3).f1)) (wrap64 ((rd y374 ((rd_T83 l1 x34_3).f0)) + ((rd_T83 l1 x34_3).f2)))) = j_:=⟨_,rfl⟩
                replace H : (impl_costsOf.l2 k3 l1 (y374.set (((rd_T83 l1 x34_3).f1) : Int).toNat (ji29)) a0 x30_2 l1 (l1.length : Int) (wrap64 (x34_3 + 1))) = some r:=by first|(rw [hji29] at H;exact H)|(simp only [hji29] at H ⊢;exact H)
                have hji29_ : (if (wrap64 ((rd y374 ((rd_T83 l1 x34_3).f0)) + ((rd_T83 l1 x34_3).f2))) < (rd y374 ((rd_T83 l1 x34_3).f1)) then (wrap64 ((rd y374 ((rd_T83 l1 x34_3).f0)) + ((rd_T83 l1 x34_3).f2))) else (rd y374 ((rd_T83 l1 x34_3).f1))) = ji29:=hji29
                obtain ⟨y377,hy377⟩ : ∃ y_ : List Int,y_ = (y374.set (((rd_T83 l1 x34_3).f1) : Int).toNat (ji29)):=⟨_,rfl⟩
                replace H : (impl_costsOf.l2 k3 l1 y377 a0 x30_2 l1 (l1.length : Int) (wrap64 (x34_3 + 1))) = some r:=by first|(rw [hy377];with_reducible exact H)|(have H2_:=(Option.bind_some _ _).symm.trans H;rw [hy377];with_reducible exact H2_)|(have H2_:=(Option.bind_some _ _).symm.trans H;with_reducible exact H2_)|with_reducible exact H|(rw [hy377];exact H)|exact H
                have Ny377:=mk_ hy377
                clear hy377
                have H':=mk_ H
                clear H
                have p370 : 0 ≤ (x34_3 : Int):=od_ qa_
                have q370 : x34_3 < (l1.length : Int):=od_ qa_
                obtain ⟨ad370,e370,hx370_0,hx370_1,hx370_2⟩:=at_T83 HR1.out x34_3 p370 q370
                cases e370
                replace hx370_0:=(HB.out.cell (wl_ w _ hx370_0)).trans hx370_0
                replace hx370_1:=(HB.out.cell (wl_ w _ hx370_1)).trans hx370_1
                replace hx370_2:=(HB.out.cell (wl_ w _ hx370_2)).trans hx370_2
                replace p370:=eq_true p370
                replace q370:=eq_true q370
                try go_wp2_with (first|((with_reducible refine gate_dst (N:=9) rfl ?_);refine box_event ?hg (N:=9) ?hd (cs:=#[.int .i64 0,.int .i64 0,.int .i64 0]) (t:=83) ?hr ?_;(case hd => rfl);(case hg => rfl);(case hr => first|(go_simp;done)|(go_simp;rfl));intro gb371 hg w31 hbox hb;have n0_:=mk_ (rb_ (qr_ HO_5) hb);have n1_:=mk_ (st_ (qb_ HB) hb);have n2_:=mk_ (hbox);have n3_:=mk_ ((by rw [hg];exact (bz_ (qb_ HB)) : w.heap.size ≤ gb371));have n4_:=mk_ ((by rw [hg];exact (bz_ (qb_ HB)) : w.heap.size ≤ gb371));clear HO_5 HB;have HO_5:=n0_;have HB:=n1_;have BK371:=n2_;have GW371:=n3_;have GE371:=n4_;clear n0_ n1_ n2_ n3_ n4_ hb hbox hg;have hcz32_0 : w31.cell? ⟨gb371,0,none⟩ = some (.int .i64 0):=(bc_ BK371.out 0).trans rfl;have hcz32_1 : w31.cell? ⟨gb371,1,none⟩ = some (.int .i64 0):=(bc_ BK371.out 1).trans rfl;have hcz32_2 : w31.cell? ⟨gb371,2,none⟩ = some (.int .i64 0):=(bc_ BK371.out 2).trans rfl;have hfz32_0:=bf_ BK371.out 0;have hfz32_1:=bf_ BK371.out 1;have hfz32_2:=bf_ BK371.out 2))
                have n0_ : Aside0 (Kd.R (Kd.int .i64) 3 (((w31.setCell ⟨gb371,0,none⟩ (.int .i64 ((rd_T83 l1 x34_3).f0))).setCell ⟨gb371,1,none⟩ (.int .i64 ((rd_T83 l1 x34_3).f1))).setCell ⟨gb371,2,none⟩ (.int .i64 ((rd_T83 l1 x34_3).f2))) w.heap.size (fun _ => True) v363 x5_3):=⟨by (with_reducible repeat (first|apply ra_|apply rn_|apply rd_));exact rm_ (rf_ (p:=⟨gb371,2,none⟩) (rf_ (p:=⟨gb371,1,none⟩) (rf_ (p:=⟨gb371,0,none⟩) (rt_ HO_5.out BK371.out (by decide)) (λ_ h=>h.2) (.int .i64 ((rd_T83 l1 x34_3).f0))) (λ_ h=>h.2) (.int .i64 ((rd_T83 l1 x34_3).f1))) (λ_ h=>h.2) (.int .i64 ((rd_T83 l1 x34_3).f2))) (λ_ _=>trivial)⟩
                have n1_ : Aside0 ((((w31.setCell ⟨gb371,0,none⟩ (.int .i64 ((rd_T83 l1 x34_3).f0))).setCell ⟨gb371,1,none⟩ (.int .i64 ((rd_T83 l1 x34_3).f1))).setCell ⟨gb371,2,none⟩ (.int .i64 ((rd_T83 l1 x34_3).f2))).heap[gb371]? = some (.cells #[.int .i64 ((rd_T83 l1 x34_3).f0),.int .i64 ((rd_T83 l1 x34_3).f1),.int .i64 ((rd_T83 l1 x34_3).f2)] 83 (0,0))):=⟨by (with_reducible repeat (first|apply kn_|apply kd_|apply ka_));refine blk_put (cs:=#[.int .i64 ((rd_T83 l1 x34_3).f0),.int .i64 ((rd_T83 l1 x34_3).f1),.int .i64 0]) ?_ 2 _ rfl;(with_reducible repeat (first|apply kn_|apply kd_|apply ka_));refine blk_put (cs:=#[.int .i64 ((rd_T83 l1 x34_3).f0),.int .i64 0,.int .i64 0]) ?_ 1 _ rfl;(with_reducible repeat (first|apply kn_|apply kd_|apply ka_));refine blk_put (cs:=#[.int .i64 0,.int .i64 0,.int .i64 0]) ?_ 0 _ rfl;(with_reducible repeat (first|apply kn_|apply kd_|apply ka_));exact BK371.out⟩
                have n2_ : Aside0 (Below w.heap.size w (((w31.setCell ⟨gb371,0,none⟩ (.int .i64 ((rd_T83 l1 x34_3).f0))).setCell ⟨gb371,1,none⟩ (.int .i64 ((rd_T83 l1 x34_3).f1))).setCell ⟨gb371,2,none⟩ (.int .i64 ((rd_T83 l1 x34_3).f2)))):=⟨u0_ HB GE371⟩
                (try clear HO_5)
                (try clear BK371)
                (try clear HB)
                generalize (((w31.setCell ⟨gb371,0,none⟩ (.int .i64 ((rd_T83 l1 x34_3).f0))).setCell ⟨gb371,1,none⟩ (.int .i64 ((rd_T83 l1 x34_3).f1))).setCell ⟨gb371,2,none⟩ (.int .i64 ((rd_T83 l1 x34_3).f2))) = w33 at n0_ n1_ n2_ ⊢
                have HO_5:=n0_
                have BK371:=n1_
                have HB:=n2_
                clear n0_ n1_ n2_
                have n0_:=mk_ (rd_ HO_5.out)
                have n1_:=mk_ (kd_ BK371.out)
                have n2_:=mk_ (bd_ HB.out)
                clear HO_5
                clear BK371
                clear HB
                have HO_5:=n0_
                have BK371:=n1_
                have HB:=n2_
                clear n0_ n1_ n2_
                obtain ⟨Ao35,co35,eo35⟩:=Kd.R_slice HO_5.out
                (first|subst eo35|(injection eo35 with f1_ f2_ f3_;have f4_:=f1_.symm;have f5_:=f3_.symm;clear f1_ f2_ f3_;subst f4_;subst f5_))
                have p372 : 0 ≤ (((rd_T83 l1 x34_3).f0) : Int):=od_ qa_
                have q372 : ((rd_T83 l1 x34_3).f0) < (x5_3.length : Int):=od_ qa_
                obtain ⟨ad372,e372,hx372_0⟩:=Kd.at_int (rr_ HO_5.out).2.2 ((rd_T83 l1 x34_3).f0) p372 q372
                cases e372
                replace p372:=eq_true p372
                replace q372:=eq_true q372
                have p373 : 0 ≤ (((rd_T83 l1 x34_3).f1) : Int):=od_ qa_
                have q373 : ((rd_T83 l1 x34_3).f1) < (x5_3.length : Int):=od_ qa_
                obtain ⟨ad373,e373,hx373_0⟩:=Kd.at_int (rr_ HO_5.out).2.2 ((rd_T83 l1 x34_3).f1) p373 q373
                obtain rfl : ad372 = ad373:=(by injection e373)
                replace p373:=eq_true p373
                replace q373:=eq_true q373
                have p28 : 0 ≤ (((rd_T83 l1 x34_3).f0) : Int):=od_ qa_
                have q28 : (((rd_T83 l1 x34_3).f0) : Int) < ((x5_3.length : Int) : Int):=od_ qa_
                obtain ⟨go28,co28,eo28,gb28,gl28,cl28,HG28⟩:=Kd.R_form HO_5.out (by omega)
                (first|cases eo28|(injection eo28 with ea_ en_ ec_;(first|subst ea_|(injection ea_ with ea_;subst ea_));subst ec_;clear en_))
                have GB28:=mk_ gb28
                have GG28:=mk_ HG28
                clear gb28 gl28 HG28
                (first|simp only [add_plain] at hx372_0|skip)
                (first|simp only [add_plain] at hx373_0|skip)
                obtain ⟨hx28_0,hf28_0⟩:=Kd.R_celln 0 HO_5.out (((rd_T83 l1 x34_3).f0) : Int) p28 q28
                replace p28:=eq_true p28
                replace q28:=eq_true q28
                have HP36:=Kd.R_putn HO_5.out (((rd_T83 l1 x34_3).f0) : Int) ji27
                rw [← Ny374.out] at HP36
                have HQ36:=mk_ HP36
                clear HP36
                refine start_ (n:=19) (S:=fun w' => w'.cell? ⟨gb371,0,none⟩ = some (.int .i64 ((rd_T83 l1 x34_3).f0)) ∧ w'.cell? ⟨gb371,1,none⟩ = some (.int .i64 ((rd_T83 l1 x34_3).f1)) ∧ w'.cell? ⟨gb371,2,none⟩ = some (.int .i64 ((rd_T83 l1 x34_3).f2)) ∧ w'.cell? ⟨go28,(((rd_T83 l1 x34_3).f0)).toNat,none⟩ = some (.int .i64 (rd x5_3 ((rd_T83 l1 x34_3).f0))) ∧ w'.cell? ⟨go28,(((rd_T83 l1 x34_3).f1)).toNat,none⟩ = some (.int .i64 (rd x5_3 ((rd_T83 l1 x34_3).f1)))) (ds:=[18]) #[false,false,false,false,false,false,false,false,false,false,false,false,false,false,false,false,false,false,false] (by kernel_rfl) rfl rfl ⟨(bc_ BK371.out 0).trans rfl,(bc_ BK371.out 1).trans rfl,(bc_ BK371.out 2).trans rfl,hx372_0,hx373_0⟩ (fun hHeld => ?_);refine with_tabW impl_costsOf.tab13 impl_costsOf.bits13 (fun HT_ HW_ => ?_)
                generalize w33.drew = w34 at HO_5 BK371 HB GG28 HQ36 hf28_0 hx28_0 hx372_0 hx373_0 hHeld ⊢
                refine pu_ (i:=0) (N:=some 38) 19 1 ?_
                refine pu_ (i:=1) (N:=some 39) 19 3 ?_
                refine pu_ (i:=3) (N:=some 41) 19 11 ?_
                refine pu_ (i:=4) (N:=some 42) 19 27 ?_
                refine pu_ (i:=8) (N:=some 46) 19 283 ?_
                refine pu_ (i:=9) (N:=some 47) 19 795 ?_
                refine pu_ (i:=13) (N:=some 51) 19 8987 ?_
                refine ta5_ (i:=2) (N:=some 40) 19 8991 hHeld ?_
                refine ta5_ (i:=5) (N:=some 43) 19 9023 hHeld ?_
                refine pu_ (i:=6) (N:=some 44) 19 9087 ?_
                refine ta5_ (i:=7) (N:=some 45) 19 9215 hHeld ?_
                refine ta5_ (i:=10) (N:=some 48) 19 10239 hHeld ?_
                refine pu_ (i:=11) (N:=some 49) 19 12287 ?_
                refine ta5_ (i:=12) (N:=some 50) 19 16383 hHeld ?_
                refine ta5_ (i:=14) (N:=some 52) 19 32767 hHeld ?_
                refine pu_ (i:=15) (N:=some 53) 19 65535 ?_
                refine pu_ (i:=16) (N:=some 54) 19 131071 ?_
                refine pu_ (i:=17) (N:=some 55) 19 262143 ?_
                refine last_ (i:=18) (N:=none) #[true,true,true,true,true,true,true,true,true,true,true,true,true,true,true,true,true,true,true] rfl rfl (one_of HT_.out (by kernel_rfl)) (by decide) (fun K hK => ?_)
                refine skip_ (w1:=?_) (by rfl) rfl ?_ ?_
                rotate_left
                ·go_simp
                 rfl
                refine hK.out _ _ ?_
                clear hK K
                refine done_ (done_of HT_.out (by kernel_rfl)) ?_
                try go_wp2
                have n0_ : Aside0 (Kd.R (Kd.int .i64) 3 (w34.setCell ⟨go28,(((rd_T83 l1 x34_3).f0) : Int).toNat,none⟩ (.int .i64 ji27)) w.heap.size (fun _ => True) (.slice (some ⟨go28,0,none⟩) x5_3.length co35) y374):=⟨qr_ HQ36⟩
                have n1_ : Aside0 ((w34.setCell ⟨go28,(((rd_T83 l1 x34_3).f0) : Int).toNat,none⟩ (.int .i64 ji27)).heap[gb371]? = some (.cells #[.int .i64 ((rd_T83 l1 x34_3).f0),.int .i64 ((rd_T83 l1 x34_3).f1),.int .i64 ((rd_T83 l1 x34_3).f2)] 83 (0,0))):=⟨by (with_reducible repeat (first|apply kn_|apply kd_|apply ka_));refine blk_far ?_ (by have h_:=Kd.R_ne HO_5.out BK371.out (by decide);intro e_;exact h_ (by rw [e_];rfl)) _;(with_reducible repeat (first|apply kn_|apply kd_|apply ka_));exact BK371.out⟩
                have n2_ : Aside0 (Below w.heap.size w (w34.setCell ⟨go28,(((rd_T83 l1 x34_3).f0) : Int).toNat,none⟩ (.int .i64 ji27))):=⟨u11_ HB GB28 GE371⟩
                (try clear HO_5)
                (try clear BK371)
                (try clear HB)
                generalize (w34.setCell ⟨go28,(((rd_T83 l1 x34_3).f0) : Int).toNat,none⟩ (.int .i64 ji27)) = w37 at n0_ n1_ n2_ ⊢
                have HO_5:=n0_
                have BK371:=n1_
                have HB:=n2_
                clear n0_ n1_ n2_
                have n0_:=mk_ (rd_ HO_5.out)
                have n1_:=mk_ (kd_ BK371.out)
                have n2_:=mk_ (bd_ HB.out)
                clear HO_5
                clear BK371
                clear HB
                have HO_5:=n0_
                have BK371:=n1_
                have HB:=n2_
                clear n0_ n1_ n2_
                have p375 : 0 ≤ (((rd_T83 l1 x34_3).f1) : Int):=od_ qa_
                have q375 : ((rd_T83 l1 x34_3).f1) < (y374.length : Int):=(by have h_ : (((rd_T83 l1 x34_3).f1) : Int) < ((x5_3.length : Int) : Int):=od_ qa_;first|(have e_:=(rr_ HO_5.out).1;omega)|simpa only [Ny374.out,List.length_set] using h_)
                have ql375 : ((((rd_T83 l1 x34_3).f1) : Int) < ((x5_3.length : Int) : Int)) = True:=eq_true (od_ qa_)
                obtain ⟨ad375,e375,hx375_0⟩:=Kd.at_int (rr_ HO_5.out).2.2 ((rd_T83 l1 x34_3).f1) p375 q375
                obtain rfl : (⟨go28,0,none⟩ : Addr) = ad375:=(by injection e375)
                (first|simp only [add_plain] at hx375_0|simp only [add_at] at hx375_0|simp only [Addr.add,Nat.zero_add] at hx375_0|skip)
                replace p375:=eq_true p375
                replace q375:=eq_true q375
                have p376 : 0 ≤ (((rd_T83 l1 x34_3).f0) : Int):=od_ qa_
                have q376 : ((rd_T83 l1 x34_3).f0) < (y374.length : Int):=(by have h_ : (((rd_T83 l1 x34_3).f0) : Int) < ((x5_3.length : Int) : Int):=od_ qa_;first|(have e_:=(rr_ HO_5.out).1;omega)|simpa only [Ny374.out,List.length_set] using h_)
                have ql376 : ((((rd_T83 l1 x34_3).f0) : Int) < ((x5_3.length : Int) : Int)) = True:=eq_true (od_ qa_)
                obtain ⟨ad376,e376,hx376_0⟩:=Kd.at_int (rr_ HO_5.out).2.2 ((rd_T83 l1 x34_3).f0) p376 q376
                obtain rfl : (⟨go28,0,none⟩ : Addr) = ad376:=(by injection e376)
                (first|simp only [add_plain] at hx376_0|simp only [add_at] at hx376_0|simp only [Addr.add,Nat.zero_add] at hx376_0|skip)
                replace p376:=eq_true p376
                replace q376:=eq_true q376
                have p30 : 0 ≤ (((rd_T83 l1 x34_3).f1) : Int):=od_ qa_
                have q30 : (((rd_T83 l1 x34_3).f1) : Int) < ((x5_3.length : Int) : Int):=od_ qa_
                obtain ⟨hx30_0,hf30_0⟩:=Kd.R_celln 0 HO_5.out (((rd_T83 l1 x34_3).f1) : Int) p30 q30
                replace p30:=eq_true p30
                replace q30:=eq_true q30
                have HP39:=Kd.R_putn HO_5.out (((rd_T83 l1 x34_3).f1) : Int) ji29
                rw [← Ny377.out] at HP39
                have HQ39:=mk_ HP39
                clear HP39
                refine start_ (n:=19) (S:=fun w' => w'.cell? ⟨gb371,0,none⟩ = some (.int .i64 ((rd_T83 l1 x34_3).f0)) ∧ w'.cell? ⟨gb371,1,none⟩ = some (.int .i64 ((rd_T83 l1 x34_3).f1)) ∧ w'.cell? ⟨gb371,2,none⟩ = some (.int .i64 ((rd_T83 l1 x34_3).f2)) ∧ w'.cell? ⟨go28,(((rd_T83 l1 x34_3).f1)).toNat,none⟩ = some (.int .i64 (rd y374 ((rd_T83 l1 x34_3).f1))) ∧ w'.cell? ⟨go28,(((rd_T83 l1 x34_3).f0)).toNat,none⟩ = some (.int .i64 (rd y374 ((rd_T83 l1 x34_3).f0)))) (ds:=[18]) #[false,false,false,false,false,false,false,false,false,false,false,false,false,false,false,false,false,false,false] (by kernel_rfl) rfl rfl ⟨(bc_ BK371.out 0).trans rfl,(bc_ BK371.out 1).trans rfl,(bc_ BK371.out 2).trans rfl,hx375_0,hx376_0⟩ (fun hHeld => ?_);refine with_tabW impl_costsOf.tab14 impl_costsOf.bits14 (fun HT_ HW_ => ?_)
                generalize w37.drew = w38 at HO_5 BK371 HB HQ36 HQ39 hf30_0 hx30_0 hx375_0 hx376_0 hHeld ⊢
                refine pu_ (i:=0) (N:=some 56) 19 1 ?_
                refine pu_ (i:=1) (N:=some 57) 19 3 ?_
                refine pu_ (i:=3) (N:=some 59) 19 11 ?_
                refine pu_ (i:=4) (N:=some 60) 19 27 ?_
                refine pu_ (i:=8) (N:=some 64) 19 283 ?_
                refine pu_ (i:=9) (N:=some 65) 19 795 ?_
                refine pu_ (i:=13) (N:=some 69) 19 8987 ?_
                refine ta5_ (i:=2) (N:=some 58) 19 8991 hHeld ?_
                refine ta5_ (i:=5) (N:=some 61) 19 9023 hHeld ?_
                refine pu_ (i:=6) (N:=some 62) 19 9087 ?_
                refine ta5_ (i:=7) (N:=some 63) 19 9215 hHeld ?_
                refine ta5_ (i:=10) (N:=some 66) 19 10239 hHeld ?_
                refine pu_ (i:=11) (N:=some 67) 19 12287 ?_
                refine ta5_ (i:=12) (N:=some 68) 19 16383 hHeld ?_
                refine ta5_ (i:=14) (N:=some 70) 19 32767 hHeld ?_
                refine pu_ (i:=15) (N:=some 71) 19 65535 ?_
                refine pu_ (i:=16) (N:=some 72) 19 131071 ?_
                refine pu_ (i:=17) (N:=some 73) 19 262143 ?_
                refine last_ (i:=18) (N:=none) #[true,true,true,true,true,true,true,true,true,true,true,true,true,true,true,true,true,true,true] rfl rfl (one_of HT_.out (by kernel_rfl)) (by decide) (fun K hK => ?_)
                refine skip_ (w1:=?_) (by rfl) rfl ?_ ?_
                rotate_left
                ·go_simp
                 rfl
                refine hK.out _ _ ?_
                clear hK K
                refine done_ (done_of HT_.out (by kernel_rfl)) ?_
                try go_wp2
                go_roundg k3
                case measure => have:=HK1.out;have:=HK2.out;have:=HK3.out;omega
                case rel => exact ⟨(y377),(wrap64 (x34_3 + 1)),qf_,H',⟨by have:=HK1.out;have:=HK2.out;have:=HK3.out;omega⟩,⟨qr_ HQ39⟩,⟨u11_ HB GB28 GE371⟩⟩
               ·rw [if_neg c26] at H
                exact absurd H (by simp)
              ·rw [if_neg c25] at H
               exact absurd H (by simp)
             ·rw [if_neg c24] at H
              exact absurd H (by simp)
            ·rw [if_neg c23] at H
             exact absurd H (by simp)
           ·rw [if_neg c22] at H
            exact absurd H (by simp)
          ·rw [if_neg c21] at H
           exact absurd H (by simp)
         ·rw [if_neg c20] at H
          have c20b0 : decide (x34_3 < (l1.length : Int)) = false:=decide_eq_false c20
          clear c20
          have H':=mk_ H
          clear H
          go_wp2
          go_roundg k3
          case measure => have:=HK1.out;have:=HK2.out;have:=HK3.out;omega
          case rel => exact ⟨(x5_3),(wrap64 (x30_2 + 1)),qf_,H',⟨by have:=HK1.out;have:=HK2.out;have:=HK3.out;omega⟩,⟨qr_ HO_5⟩,⟨u1_ HB⟩⟩
      ·rw [if_neg c19] at H
       have c19b0 : decide (x30_2 < a0) = false:=decide_eq_false c19
       clear c19
       obtain rfl:=Option.some.inj H
       go_wp2
       go_ret
       exact ⟨_,qe_,qr_ HO_5,u1_ HB⟩
end Go.Proofs.Ytblcnbnphjnhdaa.PAll
