/- Proved here: contracts of functions of the given program, or lemmas on them, for the laws of this seat. Written by xprint.py, a program of this session, on the ground of the kit's print; parts by hand: wip/x/ext. -/
import Derived.Test.YtdamdcdjodmemaaPAllx0
import Derived.Test.YtdamdcdjodmemaaPAllx1
import Derived.Test.YtdamdcdjodmemaaPAllx3
import Derived.Test.YtdamdcdjodmemaaPAllx4
import Derived.Test.YtdamdcdjodmemaaPAllx5
namespace Go.Proofs.Ytdamdcdjodmemaa.PAll
open Go.RowKit Go.Proofs.YtdamdcdjodmemaaW.PrintWords Go.Proofs.YtdamdcdjodmemaaW.PrintLast Go.Proofs.YtdamdcdjodmemaaW.PrintMore
attribute [local go_sem] max2_int min2_int max_two min_two max_three min_three max_four min_four   -- for this text's walks alone
set_option linter.unusedVariables false
set_option linter.unusedSimpArgs false

/-! ### (its walk) -/
set_option maxHeartbeats 8000000 in
set_option maxRecDepth 100000 in
theorem laws_FnExactCutCable.calls (k : Nat) (a0_0 : Int) (A0_1 : Option Addr) (c0_1 : Nat) (l0_1 : List (S79)) (A0_2 : Option Addr) (c0_2 : Nat) (l0_2 : List Int) (A0_3 : Option Addr) (c0_3 : Nat) (l0_3 : List Int) (a1 : Int) (r : Bool) (w : World) (hr0_1 : Kd.C k79 w A0_1 l0_1.length l0_1) (hc0_1 : l0_1.length ≤ c0_1) (hr0_2 : Kd.C (Kd.int .i64) w A0_2 l0_2.length l0_2) (hc0_2 : l0_2.length ≤ c0_2) (hr0_3 : Kd.C (Kd.int .i64) w A0_3 l0_3.length l0_3) (hc0_3 : l0_3.length ≤ c0_3) (h : laws_FnExactCutCable.f k a0_0 l0_1 l0_2 l0_3 a1 = some r) :
  Calls Try.prog 6 #[.agg #[.int .i64 a0_0,.slice A0_1 l0_1.length c0_1,.slice A0_2 l0_2.length c0_2,.slice A0_3 l0_3.length c0_3],.int .i64 a1] w fun e w' => e = .returned (.bool r) ∧ Below w.heap.size w w':=by
 have hu25:=Try.underlying25
 have hu30:=Try.underlying30
 have HR0_1:=mk_ hr0_1
 have HC0_1:=mk_ hc0_1
 clear hr0_1 hc0_1
 have HR0_2:=mk_ hr0_2
 have HC0_2:=mk_ hc0_2
 clear hr0_2 hc0_2
 have HR0_3:=mk_ hr0_3
 have HC0_3:=mk_ hc0_3
 clear hr0_3 hc0_3
 have HB:=mk_ (Below.refl w.heap.size w)
 have H : ((laws_szNet.f a0_0 l0_1 l0_2 l0_3 1048576).bind fun t229 => (if t229 < 0 then (some true) else ((laws_toNet.f k a0_0 l0_1 l0_2 l0_3).bind fun bt230 => ((spec_CutCable.f k bt230.1 bt230.2.1 bt230.2.2.1 bt230.2.2.2 a1).bind fun bt240 => ((laws_toNet.f k a0_0 l0_1 l0_2 l0_3).bind fun bt252 => ((impl_CutCable.f k bt252.1 bt252.2.1 bt252.2.2.1 bt252.2.2.2 a1).bind fun bt263 => ((laws_eqNet.f k bt263.1 bt263.2.1 bt263.2.2.1 bt263.2.2.2.1 bt240.1 bt240.2.1 bt240.2.2.1 bt240.2.2.2.1).bind fun t275 => (if t275 = true then (laws_FnExactCutCable.j0 k a1 bt240.2.2.2.2 bt263.2.2.2.2 (bt263.2.2.2.2 != bt240.2.2.2.2) a0_0 l0_1 l0_2 l0_3 bt240.1 bt240.2.1 bt240.2.2.1 bt240.2.2.2.1 bt252.1 bt252.2.1 bt252.2.2.1 bt252.2.2.2 bt263.1 bt263.2.1 bt263.2.2.1 bt263.2.2.2.1) else (laws_FnExactCutCable.j0 k a1 bt240.2.2.2.2 bt263.2.2.2.2 true a0_0 l0_1 l0_2 l0_3 bt240.1 bt240.2.1 bt240.2.2.1 bt240.2.2.2.1 bt252.1 bt252.2.1 bt252.2.2.1 bt252.2.2.2 bt263.1 bt263.2.1 bt263.2.2.1 bt263.2.2.2.1))))))))) = some r:=h
 clear h
 replace H:=Option.bind_eq_some_iff.mp H
 obtain ⟨t229,A30,H⟩:=H
 replace H : (if t229 < 0 then (some true) else ((laws_toNet.f k a0_0 l0_1 l0_2 l0_3).bind fun bt230 => ((spec_CutCable.f k bt230.1 bt230.2.1 bt230.2.2.1 bt230.2.2.2 a1).bind fun bt240 => ((laws_toNet.f k a0_0 l0_1 l0_2 l0_3).bind fun bt252 => ((impl_CutCable.f k bt252.1 bt252.2.1 bt252.2.2.1 bt252.2.2.2 a1).bind fun bt263 => ((laws_eqNet.f k bt263.1 bt263.2.1 bt263.2.2.1 bt263.2.2.2.1 bt240.1 bt240.2.1 bt240.2.2.1 bt240.2.2.2.1).bind fun t275 => (if t275 = true then (laws_FnExactCutCable.j0 k a1 bt240.2.2.2.2 bt263.2.2.2.2 (bt263.2.2.2.2 != bt240.2.2.2.2) a0_0 l0_1 l0_2 l0_3 bt240.1 bt240.2.1 bt240.2.2.1 bt240.2.2.2.1 bt252.1 bt252.2.1 bt252.2.2.1 bt252.2.2.2 bt263.1 bt263.2.1 bt263.2.2.1 bt263.2.2.2.1) else (laws_FnExactCutCable.j0 k a1 bt240.2.2.2.2 bt263.2.2.2.2 true a0_0 l0_1 l0_2 l0_3 bt240.1 bt240.2.1 bt240.2.2.1 bt240.2.2.2.1 bt252.1 bt252.2.1 bt252.2.2.1 bt252.2.2.2 bt263.1 bt263.2.1 bt263.2.2.1 bt263.2.2.2.1)))))))) = some r:=H
 have A3:=mk_ A30
 clear A30
 by_cases c4 : t229 < 0
 ·rw [if_pos c4] at H
  have c4b0 : decide (t229 < 0) = true:=decide_eq_true c4
  clear c4
  obtain rfl:=Option.some.inj H
  go_enter Try.func6,Try.ntmps6
  go_wp2_with (first|((with_reducible refine gate_dst (N:=2) rfl ?_);refine box_event ?hg (N:=2) ?hd (cs:=#[.int .i64 a0_0,.slice A0_1 l0_1.length c0_1,.slice A0_2 l0_2.length c0_2,.slice A0_3 l0_3.length c0_3]) (t:=25) ?hr ?_;(case hd => rfl);(case hg => rfl);(case hr => first|(go_simp;done)|(go_simp;rfl));intro gb228 hg w5 hbox hb;have n0_:=mk_ (st_ (qb_ HB) hb);have n1_:=mk_ (hbox);have n2_:=mk_ ((by rw [hg];exact (bz_ (qb_ HB)) : w.heap.size ≤ gb228));have n3_:=mk_ ((by rw [hg];exact (bz_ (qb_ HB)) : w.heap.size ≤ gb228));clear HB;have HB:=n0_;have BK228:=n1_;have GW228:=n2_;have GE228:=n3_;clear n0_ n1_ n2_ n3_ hb hbox hg;have hcz6_0 : w5.cell? ⟨gb228,0,none⟩ = some (.int .i64 a0_0):=(bc_ BK228.out 0).trans rfl;have hcz6_1 : w5.cell? ⟨gb228,1,none⟩ = some (.slice A0_1 l0_1.length c0_1):=(bc_ BK228.out 1).trans rfl;have hcz6_2 : w5.cell? ⟨gb228,2,none⟩ = some (.slice A0_2 l0_2.length c0_2):=(bc_ BK228.out 2).trans rfl;have hcz6_3 : w5.cell? ⟨gb228,3,none⟩ = some (.slice A0_3 l0_3.length c0_3):=(bc_ BK228.out 3).trans rfl;have hfz6_0:=bf_ BK228.out 0;have hfz6_1:=bf_ BK228.out 1;have hfz6_2:=bf_ BK228.out 2;have hfz6_3:=bf_ BK228.out 3)|((with_reducible refine gate_callee (f:=12) rfl ?_);refine goesL_ (some 18) rfl rfl Try.func12 (by kernel_rfl) rfl #[.agg #[.int .i64 a0_0,.slice A0_1 l0_1.length c0_1,.slice A0_2 l0_2.length c0_2,.slice A0_3 l0_3.length c0_3],.int .i64 1048576] rfl qm_ ?_;(with_reducible refine (laws_szNet.calls a0_0 _ _ l0_1 _ _ l0_2 _ _ l0_3 1048576 t229 _ ?side1 ?side2 ?side3 ?side4 ?side5 ?side6 A3.out).mono ?_);(case side1 => exact qn_ HR0_1 HB);(case side2 => exact HC0_1.out);(case side3 => exact qn_ HR0_2 HB);(case side4 => exact HC0_2.out);(case side5 => exact qn_ HR0_3 HB);(case side6 => exact HC0_3.out);rintro e w7 ⟨rfl,hb⟩;refine ⟨_,rfl,?_⟩;have n0_:=mk_ (blk_below (g:=gb228) (o:=.cells #[.int .i64 a0_0,.slice A0_1 l0_1.length c0_1,.slice A0_2 l0_2.length c0_2,.slice A0_3 l0_3.length c0_3] 25 (0,0)) (qk_ BK228) hb);have n1_:=mk_ (st_ (qc_ HB GE228) hb);clear BK228 HB;have BK228:=n0_;have HB:=n1_;clear n0_ n1_;(try clear hb);(try clear hb2);(try clear hk);(try clear hi)))
  go_ret
  exact ⟨qe_,u0_ HB GE228⟩
 ·rw [if_neg c4] at H
  have c4b0 : decide (t229 < 0) = false:=decide_eq_false c4
  clear c4
  replace H:=Option.bind_eq_some_iff.mp H
  obtain ⟨⟨t230,t231,t234,t237⟩,A80,H⟩:=H
  replace H : ((spec_CutCable.f k t230 t231 t234 t237 a1).bind fun bt240 => ((laws_toNet.f k a0_0 l0_1 l0_2 l0_3).bind fun bt252 => ((impl_CutCable.f k bt252.1 bt252.2.1 bt252.2.2.1 bt252.2.2.2 a1).bind fun bt263 => ((laws_eqNet.f k bt263.1 bt263.2.1 bt263.2.2.1 bt263.2.2.2.1 bt240.1 bt240.2.1 bt240.2.2.1 bt240.2.2.2.1).bind fun t275 => (if t275 = true then (laws_FnExactCutCable.j0 k a1 bt240.2.2.2.2 bt263.2.2.2.2 (bt263.2.2.2.2 != bt240.2.2.2.2) a0_0 l0_1 l0_2 l0_3 bt240.1 bt240.2.1 bt240.2.2.1 bt240.2.2.2.1 bt252.1 bt252.2.1 bt252.2.2.1 bt252.2.2.2 bt263.1 bt263.2.1 bt263.2.2.1 bt263.2.2.2.1) else (laws_FnExactCutCable.j0 k a1 bt240.2.2.2.2 bt263.2.2.2.2 true a0_0 l0_1 l0_2 l0_3 bt240.1 bt240.2.1 bt240.2.2.1 bt240.2.2.2.1 bt252.1 bt252.2.1 bt252.2.2.1 bt252.2.2.2 bt263.1 bt263.2.1 bt263.2.2.1 bt263.2.2.2.1)))))) = some r:=H
  have A8:=mk_ A80
  clear A80
  replace H:=Option.bind_eq_some_iff.mp H
  obtain ⟨⟨t240,t241,t244,t247,t250⟩,A90,H⟩:=H
  replace H : ((laws_toNet.f k a0_0 l0_1 l0_2 l0_3).bind fun bt252 => ((impl_CutCable.f k bt252.1 bt252.2.1 bt252.2.2.1 bt252.2.2.2 a1).bind fun bt263 => ((laws_eqNet.f k bt263.1 bt263.2.1 bt263.2.2.1 bt263.2.2.2.1 t240 t241 t244 t247).bind fun t275 => (if t275 = true then (laws_FnExactCutCable.j0 k a1 t250 bt263.2.2.2.2 (bt263.2.2.2.2 != t250) a0_0 l0_1 l0_2 l0_3 t240 t241 t244 t247 bt252.1 bt252.2.1 bt252.2.2.1 bt252.2.2.2 bt263.1 bt263.2.1 bt263.2.2.1 bt263.2.2.2.1) else (laws_FnExactCutCable.j0 k a1 t250 bt263.2.2.2.2 true a0_0 l0_1 l0_2 l0_3 t240 t241 t244 t247 bt252.1 bt252.2.1 bt252.2.2.1 bt252.2.2.2 bt263.1 bt263.2.1 bt263.2.2.1 bt263.2.2.2.1))))) = some r:=H
  have A9:=mk_ A90
  clear A90
  replace H:=Option.bind_eq_some_iff.mp H
  obtain ⟨⟨t252,t253,t256,t259⟩,A100,H⟩:=H
  replace H : ((impl_CutCable.f k t252 t253 t256 t259 a1).bind fun bt263 => ((laws_eqNet.f k bt263.1 bt263.2.1 bt263.2.2.1 bt263.2.2.2.1 t240 t241 t244 t247).bind fun t275 => (if t275 = true then (laws_FnExactCutCable.j0 k a1 t250 bt263.2.2.2.2 (bt263.2.2.2.2 != t250) a0_0 l0_1 l0_2 l0_3 t240 t241 t244 t247 t252 t253 t256 t259 bt263.1 bt263.2.1 bt263.2.2.1 bt263.2.2.2.1) else (laws_FnExactCutCable.j0 k a1 t250 bt263.2.2.2.2 true a0_0 l0_1 l0_2 l0_3 t240 t241 t244 t247 t252 t253 t256 t259 bt263.1 bt263.2.1 bt263.2.2.1 bt263.2.2.2.1)))) = some r:=H
  have A10:=mk_ A100
  clear A100
  replace H:=Option.bind_eq_some_iff.mp H
  obtain ⟨⟨t263,t264,t267,t270,t273⟩,A110,H⟩:=H
  replace H : ((laws_eqNet.f k t263 t264 t267 t270 t240 t241 t244 t247).bind fun t275 => (if t275 = true then (laws_FnExactCutCable.j0 k a1 t250 t273 (t273 != t250) a0_0 l0_1 l0_2 l0_3 t240 t241 t244 t247 t252 t253 t256 t259 t263 t264 t267 t270) else (laws_FnExactCutCable.j0 k a1 t250 t273 true a0_0 l0_1 l0_2 l0_3 t240 t241 t244 t247 t252 t253 t256 t259 t263 t264 t267 t270))) = some r:=H
  have A11:=mk_ A110
  clear A110
  have HC12:=mk_ H
  clear H
  go_enter Try.func6,Try.ntmps6
  go_upto_region 8 with (first|((with_reducible refine gate_dst (N:=2) rfl ?_);refine box_event ?hg (N:=2) ?hd (cs:=#[.int .i64 a0_0,.slice A0_1 l0_1.length c0_1,.slice A0_2 l0_2.length c0_2,.slice A0_3 l0_3.length c0_3]) (t:=25) ?hr ?_;(case hd => rfl);(case hg => rfl);(case hr => first|(go_simp;done)|(go_simp;rfl));intro gb228 hg w13 hbox hb;have n0_:=mk_ (st_ (qb_ HB) hb);have n1_:=mk_ (hbox);have n2_:=mk_ ((by rw [hg];exact (bz_ (qb_ HB)) : w.heap.size ≤ gb228));have n3_:=mk_ ((by rw [hg];exact (bz_ (qb_ HB)) : w.heap.size ≤ gb228));clear HB;have HB:=n0_;have BK228:=n1_;have GW228:=n2_;have GE228:=n3_;clear n0_ n1_ n2_ n3_ hb hbox hg;have hcz14_0 : w13.cell? ⟨gb228,0,none⟩ = some (.int .i64 a0_0):=(bc_ BK228.out 0).trans rfl;have hcz14_1 : w13.cell? ⟨gb228,1,none⟩ = some (.slice A0_1 l0_1.length c0_1):=(bc_ BK228.out 1).trans rfl;have hcz14_2 : w13.cell? ⟨gb228,2,none⟩ = some (.slice A0_2 l0_2.length c0_2):=(bc_ BK228.out 2).trans rfl;have hcz14_3 : w13.cell? ⟨gb228,3,none⟩ = some (.slice A0_3 l0_3.length c0_3):=(bc_ BK228.out 3).trans rfl;have hfz14_0:=bf_ BK228.out 0;have hfz14_1:=bf_ BK228.out 1;have hfz14_2:=bf_ BK228.out 2;have hfz14_3:=bf_ BK228.out 3)|((with_reducible refine gate_callee (f:=12) rfl ?_);refine goesL_ (some 18) rfl rfl Try.func12 (by kernel_rfl) rfl #[.agg #[.int .i64 a0_0,.slice A0_1 l0_1.length c0_1,.slice A0_2 l0_2.length c0_2,.slice A0_3 l0_3.length c0_3],.int .i64 1048576] rfl qm_ ?_;(with_reducible refine (laws_szNet.calls a0_0 _ _ l0_1 _ _ l0_2 _ _ l0_3 1048576 t229 _ ?side1 ?side2 ?side3 ?side4 ?side5 ?side6 A3.out).mono ?_);(case side1 => exact qn_ HR0_1 HB);(case side2 => exact HC0_1.out);(case side3 => exact qn_ HR0_2 HB);(case side4 => exact HC0_2.out);(case side5 => exact qn_ HR0_3 HB);(case side6 => exact HC0_3.out);rintro e w15 ⟨rfl,hb⟩;refine ⟨_,rfl,?_⟩;have n0_:=mk_ (blk_below (g:=gb228) (o:=.cells #[.int .i64 a0_0,.slice A0_1 l0_1.length c0_1,.slice A0_2 l0_2.length c0_2,.slice A0_3 l0_3.length c0_3] 25 (0,0)) (qk_ BK228) hb);have n1_:=mk_ (st_ (qc_ HB GE228) hb);clear BK228 HB;have BK228:=n0_;have HB:=n1_;clear n0_ n1_;(try clear hb);(try clear hb2);(try clear hk);(try clear hi);have hcz16_0 : w15.cell? ⟨gb228,0,none⟩ = some (.int .i64 a0_0):=(bc_ BK228.out 0).trans rfl;have hcz16_1 : w15.cell? ⟨gb228,1,none⟩ = some (.slice A0_1 l0_1.length c0_1):=(bc_ BK228.out 1).trans rfl;have hcz16_2 : w15.cell? ⟨gb228,2,none⟩ = some (.slice A0_2 l0_2.length c0_2):=(bc_ BK228.out 2).trans rfl;have hcz16_3 : w15.cell? ⟨gb228,3,none⟩ = some (.slice A0_3 l0_3.length c0_3):=(bc_ BK228.out 3).trans rfl;have hfz16_0:=bf_ BK228.out 0;have hfz16_1:=bf_ BK228.out 1;have hfz16_2:=bf_ BK228.out 2;have hfz16_3:=bf_ BK228.out 3)|((with_reducible refine gate_callee (f:=14) rfl ?_);refine goesL_ (some 23) rfl rfl Try.func14 (by kernel_rfl) rfl #[.agg #[.int .i64 a0_0,.slice A0_1 l0_1.length c0_1,.slice A0_2 l0_2.length c0_2,.slice A0_3 l0_3.length c0_3]] rfl qm_ ?_;(with_reducible refine (laws_toNet.calls k a0_0 _ _ l0_1 _ _ l0_2 _ _ l0_3 t230 t231 t234 t237 _ ?side1 ?side2 ?side3 ?side4 ?side5 ?side6 A8.out).mono ?_);(case side1 => exact qn_ HR0_1 HB);(case side2 => exact HC0_1.out);(case side3 => exact qn_ HR0_2 HB);(case side4 => exact HC0_2.out);(case side5 => exact qn_ HR0_3 HB);(case side6 => exact HC0_3.out);rintro e w17 ⟨v232,v235,v238,rfl,ho0,ho1,ho2,hb⟩;refine ⟨_,rfl,?_⟩;have n0_:=mk_ (Kd.R_lower ho0 (bz_ (qc_ HB GE228)));have n1_:=mk_ (Kd.R_lower ho1 (bz_ (qc_ HB GE228)));have n2_:=mk_ (Kd.R_lower ho2 (bz_ (qc_ HB GE228)));have n3_:=mk_ (blk_below (g:=gb228) (o:=.cells #[.int .i64 a0_0,.slice A0_1 l0_1.length c0_1,.slice A0_2 l0_2.length c0_2,.slice A0_3 l0_3.length c0_3] 25 (0,0)) (qk_ BK228) hb);have n4_:=mk_ (st_ (qc_ HB GE228) hb);clear BK228 HB;have HO233:=n0_;have HO236:=n1_;have HO239:=n2_;have BK228:=n3_;have HB:=n4_;clear n0_ n1_ n2_ n3_ n4_;(try clear hb);(try clear hb2);(try clear hk);(try clear hi);(try clear ho0);(try clear ho1);(try clear ho2);obtain ⟨Ao18,co18,eo18⟩:=Kd.R_slice HO233.out;subst eo18;obtain ⟨Ao19,co19,eo19⟩:=Kd.R_slice HO236.out;subst eo19;obtain ⟨Ao20,co20,eo20⟩:=Kd.R_slice HO239.out;subst eo20)|((with_reducible refine gate_callee (f:=26) rfl ?_);refine goesL_ (some 25) rfl rfl Try.func26 (by kernel_rfl) rfl #[.agg #[.int .i64 t230,.slice Ao18 t231.length co18,.slice Ao19 t234.length co19,.slice Ao20 t237.length co20],.int .i64 a1] rfl qm_ ?_;(with_reducible refine (spec_CutCable.calls k t230 _ _ t231 _ _ t234 _ _ t237 a1 t240 t241 t244 t247 t250 _ ?side1 ?side2 ?side3 ?side4 ?side5 ?side6 A9.out).mono ?_);(case side1 => repeat (first|exact (rr_ HO233.out).2.2|(with_reducible refine ca_ ?_ _)|(with_reducible refine cn_ ?_ _)|(with_reducible refine cd_ ?_)));(case side2 => exact (rr_ HO233.out).2.1);(case side3 => repeat (first|exact (rr_ HO236.out).2.2|(with_reducible refine ca_ ?_ _)|(with_reducible refine cn_ ?_ _)|(with_reducible refine cd_ ?_)));(case side4 => exact (rr_ HO236.out).2.1);(case side5 => repeat (first|exact (rr_ HO239.out).2.2|(with_reducible refine ca_ ?_ _)|(with_reducible refine cn_ ?_ _)|(with_reducible refine cd_ ?_)));(case side6 => exact (rr_ HO239.out).2.1);rintro e w21 ⟨v242,v245,v248,rfl,ho0,ho1,ho2,hb⟩;refine ⟨_,rfl,?_⟩;have n0_:=mk_ (re_ (qr_ HO233) (Kd.R_base ho0) hb);have n1_:=mk_ (rm_ (Kd.R_told (Kd.R_told (Kd.R_old (qr_ HO236) hb) (Kd.R_base ho1)) (Kd.R_base ho2)) (λ_ h=>h.1));have n2_:=mk_ (rm_ (Kd.R_told (Kd.R_told (Kd.R_old (qr_ HO239) hb) (Kd.R_base ho1)) (Kd.R_base ho2)) (λ_ h=>h.1));have n3_:=mk_ (Kd.R_lower (Kd.R_new' ho0 (Kd.R_lt (qr_ HO233))) (bz_ (qc_ HB GE228)));have n4_:=mk_ (Kd.R_lower (Kd.R_new' (Kd.R_new' ho1 (Kd.R_lt (qr_ HO236))) (Kd.R_lt (qr_ HO239))) (bz_ (qc_ HB GE228)));have n5_:=mk_ (Kd.R_lower (Kd.R_new' (Kd.R_new' ho2 (Kd.R_lt (qr_ HO236))) (Kd.R_lt (qr_ HO239))) (bz_ (qc_ HB GE228)));have n6_:=mk_ (blk_below (g:=gb228) (o:=.cells #[.int .i64 a0_0,.slice A0_1 l0_1.length c0_1,.slice A0_2 l0_2.length c0_2,.slice A0_3 l0_3.length c0_3] 25 (0,0)) (qk_ BK228) hb);have n7_:=mk_ (st_ (qc_ HB GE228) hb);clear HO233 HO236 HO239 BK228 HB;have HO233:=n0_;have HO236:=n1_;have HO239:=n2_;have HO243:=n3_;have HO246:=n4_;have HO249:=n5_;have BK228:=n6_;have HB:=n7_;clear n0_ n1_ n2_ n3_ n4_ n5_ n6_ n7_;(try clear hb);(try clear hb2);(try clear hk);(try clear hi);(try clear ho0);(try clear ho1);(try clear ho2))|((with_reducible refine gate_dst (N:=6) rfl ?_);refine box_event ?hg (N:=6) ?hd (cs:=#[.int .i64 0,.slice none 0 0,.slice none 0 0,.slice none 0 0]) (t:=30) ?hr ?_;(case hd => rfl);(case hg => rfl);(case hr => first|(go_simp;done)|(go_simp;rfl));intro gb251 hg w22 hbox hb;have n0_:=mk_ (rb_ (qr_ HO233) hb);have n1_:=mk_ (rb_ (qr_ HO236) hb);have n2_:=mk_ (rb_ (qr_ HO239) hb);have n3_:=mk_ (rb_ (qr_ HO243) hb);have n4_:=mk_ (rb_ (qr_ HO246) hb);have n5_:=mk_ (rb_ (qr_ HO249) hb);have n6_:=mk_ (blk_below (g:=gb228) (o:=.cells #[.int .i64 a0_0,.slice A0_1 l0_1.length c0_1,.slice A0_2 l0_2.length c0_2,.slice A0_3 l0_3.length c0_3] 25 (0,0)) (qk_ BK228) hb);have n7_:=mk_ (st_ (qc_ HB GE228) hb);have n8_:=mk_ (hbox);have n9_:=mk_ ((by rw [hg];exact (bz_ (qc_ HB GE228)) : w.heap.size ≤ gb251));have n10_:=mk_ ((by rw [hg];exact (bz_ (qc_ HB GE228)) : w.heap.size ≤ gb251));have n11_:=mk_ ((by rw [hg];exact Nat.ne_of_lt (blk_lt (g:=gb228) (o:=.cells #[.int .i64 a0_0,.slice A0_1 l0_1.length c0_1,.slice A0_2 l0_2.length c0_2,.slice A0_3 l0_3.length c0_3] 25 (0,0)) (qk_ BK228)) : gb228 ≠ gb251));have n12_:=mk_ ((by rw [hg];exact Nat.ne_of_gt (blk_lt (g:=gb228) (o:=.cells #[.int .i64 a0_0,.slice A0_1 l0_1.length c0_1,.slice A0_2 l0_2.length c0_2,.slice A0_3 l0_3.length c0_3] 25 (0,0)) (qk_ BK228)) : gb251 ≠ gb228));clear HO233 HO236 HO239 HO243 HO246 HO249 BK228 HB;have HO233:=n0_;have HO236:=n1_;have HO239:=n2_;have HO243:=n3_;have HO246:=n4_;have HO249:=n5_;have BK228:=n6_;have HB:=n7_;have BK251:=n8_;have GW251:=n9_;have GE251:=n10_;have NB228_251:=n11_;have NB251_228:=n12_;clear n0_ n1_ n2_ n3_ n4_ n5_ n6_ n7_ n8_ n9_ n10_ n11_ n12_ hb hbox hg;have hnb23:=NB251_228.out;have hnc23:=NB228_251.out;have hcz24_0 : w22.cell? ⟨gb251,0,none⟩ = some (.int .i64 0):=(bc_ BK251.out 0).trans rfl;have hcz24_1 : w22.cell? ⟨gb251,1,none⟩ = some (.slice none 0 0):=(bc_ BK251.out 1).trans rfl;have hcz24_2 : w22.cell? ⟨gb251,2,none⟩ = some (.slice none 0 0):=(bc_ BK251.out 2).trans rfl;have hcz24_3 : w22.cell? ⟨gb251,3,none⟩ = some (.slice none 0 0):=(bc_ BK251.out 3).trans rfl;have hfz24_0:=bf_ BK251.out 0;have hfz24_1:=bf_ BK251.out 1;have hfz24_2:=bf_ BK251.out 2;have hfz24_3:=bf_ BK251.out 3;obtain ⟨Ao25,co25,eo25⟩:=Kd.R_slice HO243.out;subst eo25;obtain ⟨Ao26,co26,eo26⟩:=Kd.R_slice HO246.out;subst eo26;obtain ⟨Ao27,co27,eo27⟩:=Kd.R_slice HO249.out;subst eo27;have hcz28_0 : w22.cell? ⟨gb228,0,none⟩ = some (.int .i64 a0_0):=(bc_ BK228.out 0).trans rfl;have hcz28_1 : w22.cell? ⟨gb228,1,none⟩ = some (.slice A0_1 l0_1.length c0_1):=(bc_ BK228.out 1).trans rfl;have hcz28_2 : w22.cell? ⟨gb228,2,none⟩ = some (.slice A0_2 l0_2.length c0_2):=(bc_ BK228.out 2).trans rfl;have hcz28_3 : w22.cell? ⟨gb228,3,none⟩ = some (.slice A0_3 l0_3.length c0_3):=(bc_ BK228.out 3).trans rfl;have hfz28_0:=bf_ BK228.out 0;have hfz28_1:=bf_ BK228.out 1;have hfz28_2:=bf_ BK228.out 2;have hfz28_3:=bf_ BK228.out 3)|((with_reducible refine gate_callee (f:=14) rfl ?_);refine goesL_ (some 29) rfl rfl Try.func14 (by kernel_rfl) rfl #[.agg #[.int .i64 a0_0,.slice A0_1 l0_1.length c0_1,.slice A0_2 l0_2.length c0_2,.slice A0_3 l0_3.length c0_3]] rfl qm_ ?_;(with_reducible refine (laws_toNet.calls k a0_0 _ _ l0_1 _ _ l0_2 _ _ l0_3 t252 t253 t256 t259 _ ?side1 ?side2 ?side3 ?side4 ?side5 ?side6 A10.out).mono ?_);(case side1 => exact cb_ HR0_1.out (qd_ HB GE228 GE251));(case side2 => exact HC0_1.out);(case side3 => exact cb_ HR0_2.out (qd_ HB GE228 GE251));(case side4 => exact HC0_2.out);(case side5 => exact cb_ HR0_3.out (qd_ HB GE228 GE251));(case side6 => exact HC0_3.out);rintro e w29 ⟨v254,v257,v260,rfl,ho0,ho1,ho2,hb⟩;refine ⟨_,rfl,?_⟩;have n0_:=mk_ (re_ (by (with_reducible repeat (first|apply ra_|apply rn_|apply rd_));exact (rm_ (rf_ (p:=⟨gb251,3,none⟩) (rf_ (p:=⟨gb251,2,none⟩) (rf_ (p:=⟨gb251,1,none⟩) (rf_ (p:=⟨gb251,0,none⟩) (rt_ HO233.out BK251.out (by decide)) (λ_ h=>h.2) (.int .i64 t240)) (λ_ h=>h.2) (.slice Ao25 t241.length co25)) (λ_ h=>h.2) (.slice Ao26 t244.length co26)) (λ_ h=>h.2) (.slice Ao27 t247.length co27)) (λ_ h=>h.1))) (Kd.R_base ho0) hb);have n1_:=mk_ (rm_ (Kd.R_told (Kd.R_told (Kd.R_old (by (with_reducible repeat (first|apply ra_|apply rn_|apply rd_));exact (rm_ (rf_ (p:=⟨gb251,3,none⟩) (rf_ (p:=⟨gb251,2,none⟩) (rf_ (p:=⟨gb251,1,none⟩) (rf_ (p:=⟨gb251,0,none⟩) (rt_ HO236.out BK251.out (by decide)) (λ_ h=>h.2) (.int .i64 t240)) (λ_ h=>h.2) (.slice Ao25 t241.length co25)) (λ_ h=>h.2) (.slice Ao26 t244.length co26)) (λ_ h=>h.2) (.slice Ao27 t247.length co27)) (λ_ h=>h.1))) hb) (Kd.R_base ho1)) (Kd.R_base ho2)) (λ_ h=>h.1));have n2_:=mk_ (rm_ (Kd.R_told (Kd.R_told (Kd.R_old (by (with_reducible repeat (first|apply ra_|apply rn_|apply rd_));exact (rm_ (rf_ (p:=⟨gb251,3,none⟩) (rf_ (p:=⟨gb251,2,none⟩) (rf_ (p:=⟨gb251,1,none⟩) (rf_ (p:=⟨gb251,0,none⟩) (rt_ HO239.out BK251.out (by decide)) (λ_ h=>h.2) (.int .i64 t240)) (λ_ h=>h.2) (.slice Ao25 t241.length co25)) (λ_ h=>h.2) (.slice Ao26 t244.length co26)) (λ_ h=>h.2) (.slice Ao27 t247.length co27)) (λ_ h=>h.1))) hb) (Kd.R_base ho1)) (Kd.R_base ho2)) (λ_ h=>h.1));have n3_:=mk_ (re_ (by (with_reducible repeat (first|apply ra_|apply rn_|apply rd_));exact (rm_ (rf_ (p:=⟨gb251,3,none⟩) (rf_ (p:=⟨gb251,2,none⟩) (rf_ (p:=⟨gb251,1,none⟩) (rf_ (p:=⟨gb251,0,none⟩) (rt_ HO243.out BK251.out (by decide)) (λ_ h=>h.2) (.int .i64 t240)) (λ_ h=>h.2) (.slice Ao25 t241.length co25)) (λ_ h=>h.2) (.slice Ao26 t244.length co26)) (λ_ h=>h.2) (.slice Ao27 t247.length co27)) (λ_ h=>h.1))) (Kd.R_base ho0) hb);have n4_:=mk_ (rm_ (Kd.R_told (Kd.R_told (Kd.R_old (by (with_reducible repeat (first|apply ra_|apply rn_|apply rd_));exact (rm_ (rf_ (p:=⟨gb251,3,none⟩) (rf_ (p:=⟨gb251,2,none⟩) (rf_ (p:=⟨gb251,1,none⟩) (rf_ (p:=⟨gb251,0,none⟩) (rt_ HO246.out BK251.out (by decide)) (λ_ h=>h.2) (.int .i64 t240)) (λ_ h=>h.2) (.slice Ao25 t241.length co25)) (λ_ h=>h.2) (.slice Ao26 t244.length co26)) (λ_ h=>h.2) (.slice Ao27 t247.length co27)) (λ_ h=>h.1))) hb) (Kd.R_base ho1)) (Kd.R_base ho2)) (λ_ h=>h.1));have n5_:=mk_ (rm_ (Kd.R_told (Kd.R_told (Kd.R_old (by (with_reducible repeat (first|apply ra_|apply rn_|apply rd_));exact (rm_ (rf_ (p:=⟨gb251,3,none⟩) (rf_ (p:=⟨gb251,2,none⟩) (rf_ (p:=⟨gb251,1,none⟩) (rf_ (p:=⟨gb251,0,none⟩) (rt_ HO249.out BK251.out (by decide)) (λ_ h=>h.2) (.int .i64 t240)) (λ_ h=>h.2) (.slice Ao25 t241.length co25)) (λ_ h=>h.2) (.slice Ao26 t244.length co26)) (λ_ h=>h.2) (.slice Ao27 t247.length co27)) (λ_ h=>h.1))) hb) (Kd.R_base ho1)) (Kd.R_base ho2)) (λ_ h=>h.1));have n6_:=mk_ (Kd.R_lower (Kd.R_new' (Kd.R_new' ho0 (Kd.R_lt (by (with_reducible repeat (first|apply ra_|apply rn_|apply rd_));exact (rm_ (rf_ (p:=⟨gb251,3,none⟩) (rf_ (p:=⟨gb251,2,none⟩) (rf_ (p:=⟨gb251,1,none⟩) (rf_ (p:=⟨gb251,0,none⟩) (rt_ HO233.out BK251.out (by decide)) (λ_ h=>h.2) (.int .i64 t240)) (λ_ h=>h.2) (.slice Ao25 t241.length co25)) (λ_ h=>h.2) (.slice Ao26 t244.length co26)) (λ_ h=>h.2) (.slice Ao27 t247.length co27)) (λ_ h=>h.1))))) (Kd.R_lt (by (with_reducible repeat (first|apply ra_|apply rn_|apply rd_));exact (rm_ (rf_ (p:=⟨gb251,3,none⟩) (rf_ (p:=⟨gb251,2,none⟩) (rf_ (p:=⟨gb251,1,none⟩) (rf_ (p:=⟨gb251,0,none⟩) (rt_ HO243.out BK251.out (by decide)) (λ_ h=>h.2) (.int .i64 t240)) (λ_ h=>h.2) (.slice Ao25 t241.length co25)) (λ_ h=>h.2) (.slice Ao26 t244.length co26)) (λ_ h=>h.2) (.slice Ao27 t247.length co27)) (λ_ h=>h.1))))) (bz_ (qd_ HB GE228 GE251)));have n7_:=mk_ (Kd.R_lower (Kd.R_new' (Kd.R_new' (Kd.R_new' (Kd.R_new' ho1 (Kd.R_lt (by (with_reducible repeat (first|apply ra_|apply rn_|apply rd_));exact (rm_ (rf_ (p:=⟨gb251,3,none⟩) (rf_ (p:=⟨gb251,2,none⟩) (rf_ (p:=⟨gb251,1,none⟩) (rf_ (p:=⟨gb251,0,none⟩) (rt_ HO236.out BK251.out (by decide)) (λ_ h=>h.2) (.int .i64 t240)) (λ_ h=>h.2) (.slice Ao25 t241.length co25)) (λ_ h=>h.2) (.slice Ao26 t244.length co26)) (λ_ h=>h.2) (.slice Ao27 t247.length co27)) (λ_ h=>h.1))))) (Kd.R_lt (by (with_reducible repeat (first|apply ra_|apply rn_|apply rd_));exact (rm_ (rf_ (p:=⟨gb251,3,none⟩) (rf_ (p:=⟨gb251,2,none⟩) (rf_ (p:=⟨gb251,1,none⟩) (rf_ (p:=⟨gb251,0,none⟩) (rt_ HO239.out BK251.out (by decide)) (λ_ h=>h.2) (.int .i64 t240)) (λ_ h=>h.2) (.slice Ao25 t241.length co25)) (λ_ h=>h.2) (.slice Ao26 t244.length co26)) (λ_ h=>h.2) (.slice Ao27 t247.length co27)) (λ_ h=>h.1))))) (Kd.R_lt (by (with_reducible repeat (first|apply ra_|apply rn_|apply rd_));exact (rm_ (rf_ (p:=⟨gb251,3,none⟩) (rf_ (p:=⟨gb251,2,none⟩) (rf_ (p:=⟨gb251,1,none⟩) (rf_ (p:=⟨gb251,0,none⟩) (rt_ HO246.out BK251.out (by decide)) (λ_ h=>h.2) (.int .i64 t240)) (λ_ h=>h.2) (.slice Ao25 t241.length co25)) (λ_ h=>h.2) (.slice Ao26 t244.length co26)) (λ_ h=>h.2) (.slice Ao27 t247.length co27)) (λ_ h=>h.1))))) (Kd.R_lt (by (with_reducible repeat (first|apply ra_|apply rn_|apply rd_));exact (rm_ (rf_ (p:=⟨gb251,3,none⟩) (rf_ (p:=⟨gb251,2,none⟩) (rf_ (p:=⟨gb251,1,none⟩) (rf_ (p:=⟨gb251,0,none⟩) (rt_ HO249.out BK251.out (by decide)) (λ_ h=>h.2) (.int .i64 t240)) (λ_ h=>h.2) (.slice Ao25 t241.length co25)) (λ_ h=>h.2) (.slice Ao26 t244.length co26)) (λ_ h=>h.2) (.slice Ao27 t247.length co27)) (λ_ h=>h.1))))) (bz_ (qd_ HB GE228 GE251)));have n8_:=mk_ (Kd.R_lower (Kd.R_new' (Kd.R_new' (Kd.R_new' (Kd.R_new' ho2 (Kd.R_lt (by (with_reducible repeat (first|apply ra_|apply rn_|apply rd_));exact (rm_ (rf_ (p:=⟨gb251,3,none⟩) (rf_ (p:=⟨gb251,2,none⟩) (rf_ (p:=⟨gb251,1,none⟩) (rf_ (p:=⟨gb251,0,none⟩) (rt_ HO236.out BK251.out (by decide)) (λ_ h=>h.2) (.int .i64 t240)) (λ_ h=>h.2) (.slice Ao25 t241.length co25)) (λ_ h=>h.2) (.slice Ao26 t244.length co26)) (λ_ h=>h.2) (.slice Ao27 t247.length co27)) (λ_ h=>h.1))))) (Kd.R_lt (by (with_reducible repeat (first|apply ra_|apply rn_|apply rd_));exact (rm_ (rf_ (p:=⟨gb251,3,none⟩) (rf_ (p:=⟨gb251,2,none⟩) (rf_ (p:=⟨gb251,1,none⟩) (rf_ (p:=⟨gb251,0,none⟩) (rt_ HO239.out BK251.out (by decide)) (λ_ h=>h.2) (.int .i64 t240)) (λ_ h=>h.2) (.slice Ao25 t241.length co25)) (λ_ h=>h.2) (.slice Ao26 t244.length co26)) (λ_ h=>h.2) (.slice Ao27 t247.length co27)) (λ_ h=>h.1))))) (Kd.R_lt (by (with_reducible repeat (first|apply ra_|apply rn_|apply rd_));exact (rm_ (rf_ (p:=⟨gb251,3,none⟩) (rf_ (p:=⟨gb251,2,none⟩) (rf_ (p:=⟨gb251,1,none⟩) (rf_ (p:=⟨gb251,0,none⟩) (rt_ HO246.out BK251.out (by decide)) (λ_ h=>h.2) (.int .i64 t240)) (λ_ h=>h.2) (.slice Ao25 t241.length co25)) (λ_ h=>h.2) (.slice Ao26 t244.length co26)) (λ_ h=>h.2) (.slice Ao27 t247.length co27)) (λ_ h=>h.1))))) (Kd.R_lt (by (with_reducible repeat (first|apply ra_|apply rn_|apply rd_));exact (rm_ (rf_ (p:=⟨gb251,3,none⟩) (rf_ (p:=⟨gb251,2,none⟩) (rf_ (p:=⟨gb251,1,none⟩) (rf_ (p:=⟨gb251,0,none⟩) (rt_ HO249.out BK251.out (by decide)) (λ_ h=>h.2) (.int .i64 t240)) (λ_ h=>h.2) (.slice Ao25 t241.length co25)) (λ_ h=>h.2) (.slice Ao26 t244.length co26)) (λ_ h=>h.2) (.slice Ao27 t247.length co27)) (λ_ h=>h.1))))) (bz_ (qd_ HB GE228 GE251)));have n9_:=mk_ (blk_below (g:=gb228) (o:=.cells #[.int .i64 a0_0,.slice A0_1 l0_1.length c0_1,.slice A0_2 l0_2.length c0_2,.slice A0_3 l0_3.length c0_3] 25 (0,0)) (by (with_reducible repeat (first|apply kn_|apply kd_|apply ka_));refine blk_far ?_ NB228_251.out _;(with_reducible repeat (first|apply kn_|apply kd_|apply ka_));refine blk_far ?_ NB228_251.out _;(with_reducible repeat (first|apply kn_|apply kd_|apply ka_));refine blk_far ?_ NB228_251.out _;(with_reducible repeat (first|apply kn_|apply kd_|apply ka_));refine blk_far ?_ NB228_251.out _;(with_reducible repeat (first|apply kn_|apply kd_|apply ka_));exact BK228.out) hb);have n10_:=mk_ (blk_below (g:=gb251) (o:=.cells #[.int .i64 t240,.slice Ao25 t241.length co25,.slice Ao26 t244.length co26,.slice Ao27 t247.length co27] 30 (0,0)) (by (with_reducible repeat (first|apply kn_|apply kd_|apply ka_));refine blk_put (cs:=#[.int .i64 t240,.slice Ao25 t241.length co25,.slice Ao26 t244.length co26,.slice none 0 0]) ?_ 3 _ rfl;(with_reducible repeat (first|apply kn_|apply kd_|apply ka_));refine blk_put (cs:=#[.int .i64 t240,.slice Ao25 t241.length co25,.slice none 0 0,.slice none 0 0]) ?_ 2 _ rfl;(with_reducible repeat (first|apply kn_|apply kd_|apply ka_));refine blk_put (cs:=#[.int .i64 t240,.slice none 0 0,.slice none 0 0,.slice none 0 0]) ?_ 1 _ rfl;(with_reducible repeat (first|apply kn_|apply kd_|apply ka_));refine blk_put (cs:=#[.int .i64 0,.slice none 0 0,.slice none 0 0,.slice none 0 0]) ?_ 0 _ rfl;(with_reducible repeat (first|apply kn_|apply kd_|apply ka_));exact BK251.out) hb);have n11_:=mk_ (st_ (qd_ HB GE228 GE251) hb);clear HO233 HO236 HO239 HO243 HO246 HO249 BK228 BK251 HB;have HO233:=n0_;have HO236:=n1_;have HO239:=n2_;have HO243:=n3_;have HO246:=n4_;have HO249:=n5_;have HO255:=n6_;have HO258:=n7_;have HO261:=n8_;have BK228:=n9_;have BK251:=n10_;have HB:=n11_;clear n0_ n1_ n2_ n3_ n4_ n5_ n6_ n7_ n8_ n9_ n10_ n11_;(try clear hb);(try clear hb2);(try clear hk);(try clear hi);(try clear ho0);(try clear ho1);(try clear ho2))|((with_reducible refine gate_dst (N:=8) rfl ?_);refine box_event ?hg (N:=8) ?hd (cs:=#[.int .i64 0,.slice none 0 0,.slice none 0 0,.slice none 0 0]) (t:=30) ?hr ?_;(case hd => rfl);(case hg => rfl);(case hr => first|(go_simp;done)|(go_simp;rfl));intro gb262 hg w30 hbox hb;have n0_:=mk_ (rb_ (qr_ HO233) hb);have n1_:=mk_ (rb_ (qr_ HO236) hb);have n2_:=mk_ (rb_ (qr_ HO239) hb);have n3_:=mk_ (rb_ (qr_ HO243) hb);have n4_:=mk_ (rb_ (qr_ HO246) hb);have n5_:=mk_ (rb_ (qr_ HO249) hb);have n6_:=mk_ (rb_ (qr_ HO255) hb);have n7_:=mk_ (rb_ (qr_ HO258) hb);have n8_:=mk_ (rb_ (qr_ HO261) hb);have n9_:=mk_ (blk_below (g:=gb228) (o:=.cells #[.int .i64 a0_0,.slice A0_1 l0_1.length c0_1,.slice A0_2 l0_2.length c0_2,.slice A0_3 l0_3.length c0_3] 25 (0,0)) (qk_ BK228) hb);have n10_:=mk_ (blk_below (g:=gb251) (o:=.cells #[.int .i64 t240,.slice Ao25 t241.length co25,.slice Ao26 t244.length co26,.slice Ao27 t247.length co27] 30 (0,0)) (qk_ BK251) hb);have n11_:=mk_ (st_ (qd_ HB GE228 GE251) hb);have n12_:=mk_ (hbox);have n13_:=mk_ ((by rw [hg];exact (bz_ (qd_ HB GE228 GE251)) : w.heap.size ≤ gb262));have n14_:=mk_ ((by rw [hg];exact (bz_ (qd_ HB GE228 GE251)) : w.heap.size ≤ gb262));have n15_:=mk_ ((by rw [hg];exact Nat.ne_of_lt (blk_lt (g:=gb228) (o:=.cells #[.int .i64 a0_0,.slice A0_1 l0_1.length c0_1,.slice A0_2 l0_2.length c0_2,.slice A0_3 l0_3.length c0_3] 25 (0,0)) (qk_ BK228)) : gb228 ≠ gb262));have n16_:=mk_ ((by rw [hg];exact Nat.ne_of_gt (blk_lt (g:=gb228) (o:=.cells #[.int .i64 a0_0,.slice A0_1 l0_1.length c0_1,.slice A0_2 l0_2.length c0_2,.slice A0_3 l0_3.length c0_3] 25 (0,0)) (qk_ BK228)) : gb262 ≠ gb228));have n17_:=mk_ ((by rw [hg];exact Nat.ne_of_lt (blk_lt (g:=gb251) (o:=.cells #[.int .i64 t240,.slice Ao25 t241.length co25,.slice Ao26 t244.length co26,.slice Ao27 t247.length co27] 30 (0,0)) (qk_ BK251)) : gb251 ≠ gb262));have n18_:=mk_ ((by rw [hg];exact Nat.ne_of_gt (blk_lt (g:=gb251) (o:=.cells #[.int .i64 t240,.slice Ao25 t241.length co25,.slice Ao26 t244.length co26,.slice Ao27 t247.length co27] 30 (0,0)) (qk_ BK251)) : gb262 ≠ gb251));clear HO233 HO236 HO239 HO243 HO246 HO249 HO255 HO258 HO261 BK228 BK251 HB;have HO233:=n0_;have HO236:=n1_;have HO239:=n2_;have HO243:=n3_;have HO246:=n4_;have HO249:=n5_;have HO255:=n6_;have HO258:=n7_;have HO261:=n8_;have BK228:=n9_;have BK251:=n10_;have HB:=n11_;have BK262:=n12_;have GW262:=n13_;have GE262:=n14_;have NB228_262:=n15_;have NB262_228:=n16_;have NB251_262:=n17_;have NB262_251:=n18_;clear n0_ n1_ n2_ n3_ n4_ n5_ n6_ n7_ n8_ n9_ n10_ n11_ n12_ n13_ n14_ n15_ n16_ n17_ n18_ hb hbox hg;have hnb31:=NB262_228.out;have hnc31:=NB228_262.out;have hnb32:=NB262_251.out;have hnc32:=NB251_262.out;have hcz33_0 : w30.cell? ⟨gb262,0,none⟩ = some (.int .i64 0):=(bc_ BK262.out 0).trans rfl;have hcz33_1 : w30.cell? ⟨gb262,1,none⟩ = some (.slice none 0 0):=(bc_ BK262.out 1).trans rfl;have hcz33_2 : w30.cell? ⟨gb262,2,none⟩ = some (.slice none 0 0):=(bc_ BK262.out 2).trans rfl;have hcz33_3 : w30.cell? ⟨gb262,3,none⟩ = some (.slice none 0 0):=(bc_ BK262.out 3).trans rfl;have hfz33_0:=bf_ BK262.out 0;have hfz33_1:=bf_ BK262.out 1;have hfz33_2:=bf_ BK262.out 2;have hfz33_3:=bf_ BK262.out 3;obtain ⟨Ao34,co34,eo34⟩:=Kd.R_slice HO255.out;subst eo34;obtain ⟨Ao35,co35,eo35⟩:=Kd.R_slice HO258.out;subst eo35;obtain ⟨Ao36,co36,eo36⟩:=Kd.R_slice HO261.out;subst eo36)|((with_reducible refine gate_callee (f:=27) rfl ?_);refine goesL_ (some 33) rfl rfl Try.func27 (by kernel_rfl) rfl #[.agg #[.int .i64 t252,.slice Ao34 t253.length co34,.slice Ao35 t256.length co35,.slice Ao36 t259.length co36],.int .i64 a1] rfl qm_ ?_;(with_reducible refine (impl_CutCable.calls k t252 _ _ t253 _ _ t256 _ _ t259 a1 t263 t264 t267 t270 t273 _ ?side1 ?side2 ?side3 ?side4 ?side5 ?side6 A11.out).mono ?_);(case side1 => refine (rr_ (e:=51) (base:=w.heap.size) (ok:=fun k_ => ((True ∧ some k_ ≠ (.slice Ao18 t231.length co18 : Value).ownBlock) ∧ some k_ ≠ (.slice Ao25 t241.length co25 : Value).ownBlock)) (n:=t253.length) (c:=co34) ?_).2.2;exact (by (with_reducible repeat (first|apply ra_|apply rn_|apply rd_));exact (rm_ (rf_ (p:=⟨gb262,3,none⟩) (rf_ (p:=⟨gb262,2,none⟩) (rf_ (p:=⟨gb262,1,none⟩) (rf_ (p:=⟨gb262,0,none⟩) (rt_ HO255.out BK262.out (by decide)) (λ_ h=>h.2) (.int .i64 t252)) (λ_ h=>h.2) (.slice Ao34 t253.length co34)) (λ_ h=>h.2) (.slice Ao35 t256.length co35)) (λ_ h=>h.2) (.slice Ao36 t259.length co36)) (λ_ h=>h.1))));(case side2 => exact (rr_ HO255.out).2.1);(case side3 => refine (rr_ (e:=3) (base:=w.heap.size) (ok:=fun k_ => ((((some k_ ≠ (.slice Ao36 t259.length co36 : Value).ownBlock ∧ some k_ ≠ (.slice Ao19 t234.length co19 : Value).ownBlock) ∧ some k_ ≠ (.slice Ao20 t237.length co20 : Value).ownBlock) ∧ some k_ ≠ (.slice Ao26 t244.length co26 : Value).ownBlock) ∧ some k_ ≠ (.slice Ao27 t247.length co27 : Value).ownBlock)) (n:=t256.length) (c:=co35) ?_).2.2;exact (by (with_reducible repeat (first|apply ra_|apply rn_|apply rd_));exact (rm_ (rf_ (p:=⟨gb262,3,none⟩) (rf_ (p:=⟨gb262,2,none⟩) (rf_ (p:=⟨gb262,1,none⟩) (rf_ (p:=⟨gb262,0,none⟩) (rt_ HO258.out BK262.out (by decide)) (λ_ h=>h.2) (.int .i64 t252)) (λ_ h=>h.2) (.slice Ao34 t253.length co34)) (λ_ h=>h.2) (.slice Ao35 t256.length co35)) (λ_ h=>h.2) (.slice Ao36 t259.length co36)) (λ_ h=>h.1))));(case side4 => exact (rr_ HO258.out).2.1);(case side5 => refine (rr_ (e:=3) (base:=w.heap.size) (ok:=fun k_ => ((((some k_ ≠ (.slice Ao35 t256.length co35 : Value).ownBlock ∧ some k_ ≠ (.slice Ao19 t234.length co19 : Value).ownBlock) ∧ some k_ ≠ (.slice Ao20 t237.length co20 : Value).ownBlock) ∧ some k_ ≠ (.slice Ao26 t244.length co26 : Value).ownBlock) ∧ some k_ ≠ (.slice Ao27 t247.length co27 : Value).ownBlock)) (n:=t259.length) (c:=co36) ?_).2.2;exact (by (with_reducible repeat (first|apply ra_|apply rn_|apply rd_));exact (rm_ (rf_ (p:=⟨gb262,3,none⟩) (rf_ (p:=⟨gb262,2,none⟩) (rf_ (p:=⟨gb262,1,none⟩) (rf_ (p:=⟨gb262,0,none⟩) (rt_ HO261.out BK262.out (by decide)) (λ_ h=>h.2) (.int .i64 t252)) (λ_ h=>h.2) (.slice Ao34 t253.length co34)) (λ_ h=>h.2) (.slice Ao35 t256.length co35)) (λ_ h=>h.2) (.slice Ao36 t259.length co36)) (λ_ h=>h.1))));(case side6 => exact (rr_ HO261.out).2.1);rintro e w37 ⟨v265,v268,v271,rfl,ho0,ho1,ho2,hb⟩;refine ⟨_,rfl,?_⟩;have n0_:=mk_ (re_ (by (with_reducible repeat (first|apply ra_|apply rn_|apply rd_));exact (rm_ (rf_ (p:=⟨gb262,3,none⟩) (rf_ (p:=⟨gb262,2,none⟩) (rf_ (p:=⟨gb262,1,none⟩) (rf_ (p:=⟨gb262,0,none⟩) (rt_ HO233.out BK262.out (by decide)) (λ_ h=>h.2) (.int .i64 t252)) (λ_ h=>h.2) (.slice Ao34 t253.length co34)) (λ_ h=>h.2) (.slice Ao35 t256.length co35)) (λ_ h=>h.2) (.slice Ao36 t259.length co36)) (λ_ h=>h.1))) (Kd.R_base ho0) hb);have n1_:=mk_ (rm_ (Kd.R_told (Kd.R_told (Kd.R_old (by (with_reducible repeat (first|apply ra_|apply rn_|apply rd_));exact (rm_ (rf_ (p:=⟨gb262,3,none⟩) (rf_ (p:=⟨gb262,2,none⟩) (rf_ (p:=⟨gb262,1,none⟩) (rf_ (p:=⟨gb262,0,none⟩) (rt_ HO236.out BK262.out (by decide)) (λ_ h=>h.2) (.int .i64 t252)) (λ_ h=>h.2) (.slice Ao34 t253.length co34)) (λ_ h=>h.2) (.slice Ao35 t256.length co35)) (λ_ h=>h.2) (.slice Ao36 t259.length co36)) (λ_ h=>h.1))) hb) (Kd.R_base ho1)) (Kd.R_base ho2)) (λ_ h=>h.1));have n2_:=mk_ (rm_ (Kd.R_told (Kd.R_told (Kd.R_old (by (with_reducible repeat (first|apply ra_|apply rn_|apply rd_));exact (rm_ (rf_ (p:=⟨gb262,3,none⟩) (rf_ (p:=⟨gb262,2,none⟩) (rf_ (p:=⟨gb262,1,none⟩) (rf_ (p:=⟨gb262,0,none⟩) (rt_ HO239.out BK262.out (by decide)) (λ_ h=>h.2) (.int .i64 t252)) (λ_ h=>h.2) (.slice Ao34 t253.length co34)) (λ_ h=>h.2) (.slice Ao35 t256.length co35)) (λ_ h=>h.2) (.slice Ao36 t259.length co36)) (λ_ h=>h.1))) hb) (Kd.R_base ho1)) (Kd.R_base ho2)) (λ_ h=>h.1));have n3_:=mk_ (re_ (by (with_reducible repeat (first|apply ra_|apply rn_|apply rd_));exact (rm_ (rf_ (p:=⟨gb262,3,none⟩) (rf_ (p:=⟨gb262,2,none⟩) (rf_ (p:=⟨gb262,1,none⟩) (rf_ (p:=⟨gb262,0,none⟩) (rt_ HO243.out BK262.out (by decide)) (λ_ h=>h.2) (.int .i64 t252)) (λ_ h=>h.2) (.slice Ao34 t253.length co34)) (λ_ h=>h.2) (.slice Ao35 t256.length co35)) (λ_ h=>h.2) (.slice Ao36 t259.length co36)) (λ_ h=>h.1))) (Kd.R_base ho0) hb);have n4_:=mk_ (rm_ (Kd.R_told (Kd.R_told (Kd.R_old (by (with_reducible repeat (first|apply ra_|apply rn_|apply rd_));exact (rm_ (rf_ (p:=⟨gb262,3,none⟩) (rf_ (p:=⟨gb262,2,none⟩) (rf_ (p:=⟨gb262,1,none⟩) (rf_ (p:=⟨gb262,0,none⟩) (rt_ HO246.out BK262.out (by decide)) (λ_ h=>h.2) (.int .i64 t252)) (λ_ h=>h.2) (.slice Ao34 t253.length co34)) (λ_ h=>h.2) (.slice Ao35 t256.length co35)) (λ_ h=>h.2) (.slice Ao36 t259.length co36)) (λ_ h=>h.1))) hb) (Kd.R_base ho1)) (Kd.R_base ho2)) (λ_ h=>h.1));have n5_:=mk_ (rm_ (Kd.R_told (Kd.R_told (Kd.R_old (by (with_reducible repeat (first|apply ra_|apply rn_|apply rd_));exact (rm_ (rf_ (p:=⟨gb262,3,none⟩) (rf_ (p:=⟨gb262,2,none⟩) (rf_ (p:=⟨gb262,1,none⟩) (rf_ (p:=⟨gb262,0,none⟩) (rt_ HO249.out BK262.out (by decide)) (λ_ h=>h.2) (.int .i64 t252)) (λ_ h=>h.2) (.slice Ao34 t253.length co34)) (λ_ h=>h.2) (.slice Ao35 t256.length co35)) (λ_ h=>h.2) (.slice Ao36 t259.length co36)) (λ_ h=>h.1))) hb) (Kd.R_base ho1)) (Kd.R_base ho2)) (λ_ h=>h.1));have n6_:=mk_ (re_ (by (with_reducible repeat (first|apply ra_|apply rn_|apply rd_));exact (rm_ (rf_ (p:=⟨gb262,3,none⟩) (rf_ (p:=⟨gb262,2,none⟩) (rf_ (p:=⟨gb262,1,none⟩) (rf_ (p:=⟨gb262,0,none⟩) (rt_ HO255.out BK262.out (by decide)) (λ_ h=>h.2) (.int .i64 t252)) (λ_ h=>h.2) (.slice Ao34 t253.length co34)) (λ_ h=>h.2) (.slice Ao35 t256.length co35)) (λ_ h=>h.2) (.slice Ao36 t259.length co36)) (λ_ h=>h.1))) (Kd.R_base ho0) hb);have n7_:=mk_ (rm_ (Kd.R_told (Kd.R_told (Kd.R_old (by (with_reducible repeat (first|apply ra_|apply rn_|apply rd_));exact (rm_ (rf_ (p:=⟨gb262,3,none⟩) (rf_ (p:=⟨gb262,2,none⟩) (rf_ (p:=⟨gb262,1,none⟩) (rf_ (p:=⟨gb262,0,none⟩) (rt_ HO258.out BK262.out (by decide)) (λ_ h=>h.2) (.int .i64 t252)) (λ_ h=>h.2) (.slice Ao34 t253.length co34)) (λ_ h=>h.2) (.slice Ao35 t256.length co35)) (λ_ h=>h.2) (.slice Ao36 t259.length co36)) (λ_ h=>h.1))) hb) (Kd.R_base ho1)) (Kd.R_base ho2)) (λ_ h=>h.1));have n8_:=mk_ (rm_ (Kd.R_told (Kd.R_told (Kd.R_old (by (with_reducible repeat (first|apply ra_|apply rn_|apply rd_));exact (rm_ (rf_ (p:=⟨gb262,3,none⟩) (rf_ (p:=⟨gb262,2,none⟩) (rf_ (p:=⟨gb262,1,none⟩) (rf_ (p:=⟨gb262,0,none⟩) (rt_ HO261.out BK262.out (by decide)) (λ_ h=>h.2) (.int .i64 t252)) (λ_ h=>h.2) (.slice Ao34 t253.length co34)) (λ_ h=>h.2) (.slice Ao35 t256.length co35)) (λ_ h=>h.2) (.slice Ao36 t259.length co36)) (λ_ h=>h.1))) hb) (Kd.R_base ho1)) (Kd.R_base ho2)) (λ_ h=>h.1));have n9_:=mk_ (Kd.R_lower (Kd.R_new' (Kd.R_new' (Kd.R_new' ho0 (Kd.R_lt (by (with_reducible repeat (first|apply ra_|apply rn_|apply rd_));exact (rm_ (rf_ (p:=⟨gb262,3,none⟩) (rf_ (p:=⟨gb262,2,none⟩) (rf_ (p:=⟨gb262,1,none⟩) (rf_ (p:=⟨gb262,0,none⟩) (rt_ HO233.out BK262.out (by decide)) (λ_ h=>h.2) (.int .i64 t252)) (λ_ h=>h.2) (.slice Ao34 t253.length co34)) (λ_ h=>h.2) (.slice Ao35 t256.length co35)) (λ_ h=>h.2) (.slice Ao36 t259.length co36)) (λ_ h=>h.1))))) (Kd.R_lt (by (with_reducible repeat (first|apply ra_|apply rn_|apply rd_));exact (rm_ (rf_ (p:=⟨gb262,3,none⟩) (rf_ (p:=⟨gb262,2,none⟩) (rf_ (p:=⟨gb262,1,none⟩) (rf_ (p:=⟨gb262,0,none⟩) (rt_ HO243.out BK262.out (by decide)) (λ_ h=>h.2) (.int .i64 t252)) (λ_ h=>h.2) (.slice Ao34 t253.length co34)) (λ_ h=>h.2) (.slice Ao35 t256.length co35)) (λ_ h=>h.2) (.slice Ao36 t259.length co36)) (λ_ h=>h.1))))) (Kd.R_lt (by (with_reducible repeat (first|apply ra_|apply rn_|apply rd_));exact (rm_ (rf_ (p:=⟨gb262,3,none⟩) (rf_ (p:=⟨gb262,2,none⟩) (rf_ (p:=⟨gb262,1,none⟩) (rf_ (p:=⟨gb262,0,none⟩) (rt_ HO255.out BK262.out (by decide)) (λ_ h=>h.2) (.int .i64 t252)) (λ_ h=>h.2) (.slice Ao34 t253.length co34)) (λ_ h=>h.2) (.slice Ao35 t256.length co35)) (λ_ h=>h.2) (.slice Ao36 t259.length co36)) (λ_ h=>h.1))))) (bz_ (u1_ HB GE228 GE251 GE262)));have n10_:=mk_ (Kd.R_lower (Kd.R_new' (Kd.R_new' (Kd.R_new' (Kd.R_new' (Kd.R_new' (Kd.R_new' ho1 (Kd.R_lt (by (with_reducible repeat (first|apply ra_|apply rn_|apply rd_));exact (rm_ (rf_ (p:=⟨gb262,3,none⟩) (rf_ (p:=⟨gb262,2,none⟩) (rf_ (p:=⟨gb262,1,none⟩) (rf_ (p:=⟨gb262,0,none⟩) (rt_ HO236.out BK262.out (by decide)) (λ_ h=>h.2) (.int .i64 t252)) (λ_ h=>h.2) (.slice Ao34 t253.length co34)) (λ_ h=>h.2) (.slice Ao35 t256.length co35)) (λ_ h=>h.2) (.slice Ao36 t259.length co36)) (λ_ h=>h.1))))) (Kd.R_lt (by (with_reducible repeat (first|apply ra_|apply rn_|apply rd_));exact (rm_ (rf_ (p:=⟨gb262,3,none⟩) (rf_ (p:=⟨gb262,2,none⟩) (rf_ (p:=⟨gb262,1,none⟩) (rf_ (p:=⟨gb262,0,none⟩) (rt_ HO239.out BK262.out (by decide)) (λ_ h=>h.2) (.int .i64 t252)) (λ_ h=>h.2) (.slice Ao34 t253.length co34)) (λ_ h=>h.2) (.slice Ao35 t256.length co35)) (λ_ h=>h.2) (.slice Ao36 t259.length co36)) (λ_ h=>h.1))))) (Kd.R_lt (by (with_reducible repeat (first|apply ra_|apply rn_|apply rd_));exact (rm_ (rf_ (p:=⟨gb262,3,none⟩) (rf_ (p:=⟨gb262,2,none⟩) (rf_ (p:=⟨gb262,1,none⟩) (rf_ (p:=⟨gb262,0,none⟩) (rt_ HO246.out BK262.out (by decide)) (λ_ h=>h.2) (.int .i64 t252)) (λ_ h=>h.2) (.slice Ao34 t253.length co34)) (λ_ h=>h.2) (.slice Ao35 t256.length co35)) (λ_ h=>h.2) (.slice Ao36 t259.length co36)) (λ_ h=>h.1))))) (Kd.R_lt (by (with_reducible repeat (first|apply ra_|apply rn_|apply rd_));exact (rm_ (rf_ (p:=⟨gb262,3,none⟩) (rf_ (p:=⟨gb262,2,none⟩) (rf_ (p:=⟨gb262,1,none⟩) (rf_ (p:=⟨gb262,0,none⟩) (rt_ HO249.out BK262.out (by decide)) (λ_ h=>h.2) (.int .i64 t252)) (λ_ h=>h.2) (.slice Ao34 t253.length co34)) (λ_ h=>h.2) (.slice Ao35 t256.length co35)) (λ_ h=>h.2) (.slice Ao36 t259.length co36)) (λ_ h=>h.1))))) (Kd.R_lt (by (with_reducible repeat (first|apply ra_|apply rn_|apply rd_));exact (rm_ (rf_ (p:=⟨gb262,3,none⟩) (rf_ (p:=⟨gb262,2,none⟩) (rf_ (p:=⟨gb262,1,none⟩) (rf_ (p:=⟨gb262,0,none⟩) (rt_ HO258.out BK262.out (by decide)) (λ_ h=>h.2) (.int .i64 t252)) (λ_ h=>h.2) (.slice Ao34 t253.length co34)) (λ_ h=>h.2) (.slice Ao35 t256.length co35)) (λ_ h=>h.2) (.slice Ao36 t259.length co36)) (λ_ h=>h.1))))) (Kd.R_lt (by (with_reducible repeat (first|apply ra_|apply rn_|apply rd_));exact (rm_ (rf_ (p:=⟨gb262,3,none⟩) (rf_ (p:=⟨gb262,2,none⟩) (rf_ (p:=⟨gb262,1,none⟩) (rf_ (p:=⟨gb262,0,none⟩) (rt_ HO261.out BK262.out (by decide)) (λ_ h=>h.2) (.int .i64 t252)) (λ_ h=>h.2) (.slice Ao34 t253.length co34)) (λ_ h=>h.2) (.slice Ao35 t256.length co35)) (λ_ h=>h.2) (.slice Ao36 t259.length co36)) (λ_ h=>h.1))))) (bz_ (u1_ HB GE228 GE251 GE262)));have n11_:=mk_ (Kd.R_lower (Kd.R_new' (Kd.R_new' (Kd.R_new' (Kd.R_new' (Kd.R_new' (Kd.R_new' ho2 (Kd.R_lt (by (with_reducible repeat (first|apply ra_|apply rn_|apply rd_));exact (rm_ (rf_ (p:=⟨gb262,3,none⟩) (rf_ (p:=⟨gb262,2,none⟩) (rf_ (p:=⟨gb262,1,none⟩) (rf_ (p:=⟨gb262,0,none⟩) (rt_ HO236.out BK262.out (by decide)) (λ_ h=>h.2) (.int .i64 t252)) (λ_ h=>h.2) (.slice Ao34 t253.length co34)) (λ_ h=>h.2) (.slice Ao35 t256.length co35)) (λ_ h=>h.2) (.slice Ao36 t259.length co36)) (λ_ h=>h.1))))) (Kd.R_lt (by (with_reducible repeat (first|apply ra_|apply rn_|apply rd_));exact (rm_ (rf_ (p:=⟨gb262,3,none⟩) (rf_ (p:=⟨gb262,2,none⟩) (rf_ (p:=⟨gb262,1,none⟩) (rf_ (p:=⟨gb262,0,none⟩) (rt_ HO239.out BK262.out (by decide)) (λ_ h=>h.2) (.int .i64 t252)) (λ_ h=>h.2) (.slice Ao34 t253.length co34)) (λ_ h=>h.2) (.slice Ao35 t256.length co35)) (λ_ h=>h.2) (.slice Ao36 t259.length co36)) (λ_ h=>h.1))))) (Kd.R_lt (by (with_reducible repeat (first|apply ra_|apply rn_|apply rd_));exact (rm_ (rf_ (p:=⟨gb262,3,none⟩) (rf_ (p:=⟨gb262,2,none⟩) (rf_ (p:=⟨gb262,1,none⟩) (rf_ (p:=⟨gb262,0,none⟩) (rt_ HO246.out BK262.out (by decide)) (λ_ h=>h.2) (.int .i64 t252)) (λ_ h=>h.2) (.slice Ao34 t253.length co34)) (λ_ h=>h.2) (.slice Ao35 t256.length co35)) (λ_ h=>h.2) (.slice Ao36 t259.length co36)) (λ_ h=>h.1))))) (Kd.R_lt (by (with_reducible repeat (first|apply ra_|apply rn_|apply rd_));exact (rm_ (rf_ (p:=⟨gb262,3,none⟩) (rf_ (p:=⟨gb262,2,none⟩) (rf_ (p:=⟨gb262,1,none⟩) (rf_ (p:=⟨gb262,0,none⟩) (rt_ HO249.out BK262.out (by decide)) (λ_ h=>h.2) (.int .i64 t252)) (λ_ h=>h.2) (.slice Ao34 t253.length co34)) (λ_ h=>h.2) (.slice Ao35 t256.length co35)) (λ_ h=>h.2) (.slice Ao36 t259.length co36)) (λ_ h=>h.1))))) (Kd.R_lt (by (with_reducible repeat (first|apply ra_|apply rn_|apply rd_));exact (rm_ (rf_ (p:=⟨gb262,3,none⟩) (rf_ (p:=⟨gb262,2,none⟩) (rf_ (p:=⟨gb262,1,none⟩) (rf_ (p:=⟨gb262,0,none⟩) (rt_ HO258.out BK262.out (by decide)) (λ_ h=>h.2) (.int .i64 t252)) (λ_ h=>h.2) (.slice Ao34 t253.length co34)) (λ_ h=>h.2) (.slice Ao35 t256.length co35)) (λ_ h=>h.2) (.slice Ao36 t259.length co36)) (λ_ h=>h.1))))) (Kd.R_lt (by (with_reducible repeat (first|apply ra_|apply rn_|apply rd_));exact (rm_ (rf_ (p:=⟨gb262,3,none⟩) (rf_ (p:=⟨gb262,2,none⟩) (rf_ (p:=⟨gb262,1,none⟩) (rf_ (p:=⟨gb262,0,none⟩) (rt_ HO261.out BK262.out (by decide)) (λ_ h=>h.2) (.int .i64 t252)) (λ_ h=>h.2) (.slice Ao34 t253.length co34)) (λ_ h=>h.2) (.slice Ao35 t256.length co35)) (λ_ h=>h.2) (.slice Ao36 t259.length co36)) (λ_ h=>h.1))))) (bz_ (u1_ HB GE228 GE251 GE262)));have n12_:=mk_ (blk_below (g:=gb228) (o:=.cells #[.int .i64 a0_0,.slice A0_1 l0_1.length c0_1,.slice A0_2 l0_2.length c0_2,.slice A0_3 l0_3.length c0_3] 25 (0,0)) (by (with_reducible repeat (first|apply kn_|apply kd_|apply ka_));refine blk_far ?_ NB228_262.out _;(with_reducible repeat (first|apply kn_|apply kd_|apply ka_));refine blk_far ?_ NB228_262.out _;(with_reducible repeat (first|apply kn_|apply kd_|apply ka_));refine blk_far ?_ NB228_262.out _;(with_reducible repeat (first|apply kn_|apply kd_|apply ka_));refine blk_far ?_ NB228_262.out _;(with_reducible repeat (first|apply kn_|apply kd_|apply ka_));exact BK228.out) hb);have n13_:=mk_ (blk_below (g:=gb251) (o:=.cells #[.int .i64 t240,.slice Ao25 t241.length co25,.slice Ao26 t244.length co26,.slice Ao27 t247.length co27] 30 (0,0)) (by (with_reducible repeat (first|apply kn_|apply kd_|apply ka_));refine blk_far ?_ NB251_262.out _;(with_reducible repeat (first|apply kn_|apply kd_|apply ka_));refine blk_far ?_ NB251_262.out _;(with_reducible repeat (first|apply kn_|apply kd_|apply ka_));refine blk_far ?_ NB251_262.out _;(with_reducible repeat (first|apply kn_|apply kd_|apply ka_));refine blk_far ?_ NB251_262.out _;(with_reducible repeat (first|apply kn_|apply kd_|apply ka_));exact BK251.out) hb);have n14_:=mk_ (blk_below (g:=gb262) (o:=.cells #[.int .i64 t252,.slice Ao34 t253.length co34,.slice Ao35 t256.length co35,.slice Ao36 t259.length co36] 30 (0,0)) (by (with_reducible repeat (first|apply kn_|apply kd_|apply ka_));refine blk_put (cs:=#[.int .i64 t252,.slice Ao34 t253.length co34,.slice Ao35 t256.length co35,.slice none 0 0]) ?_ 3 _ rfl;(with_reducible repeat (first|apply kn_|apply kd_|apply ka_));refine blk_put (cs:=#[.int .i64 t252,.slice Ao34 t253.length co34,.slice none 0 0,.slice none 0 0]) ?_ 2 _ rfl;(with_reducible repeat (first|apply kn_|apply kd_|apply ka_));refine blk_put (cs:=#[.int .i64 t252,.slice none 0 0,.slice none 0 0,.slice none 0 0]) ?_ 1 _ rfl;(with_reducible repeat (first|apply kn_|apply kd_|apply ka_));refine blk_put (cs:=#[.int .i64 0,.slice none 0 0,.slice none 0 0,.slice none 0 0]) ?_ 0 _ rfl;(with_reducible repeat (first|apply kn_|apply kd_|apply ka_));exact BK262.out) hb);have n15_:=mk_ (st_ (u1_ HB GE228 GE251 GE262) hb);clear HO233 HO236 HO239 HO243 HO246 HO249 HO255 HO258 HO261 BK228 BK251 BK262 HB;have HO233:=n0_;have HO236:=n1_;have HO239:=n2_;have HO243:=n3_;have HO246:=n4_;have HO249:=n5_;have HO255:=n6_;have HO258:=n7_;have HO261:=n8_;have HO266:=n9_;have HO269:=n10_;have HO272:=n11_;have BK228:=n12_;have BK251:=n13_;have BK262:=n14_;have HB:=n15_;clear n0_ n1_ n2_ n3_ n4_ n5_ n6_ n7_ n8_ n9_ n10_ n11_ n12_ n13_ n14_ n15_;(try clear hb);(try clear hb2);(try clear hk);(try clear hi);(try clear ho0);(try clear ho1);(try clear ho2))|((with_reducible refine gate_dst (N:=9) rfl ?_);refine box_event ?hg (N:=9) ?hd (cs:=#[.int .i64 0,.slice none 0 0,.slice none 0 0,.slice none 0 0]) (t:=30) ?hr ?_;(case hd => rfl);(case hg => rfl);(case hr => first|(go_simp;done)|(go_simp;rfl));intro gb274 hg w38 hbox hb;have n0_:=mk_ (rb_ (qr_ HO233) hb);have n1_:=mk_ (rb_ (qr_ HO236) hb);have n2_:=mk_ (rb_ (qr_ HO239) hb);have n3_:=mk_ (rb_ (qr_ HO243) hb);have n4_:=mk_ (rb_ (qr_ HO246) hb);have n5_:=mk_ (rb_ (qr_ HO249) hb);have n6_:=mk_ (rb_ (qr_ HO255) hb);have n7_:=mk_ (rb_ (qr_ HO258) hb);have n8_:=mk_ (rb_ (qr_ HO261) hb);have n9_:=mk_ (rb_ (qr_ HO266) hb);have n10_:=mk_ (rb_ (qr_ HO269) hb);have n11_:=mk_ (rb_ (qr_ HO272) hb);have n12_:=mk_ (blk_below (g:=gb228) (o:=.cells #[.int .i64 a0_0,.slice A0_1 l0_1.length c0_1,.slice A0_2 l0_2.length c0_2,.slice A0_3 l0_3.length c0_3] 25 (0,0)) (qk_ BK228) hb);have n13_:=mk_ (blk_below (g:=gb251) (o:=.cells #[.int .i64 t240,.slice Ao25 t241.length co25,.slice Ao26 t244.length co26,.slice Ao27 t247.length co27] 30 (0,0)) (qk_ BK251) hb);have n14_:=mk_ (blk_below (g:=gb262) (o:=.cells #[.int .i64 t252,.slice Ao34 t253.length co34,.slice Ao35 t256.length co35,.slice Ao36 t259.length co36] 30 (0,0)) (qk_ BK262) hb);have n15_:=mk_ (st_ (u1_ HB GE228 GE251 GE262) hb);have n16_:=mk_ (hbox);have n17_:=mk_ ((by rw [hg];exact (bz_ (u1_ HB GE228 GE251 GE262)) : w.heap.size ≤ gb274));have n18_:=mk_ ((by rw [hg];exact (bz_ (u1_ HB GE228 GE251 GE262)) : w.heap.size ≤ gb274));have n19_:=mk_ ((by rw [hg];exact Nat.ne_of_lt (blk_lt (g:=gb228) (o:=.cells #[.int .i64 a0_0,.slice A0_1 l0_1.length c0_1,.slice A0_2 l0_2.length c0_2,.slice A0_3 l0_3.length c0_3] 25 (0,0)) (qk_ BK228)) : gb228 ≠ gb274));have n20_:=mk_ ((by rw [hg];exact Nat.ne_of_gt (blk_lt (g:=gb228) (o:=.cells #[.int .i64 a0_0,.slice A0_1 l0_1.length c0_1,.slice A0_2 l0_2.length c0_2,.slice A0_3 l0_3.length c0_3] 25 (0,0)) (qk_ BK228)) : gb274 ≠ gb228));have n21_:=mk_ ((by rw [hg];exact Nat.ne_of_lt (blk_lt (g:=gb251) (o:=.cells #[.int .i64 t240,.slice Ao25 t241.length co25,.slice Ao26 t244.length co26,.slice Ao27 t247.length co27] 30 (0,0)) (qk_ BK251)) : gb251 ≠ gb274));have n22_:=mk_ ((by rw [hg];exact Nat.ne_of_gt (blk_lt (g:=gb251) (o:=.cells #[.int .i64 t240,.slice Ao25 t241.length co25,.slice Ao26 t244.length co26,.slice Ao27 t247.length co27] 30 (0,0)) (qk_ BK251)) : gb274 ≠ gb251));have n23_:=mk_ ((by rw [hg];exact Nat.ne_of_lt (blk_lt (g:=gb262) (o:=.cells #[.int .i64 t252,.slice Ao34 t253.length co34,.slice Ao35 t256.length co35,.slice Ao36 t259.length co36] 30 (0,0)) (qk_ BK262)) : gb262 ≠ gb274));have n24_:=mk_ ((by rw [hg];exact Nat.ne_of_gt (blk_lt (g:=gb262) (o:=.cells #[.int .i64 t252,.slice Ao34 t253.length co34,.slice Ao35 t256.length co35,.slice Ao36 t259.length co36] 30 (0,0)) (qk_ BK262)) : gb274 ≠ gb262));clear HO233 HO236 HO239 HO243 HO246 HO249 HO255 HO258 HO261 HO266 HO269 HO272 BK228 BK251 BK262 HB;have HO233:=n0_;have HO236:=n1_;have HO239:=n2_;have HO243:=n3_;have HO246:=n4_;have HO249:=n5_;have HO255:=n6_;have HO258:=n7_;have HO261:=n8_;have HO266:=n9_;have HO269:=n10_;have HO272:=n11_;have BK228:=n12_;have BK251:=n13_;have BK262:=n14_;have HB:=n15_;have BK274:=n16_;have GW274:=n17_;have GE274:=n18_;have NB228_274:=n19_;have NB274_228:=n20_;have NB251_274:=n21_;have NB274_251:=n22_;have NB262_274:=n23_;have NB274_262:=n24_;clear n0_ n1_ n2_ n3_ n4_ n5_ n6_ n7_ n8_ n9_ n10_ n11_ n12_ n13_ n14_ n15_ n16_ n17_ n18_ n19_ n20_ n21_ n22_ n23_ n24_ hb hbox hg;have hnb39:=NB274_228.out;have hnc39:=NB228_274.out;have hnb40:=NB274_251.out;have hnc40:=NB251_274.out;have hnb41:=NB274_262.out;have hnc41:=NB262_274.out;have hcz42_0 : w38.cell? ⟨gb274,0,none⟩ = some (.int .i64 0):=(bc_ BK274.out 0).trans rfl;have hcz42_1 : w38.cell? ⟨gb274,1,none⟩ = some (.slice none 0 0):=(bc_ BK274.out 1).trans rfl;have hcz42_2 : w38.cell? ⟨gb274,2,none⟩ = some (.slice none 0 0):=(bc_ BK274.out 2).trans rfl;have hcz42_3 : w38.cell? ⟨gb274,3,none⟩ = some (.slice none 0 0):=(bc_ BK274.out 3).trans rfl;have hfz42_0:=bf_ BK274.out 0;have hfz42_1:=bf_ BK274.out 1;have hfz42_2:=bf_ BK274.out 2;have hfz42_3:=bf_ BK274.out 3;obtain ⟨Ao43,co43,eo43⟩:=Kd.R_slice HO266.out;subst eo43;obtain ⟨Ao44,co44,eo44⟩:=Kd.R_slice HO269.out;subst eo44;obtain ⟨Ao45,co45,eo45⟩:=Kd.R_slice HO272.out;subst eo45))
  (try simp only [Act.put,sx_,sy_,sz_])
  go_cut [44] (fun v44 wc => ∃ (kq : Nat) (x44_11 : Bool),v44 = .bool x44_11 ∧ Aside0 (laws_FnExactCutCable.j0 kq a1 t250 t273 x44_11 a0_0 l0_1 l0_2 l0_3 t240 t241 t244 t247 t252 t253 t256 t259 t263 t264 t267 t270 = some r) ∧ Aside0 (kq ≤ k) ∧ Aside0 (Kd.R k51 51 wc w.heap.size (fun k_ => some k_ ≠ ((.slice Ao34 t253.length co34) : Value).ownBlock ∧ some k_ ≠ ((.slice Ao43 t264.length co43) : Value).ownBlock) (.slice Ao25 t241.length co25) t241) ∧ Aside0 (Kd.R (Kd.int .i64) 3 wc w.heap.size (fun k_ => some k_ ≠ ((.slice Ao27 t247.length co27) : Value).ownBlock ∧ some k_ ≠ ((.slice Ao35 t256.length co35) : Value).ownBlock ∧ some k_ ≠ ((.slice Ao36 t259.length co36) : Value).ownBlock ∧ some k_ ≠ ((.slice Ao44 t267.length co44) : Value).ownBlock ∧ some k_ ≠ ((.slice Ao45 t270.length co45) : Value).ownBlock) (.slice Ao26 t244.length co26) t244) ∧ Aside0 (Kd.R (Kd.int .i64) 3 wc w.heap.size (fun k_ => some k_ ≠ ((.slice Ao26 t244.length co26) : Value).ownBlock ∧ some k_ ≠ ((.slice Ao35 t256.length co35) : Value).ownBlock ∧ some k_ ≠ ((.slice Ao36 t259.length co36) : Value).ownBlock ∧ some k_ ≠ ((.slice Ao44 t267.length co44) : Value).ownBlock ∧ some k_ ≠ ((.slice Ao45 t270.length co45) : Value).ownBlock) (.slice Ao27 t247.length co27) t247) ∧ Aside0 (Kd.R k51 51 wc w.heap.size (fun k_ => some k_ ≠ ((.slice Ao25 t241.length co25) : Value).ownBlock ∧ some k_ ≠ ((.slice Ao43 t264.length co43) : Value).ownBlock) (.slice Ao34 t253.length co34) t253) ∧ Aside0 (Kd.R (Kd.int .i64) 3 wc w.heap.size (fun k_ => some k_ ≠ ((.slice Ao26 t244.length co26) : Value).ownBlock ∧ some k_ ≠ ((.slice Ao27 t247.length co27) : Value).ownBlock ∧ some k_ ≠ ((.slice Ao36 t259.length co36) : Value).ownBlock ∧ some k_ ≠ ((.slice Ao44 t267.length co44) : Value).ownBlock ∧ some k_ ≠ ((.slice Ao45 t270.length co45) : Value).ownBlock) (.slice Ao35 t256.length co35) t256) ∧ Aside0 (Kd.R (Kd.int .i64) 3 wc w.heap.size (fun k_ => some k_ ≠ ((.slice Ao26 t244.length co26) : Value).ownBlock ∧ some k_ ≠ ((.slice Ao27 t247.length co27) : Value).ownBlock ∧ some k_ ≠ ((.slice Ao35 t256.length co35) : Value).ownBlock ∧ some k_ ≠ ((.slice Ao44 t267.length co44) : Value).ownBlock ∧ some k_ ≠ ((.slice Ao45 t270.length co45) : Value).ownBlock) (.slice Ao36 t259.length co36) t259) ∧ Aside0 (Kd.R k51 51 wc w.heap.size (fun k_ => some k_ ≠ ((.slice Ao25 t241.length co25) : Value).ownBlock ∧ some k_ ≠ ((.slice Ao34 t253.length co34) : Value).ownBlock) (.slice Ao43 t264.length co43) t264) ∧ Aside0 (Kd.R (Kd.int .i64) 3 wc w.heap.size (fun k_ => some k_ ≠ ((.slice Ao26 t244.length co26) : Value).ownBlock ∧ some k_ ≠ ((.slice Ao27 t247.length co27) : Value).ownBlock ∧ some k_ ≠ ((.slice Ao35 t256.length co35) : Value).ownBlock ∧ some k_ ≠ ((.slice Ao36 t259.length co36) : Value).ownBlock ∧ some k_ ≠ ((.slice Ao45 t270.length co45) : Value).ownBlock) (.slice Ao44 t267.length co44) t267) ∧ Aside0 (Kd.R (Kd.int .i64) 3 wc w.heap.size (fun k_ => some k_ ≠ ((.slice Ao26 t244.length co26) : Value).ownBlock ∧ some k_ ≠ ((.slice Ao27 t247.length co27) : Value).ownBlock ∧ some k_ ≠ ((.slice Ao35 t256.length co35) : Value).ownBlock ∧ some k_ ≠ ((.slice Ao36 t259.length co36) : Value).ownBlock ∧ some k_ ≠ ((.slice Ao44 t267.length co44) : Value).ownBlock) (.slice Ao45 t270.length co45) t270) ∧ Aside0 (wc.heap[gb228]? = some (.cells #[.int .i64 a0_0,(.slice A0_1 l0_1.length c0_1),(.slice A0_2 l0_2.length c0_2),(.slice A0_3 l0_3.length c0_3)] 25 (0,0))) ∧ Aside0 (wc.heap[gb251]? = some (.cells #[.int .i64 t240,(.slice Ao25 t241.length co25),(.slice Ao26 t244.length co26),(.slice Ao27 t247.length co27)] 30 (0,0))) ∧ Aside0 (wc.heap[gb262]? = some (.cells #[.int .i64 t252,(.slice Ao34 t253.length co34),(.slice Ao35 t256.length co35),(.slice Ao36 t259.length co36)] 30 (0,0))) ∧ Aside0 (wc.heap[gb274]? = some (.cells #[.int .i64 t263,(.slice Ao43 t264.length co43),(.slice Ao44 t267.length co44),(.slice Ao45 t270.length co45)] 30 (0,0))) ∧ Aside0 (Below w.heap.size w wc))
  case first =>
   have H:=HC12.out
   clear HC12
   replace H:=Option.bind_eq_some_iff.mp H
   obtain ⟨t275,A460,H⟩:=H
   replace H : (if t275 = true then (laws_FnExactCutCable.j0 k a1 t250 t273 (t273 != t250) a0_0 l0_1 l0_2 l0_3 t240 t241 t244 t247 t252 t253 t256 t259 t263 t264 t267 t270) else (laws_FnExactCutCable.j0 k a1 t250 t273 true a0_0 l0_1 l0_2 l0_3 t240 t241 t244 t247 t252 t253 t256 t259 t263 t264 t267 t270)) = some r:=H
   have A46:=mk_ A460
   clear A460
   by_cases c47 : t275 = true
   ·subst c47
    have H1 : (laws_FnExactCutCable.j0 k a1 t250 t273 (t273 != t250) a0_0 l0_1 l0_2 l0_3 t240 t241 t244 t247 t252 t253 t256 t259 t263 t264 t267 t270) = some r:=by rw [if_pos rfl] at H;exact H
    clear H
    have H:=H1
    clear H1
    have H':=mk_ H
    clear H
    have hnb48:=NB274_228.out
    have hnc48:=NB228_274.out
    have hnb49:=NB274_251.out
    have hnc49:=NB251_274.out
    have hnb50:=NB274_262.out
    have hnc50:=NB262_274.out
    have hcz51_0 : w38.cell? ⟨gb274,0,none⟩ = some (.int .i64 0):=(bc_ BK274.out 0).trans rfl
    have hcz51_1 : w38.cell? ⟨gb274,1,none⟩ = some (.slice none 0 0):=(bc_ BK274.out 1).trans rfl
    have hcz51_2 : w38.cell? ⟨gb274,2,none⟩ = some (.slice none 0 0):=(bc_ BK274.out 2).trans rfl
    have hcz51_3 : w38.cell? ⟨gb274,3,none⟩ = some (.slice none 0 0):=(bc_ BK274.out 3).trans rfl
    have hfz51_0:=bf_ BK274.out 0
    have hfz51_1:=bf_ BK274.out 1
    have hfz51_2:=bf_ BK274.out 2
    have hfz51_3:=bf_ BK274.out 3
    have hnb52:=NB251_228.out
    have hnc52:=NB228_251.out
    have hnb53:=NB251_262.out
    have hnc53:=NB262_251.out
    have hcz54_0 : w38.cell? ⟨gb251,0,none⟩ = some (.int .i64 t240):=(bc_ BK251.out 0).trans rfl
    have hcz54_1 : w38.cell? ⟨gb251,1,none⟩ = some (.slice Ao25 t241.length co25):=(bc_ BK251.out 1).trans rfl
    have hcz54_2 : w38.cell? ⟨gb251,2,none⟩ = some (.slice Ao26 t244.length co26):=(bc_ BK251.out 2).trans rfl
    have hcz54_3 : w38.cell? ⟨gb251,3,none⟩ = some (.slice Ao27 t247.length co27):=(bc_ BK251.out 3).trans rfl
    have hfz54_0:=bf_ BK251.out 0
    have hfz54_1:=bf_ BK251.out 1
    have hfz54_2:=bf_ BK251.out 2
    have hfz54_3:=bf_ BK251.out 3
    go_wp2_with (first|((with_reducible refine gate_callee (f:=16) rfl ?_);refine goesL_ (some 38) rfl rfl Try.func16 (by kernel_rfl) rfl #[.agg #[.int .i64 t263,.slice Ao43 t264.length co43,.slice Ao44 t267.length co44,.slice Ao45 t270.length co45],.agg #[.int .i64 t240,.slice Ao25 t241.length co25,.slice Ao26 t244.length co26,.slice Ao27 t247.length co27]] rfl qm_ ?_;(with_reducible refine (laws_eqNet.calls k t263 _ _ t264 _ _ t267 _ _ t270 t240 _ _ t241 _ _ t244 _ _ t247 true _ ?side1 ?side2 ?side3 ?side4 ?side5 ?side6 ?side7 ?side8 ?side9 ?side10 ?side11 ?side12 A46.out).mono ?_);(case side1 => refine (rr_ (e:=51) (base:=w.heap.size) (ok:=fun k_ => (((True ∧ some k_ ≠ (.slice Ao18 t231.length co18 : Value).ownBlock) ∧ some k_ ≠ (.slice Ao25 t241.length co25 : Value).ownBlock) ∧ some k_ ≠ (.slice Ao34 t253.length co34 : Value).ownBlock)) (n:=t264.length) (c:=co43) ?_).2.2;exact (by (with_reducible repeat (first|apply ra_|apply rn_|apply rd_));exact (rm_ (rf_ (p:=⟨gb274,3,none⟩) (rf_ (p:=⟨gb274,2,none⟩) (rf_ (p:=⟨gb274,1,none⟩) (rf_ (p:=⟨gb274,0,none⟩) (rt_ HO266.out BK274.out (by decide)) (λ_ h=>h.2) (.int .i64 t263)) (λ_ h=>h.2) (.slice Ao43 t264.length co43)) (λ_ h=>h.2) (.slice Ao44 t267.length co44)) (λ_ h=>h.2) (.slice Ao45 t270.length co45)) (λ_ h=>h.1))));(case side2 => exact (rr_ HO266.out).2.1);(case side3 => refine (rr_ (e:=3) (base:=w.heap.size) (ok:=fun k_ => ((((((some k_ ≠ (.slice Ao45 t270.length co45 : Value).ownBlock ∧ some k_ ≠ (.slice Ao19 t234.length co19 : Value).ownBlock) ∧ some k_ ≠ (.slice Ao20 t237.length co20 : Value).ownBlock) ∧ some k_ ≠ (.slice Ao26 t244.length co26 : Value).ownBlock) ∧ some k_ ≠ (.slice Ao27 t247.length co27 : Value).ownBlock) ∧ some k_ ≠ (.slice Ao35 t256.length co35 : Value).ownBlock) ∧ some k_ ≠ (.slice Ao36 t259.length co36 : Value).ownBlock)) (n:=t267.length) (c:=co44) ?_).2.2;exact (by (with_reducible repeat (first|apply ra_|apply rn_|apply rd_));exact (rm_ (rf_ (p:=⟨gb274,3,none⟩) (rf_ (p:=⟨gb274,2,none⟩) (rf_ (p:=⟨gb274,1,none⟩) (rf_ (p:=⟨gb274,0,none⟩) (rt_ HO269.out BK274.out (by decide)) (λ_ h=>h.2) (.int .i64 t263)) (λ_ h=>h.2) (.slice Ao43 t264.length co43)) (λ_ h=>h.2) (.slice Ao44 t267.length co44)) (λ_ h=>h.2) (.slice Ao45 t270.length co45)) (λ_ h=>h.1))));(case side4 => exact (rr_ HO269.out).2.1);(case side5 => refine (rr_ (e:=3) (base:=w.heap.size) (ok:=fun k_ => ((((((some k_ ≠ (.slice Ao44 t267.length co44 : Value).ownBlock ∧ some k_ ≠ (.slice Ao19 t234.length co19 : Value).ownBlock) ∧ some k_ ≠ (.slice Ao20 t237.length co20 : Value).ownBlock) ∧ some k_ ≠ (.slice Ao26 t244.length co26 : Value).ownBlock) ∧ some k_ ≠ (.slice Ao27 t247.length co27 : Value).ownBlock) ∧ some k_ ≠ (.slice Ao35 t256.length co35 : Value).ownBlock) ∧ some k_ ≠ (.slice Ao36 t259.length co36 : Value).ownBlock)) (n:=t270.length) (c:=co45) ?_).2.2;exact (by (with_reducible repeat (first|apply ra_|apply rn_|apply rd_));exact (rm_ (rf_ (p:=⟨gb274,3,none⟩) (rf_ (p:=⟨gb274,2,none⟩) (rf_ (p:=⟨gb274,1,none⟩) (rf_ (p:=⟨gb274,0,none⟩) (rt_ HO272.out BK274.out (by decide)) (λ_ h=>h.2) (.int .i64 t263)) (λ_ h=>h.2) (.slice Ao43 t264.length co43)) (λ_ h=>h.2) (.slice Ao44 t267.length co44)) (λ_ h=>h.2) (.slice Ao45 t270.length co45)) (λ_ h=>h.1))));(case side6 => exact (rr_ HO272.out).2.1);(case side7 => refine (rr_ (e:=51) (base:=w.heap.size) (ok:=fun k_ => (((True ∧ some k_ ≠ (.slice Ao18 t231.length co18 : Value).ownBlock) ∧ some k_ ≠ (.slice Ao34 t253.length co34 : Value).ownBlock) ∧ some k_ ≠ (.slice Ao43 t264.length co43 : Value).ownBlock)) (n:=t241.length) (c:=co25) ?_).2.2;exact (by (with_reducible repeat (first|apply ra_|apply rn_|apply rd_));exact (rm_ (rf_ (p:=⟨gb274,3,none⟩) (rf_ (p:=⟨gb274,2,none⟩) (rf_ (p:=⟨gb274,1,none⟩) (rf_ (p:=⟨gb274,0,none⟩) (rt_ HO243.out BK274.out (by decide)) (λ_ h=>h.2) (.int .i64 t263)) (λ_ h=>h.2) (.slice Ao43 t264.length co43)) (λ_ h=>h.2) (.slice Ao44 t267.length co44)) (λ_ h=>h.2) (.slice Ao45 t270.length co45)) (λ_ h=>h.1))));(case side8 => exact (rr_ HO243.out).2.1);(case side9 => refine (rr_ (e:=3) (base:=w.heap.size) (ok:=fun k_ => ((((((some k_ ≠ (.slice Ao27 t247.length co27 : Value).ownBlock ∧ some k_ ≠ (.slice Ao19 t234.length co19 : Value).ownBlock) ∧ some k_ ≠ (.slice Ao20 t237.length co20 : Value).ownBlock) ∧ some k_ ≠ (.slice Ao35 t256.length co35 : Value).ownBlock) ∧ some k_ ≠ (.slice Ao36 t259.length co36 : Value).ownBlock) ∧ some k_ ≠ (.slice Ao44 t267.length co44 : Value).ownBlock) ∧ some k_ ≠ (.slice Ao45 t270.length co45 : Value).ownBlock)) (n:=t244.length) (c:=co26) ?_).2.2;exact (by (with_reducible repeat (first|apply ra_|apply rn_|apply rd_));exact (rm_ (rf_ (p:=⟨gb274,3,none⟩) (rf_ (p:=⟨gb274,2,none⟩) (rf_ (p:=⟨gb274,1,none⟩) (rf_ (p:=⟨gb274,0,none⟩) (rt_ HO246.out BK274.out (by decide)) (λ_ h=>h.2) (.int .i64 t263)) (λ_ h=>h.2) (.slice Ao43 t264.length co43)) (λ_ h=>h.2) (.slice Ao44 t267.length co44)) (λ_ h=>h.2) (.slice Ao45 t270.length co45)) (λ_ h=>h.1))));(case side10 => exact (rr_ HO246.out).2.1);(case side11 => refine (rr_ (e:=3) (base:=w.heap.size) (ok:=fun k_ => ((((((some k_ ≠ (.slice Ao26 t244.length co26 : Value).ownBlock ∧ some k_ ≠ (.slice Ao19 t234.length co19 : Value).ownBlock) ∧ some k_ ≠ (.slice Ao20 t237.length co20 : Value).ownBlock) ∧ some k_ ≠ (.slice Ao35 t256.length co35 : Value).ownBlock) ∧ some k_ ≠ (.slice Ao36 t259.length co36 : Value).ownBlock) ∧ some k_ ≠ (.slice Ao44 t267.length co44 : Value).ownBlock) ∧ some k_ ≠ (.slice Ao45 t270.length co45 : Value).ownBlock)) (n:=t247.length) (c:=co27) ?_).2.2;exact (by (with_reducible repeat (first|apply ra_|apply rn_|apply rd_));exact (rm_ (rf_ (p:=⟨gb274,3,none⟩) (rf_ (p:=⟨gb274,2,none⟩) (rf_ (p:=⟨gb274,1,none⟩) (rf_ (p:=⟨gb274,0,none⟩) (rt_ HO249.out BK274.out (by decide)) (λ_ h=>h.2) (.int .i64 t263)) (λ_ h=>h.2) (.slice Ao43 t264.length co43)) (λ_ h=>h.2) (.slice Ao44 t267.length co44)) (λ_ h=>h.2) (.slice Ao45 t270.length co45)) (λ_ h=>h.1))));(case side12 => exact (rr_ HO249.out).2.1);rintro e w55 ⟨rfl,hb⟩;refine ⟨_,rfl,?_⟩;have n0_:=mk_ (rb_ (by (with_reducible repeat (first|apply ra_|apply rn_|apply rd_));exact (rm_ (rf_ (p:=⟨gb274,3,none⟩) (rf_ (p:=⟨gb274,2,none⟩) (rf_ (p:=⟨gb274,1,none⟩) (rf_ (p:=⟨gb274,0,none⟩) (rt_ HO233.out BK274.out (by decide)) (λ_ h=>h.2) (.int .i64 t263)) (λ_ h=>h.2) (.slice Ao43 t264.length co43)) (λ_ h=>h.2) (.slice Ao44 t267.length co44)) (λ_ h=>h.2) (.slice Ao45 t270.length co45)) (λ_ h=>h.1))) hb);have n1_:=mk_ (rb_ (by (with_reducible repeat (first|apply ra_|apply rn_|apply rd_));exact (rm_ (rf_ (p:=⟨gb274,3,none⟩) (rf_ (p:=⟨gb274,2,none⟩) (rf_ (p:=⟨gb274,1,none⟩) (rf_ (p:=⟨gb274,0,none⟩) (rt_ HO236.out BK274.out (by decide)) (λ_ h=>h.2) (.int .i64 t263)) (λ_ h=>h.2) (.slice Ao43 t264.length co43)) (λ_ h=>h.2) (.slice Ao44 t267.length co44)) (λ_ h=>h.2) (.slice Ao45 t270.length co45)) (λ_ h=>h.1))) hb);have n2_:=mk_ (rb_ (by (with_reducible repeat (first|apply ra_|apply rn_|apply rd_));exact (rm_ (rf_ (p:=⟨gb274,3,none⟩) (rf_ (p:=⟨gb274,2,none⟩) (rf_ (p:=⟨gb274,1,none⟩) (rf_ (p:=⟨gb274,0,none⟩) (rt_ HO239.out BK274.out (by decide)) (λ_ h=>h.2) (.int .i64 t263)) (λ_ h=>h.2) (.slice Ao43 t264.length co43)) (λ_ h=>h.2) (.slice Ao44 t267.length co44)) (λ_ h=>h.2) (.slice Ao45 t270.length co45)) (λ_ h=>h.1))) hb);have n3_:=mk_ (rb_ (by (with_reducible repeat (first|apply ra_|apply rn_|apply rd_));exact (rm_ (rf_ (p:=⟨gb274,3,none⟩) (rf_ (p:=⟨gb274,2,none⟩) (rf_ (p:=⟨gb274,1,none⟩) (rf_ (p:=⟨gb274,0,none⟩) (rt_ HO243.out BK274.out (by decide)) (λ_ h=>h.2) (.int .i64 t263)) (λ_ h=>h.2) (.slice Ao43 t264.length co43)) (λ_ h=>h.2) (.slice Ao44 t267.length co44)) (λ_ h=>h.2) (.slice Ao45 t270.length co45)) (λ_ h=>h.1))) hb);have n4_:=mk_ (rb_ (by (with_reducible repeat (first|apply ra_|apply rn_|apply rd_));exact (rm_ (rf_ (p:=⟨gb274,3,none⟩) (rf_ (p:=⟨gb274,2,none⟩) (rf_ (p:=⟨gb274,1,none⟩) (rf_ (p:=⟨gb274,0,none⟩) (rt_ HO246.out BK274.out (by decide)) (λ_ h=>h.2) (.int .i64 t263)) (λ_ h=>h.2) (.slice Ao43 t264.length co43)) (λ_ h=>h.2) (.slice Ao44 t267.length co44)) (λ_ h=>h.2) (.slice Ao45 t270.length co45)) (λ_ h=>h.1))) hb);have n5_:=mk_ (rb_ (by (with_reducible repeat (first|apply ra_|apply rn_|apply rd_));exact (rm_ (rf_ (p:=⟨gb274,3,none⟩) (rf_ (p:=⟨gb274,2,none⟩) (rf_ (p:=⟨gb274,1,none⟩) (rf_ (p:=⟨gb274,0,none⟩) (rt_ HO249.out BK274.out (by decide)) (λ_ h=>h.2) (.int .i64 t263)) (λ_ h=>h.2) (.slice Ao43 t264.length co43)) (λ_ h=>h.2) (.slice Ao44 t267.length co44)) (λ_ h=>h.2) (.slice Ao45 t270.length co45)) (λ_ h=>h.1))) hb);have n6_:=mk_ (rb_ (by (with_reducible repeat (first|apply ra_|apply rn_|apply rd_));exact (rm_ (rf_ (p:=⟨gb274,3,none⟩) (rf_ (p:=⟨gb274,2,none⟩) (rf_ (p:=⟨gb274,1,none⟩) (rf_ (p:=⟨gb274,0,none⟩) (rt_ HO255.out BK274.out (by decide)) (λ_ h=>h.2) (.int .i64 t263)) (λ_ h=>h.2) (.slice Ao43 t264.length co43)) (λ_ h=>h.2) (.slice Ao44 t267.length co44)) (λ_ h=>h.2) (.slice Ao45 t270.length co45)) (λ_ h=>h.1))) hb);have n7_:=mk_ (rb_ (by (with_reducible repeat (first|apply ra_|apply rn_|apply rd_));exact (rm_ (rf_ (p:=⟨gb274,3,none⟩) (rf_ (p:=⟨gb274,2,none⟩) (rf_ (p:=⟨gb274,1,none⟩) (rf_ (p:=⟨gb274,0,none⟩) (rt_ HO258.out BK274.out (by decide)) (λ_ h=>h.2) (.int .i64 t263)) (λ_ h=>h.2) (.slice Ao43 t264.length co43)) (λ_ h=>h.2) (.slice Ao44 t267.length co44)) (λ_ h=>h.2) (.slice Ao45 t270.length co45)) (λ_ h=>h.1))) hb);have n8_:=mk_ (rb_ (by (with_reducible repeat (first|apply ra_|apply rn_|apply rd_));exact (rm_ (rf_ (p:=⟨gb274,3,none⟩) (rf_ (p:=⟨gb274,2,none⟩) (rf_ (p:=⟨gb274,1,none⟩) (rf_ (p:=⟨gb274,0,none⟩) (rt_ HO261.out BK274.out (by decide)) (λ_ h=>h.2) (.int .i64 t263)) (λ_ h=>h.2) (.slice Ao43 t264.length co43)) (λ_ h=>h.2) (.slice Ao44 t267.length co44)) (λ_ h=>h.2) (.slice Ao45 t270.length co45)) (λ_ h=>h.1))) hb);have n9_:=mk_ (rb_ (by (with_reducible repeat (first|apply ra_|apply rn_|apply rd_));exact (rm_ (rf_ (p:=⟨gb274,3,none⟩) (rf_ (p:=⟨gb274,2,none⟩) (rf_ (p:=⟨gb274,1,none⟩) (rf_ (p:=⟨gb274,0,none⟩) (rt_ HO266.out BK274.out (by decide)) (λ_ h=>h.2) (.int .i64 t263)) (λ_ h=>h.2) (.slice Ao43 t264.length co43)) (λ_ h=>h.2) (.slice Ao44 t267.length co44)) (λ_ h=>h.2) (.slice Ao45 t270.length co45)) (λ_ h=>h.1))) hb);have n10_:=mk_ (rb_ (by (with_reducible repeat (first|apply ra_|apply rn_|apply rd_));exact (rm_ (rf_ (p:=⟨gb274,3,none⟩) (rf_ (p:=⟨gb274,2,none⟩) (rf_ (p:=⟨gb274,1,none⟩) (rf_ (p:=⟨gb274,0,none⟩) (rt_ HO269.out BK274.out (by decide)) (λ_ h=>h.2) (.int .i64 t263)) (λ_ h=>h.2) (.slice Ao43 t264.length co43)) (λ_ h=>h.2) (.slice Ao44 t267.length co44)) (λ_ h=>h.2) (.slice Ao45 t270.length co45)) (λ_ h=>h.1))) hb);have n11_:=mk_ (rb_ (by (with_reducible repeat (first|apply ra_|apply rn_|apply rd_));exact (rm_ (rf_ (p:=⟨gb274,3,none⟩) (rf_ (p:=⟨gb274,2,none⟩) (rf_ (p:=⟨gb274,1,none⟩) (rf_ (p:=⟨gb274,0,none⟩) (rt_ HO272.out BK274.out (by decide)) (λ_ h=>h.2) (.int .i64 t263)) (λ_ h=>h.2) (.slice Ao43 t264.length co43)) (λ_ h=>h.2) (.slice Ao44 t267.length co44)) (λ_ h=>h.2) (.slice Ao45 t270.length co45)) (λ_ h=>h.1))) hb);have n12_:=mk_ (blk_below (g:=gb228) (o:=.cells #[.int .i64 a0_0,.slice A0_1 l0_1.length c0_1,.slice A0_2 l0_2.length c0_2,.slice A0_3 l0_3.length c0_3] 25 (0,0)) (by (with_reducible repeat (first|apply kn_|apply kd_|apply ka_));refine blk_far ?_ NB228_274.out _;(with_reducible repeat (first|apply kn_|apply kd_|apply ka_));refine blk_far ?_ NB228_274.out _;(with_reducible repeat (first|apply kn_|apply kd_|apply ka_));refine blk_far ?_ NB228_274.out _;(with_reducible repeat (first|apply kn_|apply kd_|apply ka_));refine blk_far ?_ NB228_274.out _;(with_reducible repeat (first|apply kn_|apply kd_|apply ka_));exact BK228.out) hb);have n13_:=mk_ (blk_below (g:=gb251) (o:=.cells #[.int .i64 t240,.slice Ao25 t241.length co25,.slice Ao26 t244.length co26,.slice Ao27 t247.length co27] 30 (0,0)) (by (with_reducible repeat (first|apply kn_|apply kd_|apply ka_));refine blk_far ?_ NB251_274.out _;(with_reducible repeat (first|apply kn_|apply kd_|apply ka_));refine blk_far ?_ NB251_274.out _;(with_reducible repeat (first|apply kn_|apply kd_|apply ka_));refine blk_far ?_ NB251_274.out _;(with_reducible repeat (first|apply kn_|apply kd_|apply ka_));refine blk_far ?_ NB251_274.out _;(with_reducible repeat (first|apply kn_|apply kd_|apply ka_));exact BK251.out) hb);have n14_:=mk_ (blk_below (g:=gb262) (o:=.cells #[.int .i64 t252,.slice Ao34 t253.length co34,.slice Ao35 t256.length co35,.slice Ao36 t259.length co36] 30 (0,0)) (by (with_reducible repeat (first|apply kn_|apply kd_|apply ka_));refine blk_far ?_ NB262_274.out _;(with_reducible repeat (first|apply kn_|apply kd_|apply ka_));refine blk_far ?_ NB262_274.out _;(with_reducible repeat (first|apply kn_|apply kd_|apply ka_));refine blk_far ?_ NB262_274.out _;(with_reducible repeat (first|apply kn_|apply kd_|apply ka_));refine blk_far ?_ NB262_274.out _;(with_reducible repeat (first|apply kn_|apply kd_|apply ka_));exact BK262.out) hb);have n15_:=mk_ (blk_below (g:=gb274) (o:=.cells #[.int .i64 t263,.slice Ao43 t264.length co43,.slice Ao44 t267.length co44,.slice Ao45 t270.length co45] 30 (0,0)) (by (with_reducible repeat (first|apply kn_|apply kd_|apply ka_));refine blk_put (cs:=#[.int .i64 t263,.slice Ao43 t264.length co43,.slice Ao44 t267.length co44,.slice none 0 0]) ?_ 3 _ rfl;(with_reducible repeat (first|apply kn_|apply kd_|apply ka_));refine blk_put (cs:=#[.int .i64 t263,.slice Ao43 t264.length co43,.slice none 0 0,.slice none 0 0]) ?_ 2 _ rfl;(with_reducible repeat (first|apply kn_|apply kd_|apply ka_));refine blk_put (cs:=#[.int .i64 t263,.slice none 0 0,.slice none 0 0,.slice none 0 0]) ?_ 1 _ rfl;(with_reducible repeat (first|apply kn_|apply kd_|apply ka_));refine blk_put (cs:=#[.int .i64 0,.slice none 0 0,.slice none 0 0,.slice none 0 0]) ?_ 0 _ rfl;(with_reducible repeat (first|apply kn_|apply kd_|apply ka_));exact BK274.out) hb);have n16_:=mk_ (st_ (u6_ HB GE228 GE251 GE262 GE274) hb);clear HO233 HO236 HO239 HO243 HO246 HO249 HO255 HO258 HO261 HO266 HO269 HO272 BK228 BK251 BK262 BK274 HB;have HO233:=n0_;have HO236:=n1_;have HO239:=n2_;have HO243:=n3_;have HO246:=n4_;have HO249:=n5_;have HO255:=n6_;have HO258:=n7_;have HO261:=n8_;have HO266:=n9_;have HO269:=n10_;have HO272:=n11_;have BK228:=n12_;have BK251:=n13_;have BK262:=n14_;have BK274:=n15_;have HB:=n16_;clear n0_ n1_ n2_ n3_ n4_ n5_ n6_ n7_ n8_ n9_ n10_ n11_ n12_ n13_ n14_ n15_ n16_;(try clear hb);(try clear hb2);(try clear hk);(try clear hi)))
    go_meet
    case rel => exact ⟨_,((t273 != t250)),qf_,H',⟨by first|omega|exact Nat.le_refl _⟩,⟨by (with_reducible repeat (first|apply ra_|apply rn_|apply rd_));exact rm_ HO243.out (fun _ hk => ⟨hk.1.2,hk.2⟩)⟩,⟨by (with_reducible repeat (first|apply ra_|apply rn_|apply rd_));exact rm_ HO246.out (fun _ hk => ⟨hk.1.1.1.1.1.1,⟨hk.1.1.1.2,⟨hk.1.1.2,⟨hk.1.2,hk.2⟩⟩⟩⟩)⟩,⟨by (with_reducible repeat (first|apply ra_|apply rn_|apply rd_));exact rm_ HO249.out (fun _ hk => ⟨hk.1.1.1.1.1.1,⟨hk.1.1.1.2,⟨hk.1.1.2,⟨hk.1.2,hk.2⟩⟩⟩⟩)⟩,⟨by (with_reducible repeat (first|apply ra_|apply rn_|apply rd_));exact rm_ HO255.out (fun _ hk => ⟨hk.1.2,hk.2⟩)⟩,⟨by (with_reducible repeat (first|apply ra_|apply rn_|apply rd_));exact rm_ HO258.out (fun _ hk => ⟨hk.1.1.1.2,⟨hk.1.1.2,⟨hk.1.1.1.1.1.1,⟨hk.1.2,hk.2⟩⟩⟩⟩)⟩,⟨by (with_reducible repeat (first|apply ra_|apply rn_|apply rd_));exact rm_ HO261.out (fun _ hk => ⟨hk.1.1.1.2,⟨hk.1.1.2,⟨hk.1.1.1.1.1.1,⟨hk.1.2,hk.2⟩⟩⟩⟩)⟩,⟨by (with_reducible repeat (first|apply ra_|apply rn_|apply rd_));exact rm_ HO266.out (fun _ hk => ⟨hk.1.2,hk.2⟩)⟩,⟨by (with_reducible repeat (first|apply ra_|apply rn_|apply rd_));exact rm_ HO269.out (fun _ hk => ⟨hk.1.1.1.2,⟨hk.1.1.2,⟨hk.1.2,⟨hk.2,hk.1.1.1.1.1.1⟩⟩⟩⟩)⟩,⟨by (with_reducible repeat (first|apply ra_|apply rn_|apply rd_));exact rm_ HO272.out (fun _ hk => ⟨hk.1.1.1.2,⟨hk.1.1.2,⟨hk.1.2,⟨hk.2,hk.1.1.1.1.1.1⟩⟩⟩⟩)⟩,⟨qk_ BK228⟩,⟨qk_ BK251⟩,⟨qk_ BK262⟩,⟨qk_ BK274⟩,⟨u6_ HB GE228 GE251 GE262 GE274⟩⟩
   ·replace c47:=Bool.eq_false_iff.mpr c47
    subst c47
    have H1 : (laws_FnExactCutCable.j0 k a1 t250 t273 true a0_0 l0_1 l0_2 l0_3 t240 t241 t244 t247 t252 t253 t256 t259 t263 t264 t267 t270) = some r:=by rw [if_neg (show ¬ (false = true) by decide)] at H;exact H
    clear H
    have H:=H1
    clear H1
    have H':=mk_ H
    clear H
    have hnb56:=NB274_228.out
    have hnc56:=NB228_274.out
    have hnb57:=NB274_251.out
    have hnc57:=NB251_274.out
    have hnb58:=NB274_262.out
    have hnc58:=NB262_274.out
    have hcz59_0 : w38.cell? ⟨gb274,0,none⟩ = some (.int .i64 0):=(bc_ BK274.out 0).trans rfl
    have hcz59_1 : w38.cell? ⟨gb274,1,none⟩ = some (.slice none 0 0):=(bc_ BK274.out 1).trans rfl
    have hcz59_2 : w38.cell? ⟨gb274,2,none⟩ = some (.slice none 0 0):=(bc_ BK274.out 2).trans rfl
    have hcz59_3 : w38.cell? ⟨gb274,3,none⟩ = some (.slice none 0 0):=(bc_ BK274.out 3).trans rfl
    have hfz59_0:=bf_ BK274.out 0
    have hfz59_1:=bf_ BK274.out 1
    have hfz59_2:=bf_ BK274.out 2
    have hfz59_3:=bf_ BK274.out 3
    have hnb60:=NB251_228.out
    have hnc60:=NB228_251.out
    have hnb61:=NB251_262.out
    have hnc61:=NB262_251.out
    have hcz62_0 : w38.cell? ⟨gb251,0,none⟩ = some (.int .i64 t240):=(bc_ BK251.out 0).trans rfl
    have hcz62_1 : w38.cell? ⟨gb251,1,none⟩ = some (.slice Ao25 t241.length co25):=(bc_ BK251.out 1).trans rfl
    have hcz62_2 : w38.cell? ⟨gb251,2,none⟩ = some (.slice Ao26 t244.length co26):=(bc_ BK251.out 2).trans rfl
    have hcz62_3 : w38.cell? ⟨gb251,3,none⟩ = some (.slice Ao27 t247.length co27):=(bc_ BK251.out 3).trans rfl
    have hfz62_0:=bf_ BK251.out 0
    have hfz62_1:=bf_ BK251.out 1
    have hfz62_2:=bf_ BK251.out 2
    have hfz62_3:=bf_ BK251.out 3
    go_wp2_with (first|((with_reducible refine gate_callee (f:=16) rfl ?_);refine goesL_ (some 38) rfl rfl Try.func16 (by kernel_rfl) rfl #[.agg #[.int .i64 t263,.slice Ao43 t264.length co43,.slice Ao44 t267.length co44,.slice Ao45 t270.length co45],.agg #[.int .i64 t240,.slice Ao25 t241.length co25,.slice Ao26 t244.length co26,.slice Ao27 t247.length co27]] rfl qm_ ?_;(with_reducible refine (laws_eqNet.calls k t263 _ _ t264 _ _ t267 _ _ t270 t240 _ _ t241 _ _ t244 _ _ t247 false _ ?side1 ?side2 ?side3 ?side4 ?side5 ?side6 ?side7 ?side8 ?side9 ?side10 ?side11 ?side12 A46.out).mono ?_);(case side1 => refine (rr_ (e:=51) (base:=w.heap.size) (ok:=fun k_ => (((True ∧ some k_ ≠ (.slice Ao18 t231.length co18 : Value).ownBlock) ∧ some k_ ≠ (.slice Ao25 t241.length co25 : Value).ownBlock) ∧ some k_ ≠ (.slice Ao34 t253.length co34 : Value).ownBlock)) (n:=t264.length) (c:=co43) ?_).2.2;exact (by (with_reducible repeat (first|apply ra_|apply rn_|apply rd_));exact (rm_ (rf_ (p:=⟨gb274,3,none⟩) (rf_ (p:=⟨gb274,2,none⟩) (rf_ (p:=⟨gb274,1,none⟩) (rf_ (p:=⟨gb274,0,none⟩) (rt_ HO266.out BK274.out (by decide)) (λ_ h=>h.2) (.int .i64 t263)) (λ_ h=>h.2) (.slice Ao43 t264.length co43)) (λ_ h=>h.2) (.slice Ao44 t267.length co44)) (λ_ h=>h.2) (.slice Ao45 t270.length co45)) (λ_ h=>h.1))));(case side2 => exact (rr_ HO266.out).2.1);(case side3 => refine (rr_ (e:=3) (base:=w.heap.size) (ok:=fun k_ => ((((((some k_ ≠ (.slice Ao45 t270.length co45 : Value).ownBlock ∧ some k_ ≠ (.slice Ao19 t234.length co19 : Value).ownBlock) ∧ some k_ ≠ (.slice Ao20 t237.length co20 : Value).ownBlock) ∧ some k_ ≠ (.slice Ao26 t244.length co26 : Value).ownBlock) ∧ some k_ ≠ (.slice Ao27 t247.length co27 : Value).ownBlock) ∧ some k_ ≠ (.slice Ao35 t256.length co35 : Value).ownBlock) ∧ some k_ ≠ (.slice Ao36 t259.length co36 : Value).ownBlock)) (n:=t267.length) (c:=co44) ?_).2.2;exact (by (with_reducible repeat (first|apply ra_|apply rn_|apply rd_));exact (rm_ (rf_ (p:=⟨gb274,3,none⟩) (rf_ (p:=⟨gb274,2,none⟩) (rf_ (p:=⟨gb274,1,none⟩) (rf_ (p:=⟨gb274,0,none⟩) (rt_ HO269.out BK274.out (by decide)) (λ_ h=>h.2) (.int .i64 t263)) (λ_ h=>h.2) (.slice Ao43 t264.length co43)) (λ_ h=>h.2) (.slice Ao44 t267.length co44)) (λ_ h=>h.2) (.slice Ao45 t270.length co45)) (λ_ h=>h.1))));(case side4 => exact (rr_ HO269.out).2.1);(case side5 => refine (rr_ (e:=3) (base:=w.heap.size) (ok:=fun k_ => ((((((some k_ ≠ (.slice Ao44 t267.length co44 : Value).ownBlock ∧ some k_ ≠ (.slice Ao19 t234.length co19 : Value).ownBlock) ∧ some k_ ≠ (.slice Ao20 t237.length co20 : Value).ownBlock) ∧ some k_ ≠ (.slice Ao26 t244.length co26 : Value).ownBlock) ∧ some k_ ≠ (.slice Ao27 t247.length co27 : Value).ownBlock) ∧ some k_ ≠ (.slice Ao35 t256.length co35 : Value).ownBlock) ∧ some k_ ≠ (.slice Ao36 t259.length co36 : Value).ownBlock)) (n:=t270.length) (c:=co45) ?_).2.2;exact (by (with_reducible repeat (first|apply ra_|apply rn_|apply rd_));exact (rm_ (rf_ (p:=⟨gb274,3,none⟩) (rf_ (p:=⟨gb274,2,none⟩) (rf_ (p:=⟨gb274,1,none⟩) (rf_ (p:=⟨gb274,0,none⟩) (rt_ HO272.out BK274.out (by decide)) (λ_ h=>h.2) (.int .i64 t263)) (λ_ h=>h.2) (.slice Ao43 t264.length co43)) (λ_ h=>h.2) (.slice Ao44 t267.length co44)) (λ_ h=>h.2) (.slice Ao45 t270.length co45)) (λ_ h=>h.1))));(case side6 => exact (rr_ HO272.out).2.1);(case side7 => refine (rr_ (e:=51) (base:=w.heap.size) (ok:=fun k_ => (((True ∧ some k_ ≠ (.slice Ao18 t231.length co18 : Value).ownBlock) ∧ some k_ ≠ (.slice Ao34 t253.length co34 : Value).ownBlock) ∧ some k_ ≠ (.slice Ao43 t264.length co43 : Value).ownBlock)) (n:=t241.length) (c:=co25) ?_).2.2;exact (by (with_reducible repeat (first|apply ra_|apply rn_|apply rd_));exact (rm_ (rf_ (p:=⟨gb274,3,none⟩) (rf_ (p:=⟨gb274,2,none⟩) (rf_ (p:=⟨gb274,1,none⟩) (rf_ (p:=⟨gb274,0,none⟩) (rt_ HO243.out BK274.out (by decide)) (λ_ h=>h.2) (.int .i64 t263)) (λ_ h=>h.2) (.slice Ao43 t264.length co43)) (λ_ h=>h.2) (.slice Ao44 t267.length co44)) (λ_ h=>h.2) (.slice Ao45 t270.length co45)) (λ_ h=>h.1))));(case side8 => exact (rr_ HO243.out).2.1);(case side9 => refine (rr_ (e:=3) (base:=w.heap.size) (ok:=fun k_ => ((((((some k_ ≠ (.slice Ao27 t247.length co27 : Value).ownBlock ∧ some k_ ≠ (.slice Ao19 t234.length co19 : Value).ownBlock) ∧ some k_ ≠ (.slice Ao20 t237.length co20 : Value).ownBlock) ∧ some k_ ≠ (.slice Ao35 t256.length co35 : Value).ownBlock) ∧ some k_ ≠ (.slice Ao36 t259.length co36 : Value).ownBlock) ∧ some k_ ≠ (.slice Ao44 t267.length co44 : Value).ownBlock) ∧ some k_ ≠ (.slice Ao45 t270.length co45 : Value).ownBlock)) (n:=t244.length) (c:=co26) ?_).2.2;exact (by (with_reducible repeat (first|apply ra_|apply rn_|apply rd_));exact (rm_ (rf_ (p:=⟨gb274,3,none⟩) (rf_ (p:=⟨gb274,2,none⟩) (rf_ (p:=⟨gb274,1,none⟩) (rf_ (p:=⟨gb274,0,none⟩) (rt_ HO246.out BK274.out (by decide)) (λ_ h=>h.2) (.int .i64 t263)) (λ_ h=>h.2) (.slice Ao43 t264.length co43)) (λ_ h=>h.2) (.slice Ao44 t267.length co44)) (λ_ h=>h.2) (.slice Ao45 t270.length co45)) (λ_ h=>h.1))));(case side10 => exact (rr_ HO246.out).2.1);(case side11 => refine (rr_ (e:=3) (base:=w.heap.size) (ok:=fun k_ => ((((((some k_ ≠ (.slice Ao26 t244.length co26 : Value).ownBlock ∧ some k_ ≠ (.slice Ao19 t234.length co19 : Value).ownBlock) ∧ some k_ ≠ (.slice Ao20 t237.length co20 : Value).ownBlock) ∧ some k_ ≠ (.slice Ao35 t256.length co35 : Value).ownBlock) ∧ some k_ ≠ (.slice Ao36 t259.length co36 : Value).ownBlock) ∧ some k_ ≠ (.slice Ao44 t267.length co44 : Value).ownBlock) ∧ some k_ ≠ (.slice Ao45 t270.length co45 : Value).ownBlock)) (n:=t247.length) (c:=co27) ?_).2.2;exact (by (with_reducible repeat (first|apply ra_|apply rn_|apply rd_));exact (rm_ (rf_ (p:=⟨gb274,3,none⟩) (rf_ (p:=⟨gb274,2,none⟩) (rf_ (p:=⟨gb274,1,none⟩) (rf_ (p:=⟨gb274,0,none⟩) (rt_ HO249.out BK274.out (by decide)) (λ_ h=>h.2) (.int .i64 t263)) (λ_ h=>h.2) (.slice Ao43 t264.length co43)) (λ_ h=>h.2) (.slice Ao44 t267.length co44)) (λ_ h=>h.2) (.slice Ao45 t270.length co45)) (λ_ h=>h.1))));(case side12 => exact (rr_ HO249.out).2.1);rintro e w63 ⟨rfl,hb⟩;refine ⟨_,rfl,?_⟩;have n0_:=mk_ (rb_ (by (with_reducible repeat (first|apply ra_|apply rn_|apply rd_));exact (rm_ (rf_ (p:=⟨gb274,3,none⟩) (rf_ (p:=⟨gb274,2,none⟩) (rf_ (p:=⟨gb274,1,none⟩) (rf_ (p:=⟨gb274,0,none⟩) (rt_ HO233.out BK274.out (by decide)) (λ_ h=>h.2) (.int .i64 t263)) (λ_ h=>h.2) (.slice Ao43 t264.length co43)) (λ_ h=>h.2) (.slice Ao44 t267.length co44)) (λ_ h=>h.2) (.slice Ao45 t270.length co45)) (λ_ h=>h.1))) hb);have n1_:=mk_ (rb_ (by (with_reducible repeat (first|apply ra_|apply rn_|apply rd_));exact (rm_ (rf_ (p:=⟨gb274,3,none⟩) (rf_ (p:=⟨gb274,2,none⟩) (rf_ (p:=⟨gb274,1,none⟩) (rf_ (p:=⟨gb274,0,none⟩) (rt_ HO236.out BK274.out (by decide)) (λ_ h=>h.2) (.int .i64 t263)) (λ_ h=>h.2) (.slice Ao43 t264.length co43)) (λ_ h=>h.2) (.slice Ao44 t267.length co44)) (λ_ h=>h.2) (.slice Ao45 t270.length co45)) (λ_ h=>h.1))) hb);have n2_:=mk_ (rb_ (by (with_reducible repeat (first|apply ra_|apply rn_|apply rd_));exact (rm_ (rf_ (p:=⟨gb274,3,none⟩) (rf_ (p:=⟨gb274,2,none⟩) (rf_ (p:=⟨gb274,1,none⟩) (rf_ (p:=⟨gb274,0,none⟩) (rt_ HO239.out BK274.out (by decide)) (λ_ h=>h.2) (.int .i64 t263)) (λ_ h=>h.2) (.slice Ao43 t264.length co43)) (λ_ h=>h.2) (.slice Ao44 t267.length co44)) (λ_ h=>h.2) (.slice Ao45 t270.length co45)) (λ_ h=>h.1))) hb);have n3_:=mk_ (rb_ (by (with_reducible repeat (first|apply ra_|apply rn_|apply rd_));exact (rm_ (rf_ (p:=⟨gb274,3,none⟩) (rf_ (p:=⟨gb274,2,none⟩) (rf_ (p:=⟨gb274,1,none⟩) (rf_ (p:=⟨gb274,0,none⟩) (rt_ HO243.out BK274.out (by decide)) (λ_ h=>h.2) (.int .i64 t263)) (λ_ h=>h.2) (.slice Ao43 t264.length co43)) (λ_ h=>h.2) (.slice Ao44 t267.length co44)) (λ_ h=>h.2) (.slice Ao45 t270.length co45)) (λ_ h=>h.1))) hb);have n4_:=mk_ (rb_ (by (with_reducible repeat (first|apply ra_|apply rn_|apply rd_));exact (rm_ (rf_ (p:=⟨gb274,3,none⟩) (rf_ (p:=⟨gb274,2,none⟩) (rf_ (p:=⟨gb274,1,none⟩) (rf_ (p:=⟨gb274,0,none⟩) (rt_ HO246.out BK274.out (by decide)) (λ_ h=>h.2) (.int .i64 t263)) (λ_ h=>h.2) (.slice Ao43 t264.length co43)) (λ_ h=>h.2) (.slice Ao44 t267.length co44)) (λ_ h=>h.2) (.slice Ao45 t270.length co45)) (λ_ h=>h.1))) hb);have n5_:=mk_ (rb_ (by (with_reducible repeat (first|apply ra_|apply rn_|apply rd_));exact (rm_ (rf_ (p:=⟨gb274,3,none⟩) (rf_ (p:=⟨gb274,2,none⟩) (rf_ (p:=⟨gb274,1,none⟩) (rf_ (p:=⟨gb274,0,none⟩) (rt_ HO249.out BK274.out (by decide)) (λ_ h=>h.2) (.int .i64 t263)) (λ_ h=>h.2) (.slice Ao43 t264.length co43)) (λ_ h=>h.2) (.slice Ao44 t267.length co44)) (λ_ h=>h.2) (.slice Ao45 t270.length co45)) (λ_ h=>h.1))) hb);have n6_:=mk_ (rb_ (by (with_reducible repeat (first|apply ra_|apply rn_|apply rd_));exact (rm_ (rf_ (p:=⟨gb274,3,none⟩) (rf_ (p:=⟨gb274,2,none⟩) (rf_ (p:=⟨gb274,1,none⟩) (rf_ (p:=⟨gb274,0,none⟩) (rt_ HO255.out BK274.out (by decide)) (λ_ h=>h.2) (.int .i64 t263)) (λ_ h=>h.2) (.slice Ao43 t264.length co43)) (λ_ h=>h.2) (.slice Ao44 t267.length co44)) (λ_ h=>h.2) (.slice Ao45 t270.length co45)) (λ_ h=>h.1))) hb);have n7_:=mk_ (rb_ (by (with_reducible repeat (first|apply ra_|apply rn_|apply rd_));exact (rm_ (rf_ (p:=⟨gb274,3,none⟩) (rf_ (p:=⟨gb274,2,none⟩) (rf_ (p:=⟨gb274,1,none⟩) (rf_ (p:=⟨gb274,0,none⟩) (rt_ HO258.out BK274.out (by decide)) (λ_ h=>h.2) (.int .i64 t263)) (λ_ h=>h.2) (.slice Ao43 t264.length co43)) (λ_ h=>h.2) (.slice Ao44 t267.length co44)) (λ_ h=>h.2) (.slice Ao45 t270.length co45)) (λ_ h=>h.1))) hb);have n8_:=mk_ (rb_ (by (with_reducible repeat (first|apply ra_|apply rn_|apply rd_));exact (rm_ (rf_ (p:=⟨gb274,3,none⟩) (rf_ (p:=⟨gb274,2,none⟩) (rf_ (p:=⟨gb274,1,none⟩) (rf_ (p:=⟨gb274,0,none⟩) (rt_ HO261.out BK274.out (by decide)) (λ_ h=>h.2) (.int .i64 t263)) (λ_ h=>h.2) (.slice Ao43 t264.length co43)) (λ_ h=>h.2) (.slice Ao44 t267.length co44)) (λ_ h=>h.2) (.slice Ao45 t270.length co45)) (λ_ h=>h.1))) hb);have n9_:=mk_ (rb_ (by (with_reducible repeat (first|apply ra_|apply rn_|apply rd_));exact (rm_ (rf_ (p:=⟨gb274,3,none⟩) (rf_ (p:=⟨gb274,2,none⟩) (rf_ (p:=⟨gb274,1,none⟩) (rf_ (p:=⟨gb274,0,none⟩) (rt_ HO266.out BK274.out (by decide)) (λ_ h=>h.2) (.int .i64 t263)) (λ_ h=>h.2) (.slice Ao43 t264.length co43)) (λ_ h=>h.2) (.slice Ao44 t267.length co44)) (λ_ h=>h.2) (.slice Ao45 t270.length co45)) (λ_ h=>h.1))) hb);have n10_:=mk_ (rb_ (by (with_reducible repeat (first|apply ra_|apply rn_|apply rd_));exact (rm_ (rf_ (p:=⟨gb274,3,none⟩) (rf_ (p:=⟨gb274,2,none⟩) (rf_ (p:=⟨gb274,1,none⟩) (rf_ (p:=⟨gb274,0,none⟩) (rt_ HO269.out BK274.out (by decide)) (λ_ h=>h.2) (.int .i64 t263)) (λ_ h=>h.2) (.slice Ao43 t264.length co43)) (λ_ h=>h.2) (.slice Ao44 t267.length co44)) (λ_ h=>h.2) (.slice Ao45 t270.length co45)) (λ_ h=>h.1))) hb);have n11_:=mk_ (rb_ (by (with_reducible repeat (first|apply ra_|apply rn_|apply rd_));exact (rm_ (rf_ (p:=⟨gb274,3,none⟩) (rf_ (p:=⟨gb274,2,none⟩) (rf_ (p:=⟨gb274,1,none⟩) (rf_ (p:=⟨gb274,0,none⟩) (rt_ HO272.out BK274.out (by decide)) (λ_ h=>h.2) (.int .i64 t263)) (λ_ h=>h.2) (.slice Ao43 t264.length co43)) (λ_ h=>h.2) (.slice Ao44 t267.length co44)) (λ_ h=>h.2) (.slice Ao45 t270.length co45)) (λ_ h=>h.1))) hb);have n12_:=mk_ (blk_below (g:=gb228) (o:=.cells #[.int .i64 a0_0,.slice A0_1 l0_1.length c0_1,.slice A0_2 l0_2.length c0_2,.slice A0_3 l0_3.length c0_3] 25 (0,0)) (by (with_reducible repeat (first|apply kn_|apply kd_|apply ka_));refine blk_far ?_ NB228_274.out _;(with_reducible repeat (first|apply kn_|apply kd_|apply ka_));refine blk_far ?_ NB228_274.out _;(with_reducible repeat (first|apply kn_|apply kd_|apply ka_));refine blk_far ?_ NB228_274.out _;(with_reducible repeat (first|apply kn_|apply kd_|apply ka_));refine blk_far ?_ NB228_274.out _;(with_reducible repeat (first|apply kn_|apply kd_|apply ka_));exact BK228.out) hb);have n13_:=mk_ (blk_below (g:=gb251) (o:=.cells #[.int .i64 t240,.slice Ao25 t241.length co25,.slice Ao26 t244.length co26,.slice Ao27 t247.length co27] 30 (0,0)) (by (with_reducible repeat (first|apply kn_|apply kd_|apply ka_));refine blk_far ?_ NB251_274.out _;(with_reducible repeat (first|apply kn_|apply kd_|apply ka_));refine blk_far ?_ NB251_274.out _;(with_reducible repeat (first|apply kn_|apply kd_|apply ka_));refine blk_far ?_ NB251_274.out _;(with_reducible repeat (first|apply kn_|apply kd_|apply ka_));refine blk_far ?_ NB251_274.out _;(with_reducible repeat (first|apply kn_|apply kd_|apply ka_));exact BK251.out) hb);have n14_:=mk_ (blk_below (g:=gb262) (o:=.cells #[.int .i64 t252,.slice Ao34 t253.length co34,.slice Ao35 t256.length co35,.slice Ao36 t259.length co36] 30 (0,0)) (by (with_reducible repeat (first|apply kn_|apply kd_|apply ka_));refine blk_far ?_ NB262_274.out _;(with_reducible repeat (first|apply kn_|apply kd_|apply ka_));refine blk_far ?_ NB262_274.out _;(with_reducible repeat (first|apply kn_|apply kd_|apply ka_));refine blk_far ?_ NB262_274.out _;(with_reducible repeat (first|apply kn_|apply kd_|apply ka_));refine blk_far ?_ NB262_274.out _;(with_reducible repeat (first|apply kn_|apply kd_|apply ka_));exact BK262.out) hb);have n15_:=mk_ (blk_below (g:=gb274) (o:=.cells #[.int .i64 t263,.slice Ao43 t264.length co43,.slice Ao44 t267.length co44,.slice Ao45 t270.length co45] 30 (0,0)) (by (with_reducible repeat (first|apply kn_|apply kd_|apply ka_));refine blk_put (cs:=#[.int .i64 t263,.slice Ao43 t264.length co43,.slice Ao44 t267.length co44,.slice none 0 0]) ?_ 3 _ rfl;(with_reducible repeat (first|apply kn_|apply kd_|apply ka_));refine blk_put (cs:=#[.int .i64 t263,.slice Ao43 t264.length co43,.slice none 0 0,.slice none 0 0]) ?_ 2 _ rfl;(with_reducible repeat (first|apply kn_|apply kd_|apply ka_));refine blk_put (cs:=#[.int .i64 t263,.slice none 0 0,.slice none 0 0,.slice none 0 0]) ?_ 1 _ rfl;(with_reducible repeat (first|apply kn_|apply kd_|apply ka_));refine blk_put (cs:=#[.int .i64 0,.slice none 0 0,.slice none 0 0,.slice none 0 0]) ?_ 0 _ rfl;(with_reducible repeat (first|apply kn_|apply kd_|apply ka_));exact BK274.out) hb);have n16_:=mk_ (st_ (u6_ HB GE228 GE251 GE262 GE274) hb);clear HO233 HO236 HO239 HO243 HO246 HO249 HO255 HO258 HO261 HO266 HO269 HO272 BK228 BK251 BK262 BK274 HB;have HO233:=n0_;have HO236:=n1_;have HO239:=n2_;have HO243:=n3_;have HO246:=n4_;have HO249:=n5_;have HO255:=n6_;have HO258:=n7_;have HO261:=n8_;have HO266:=n9_;have HO269:=n10_;have HO272:=n11_;have BK228:=n12_;have BK251:=n13_;have BK262:=n14_;have BK274:=n15_;have HB:=n16_;clear n0_ n1_ n2_ n3_ n4_ n5_ n6_ n7_ n8_ n9_ n10_ n11_ n12_ n13_ n14_ n15_ n16_;(try clear hb);(try clear hb2);(try clear hk);(try clear hi)))
    go_meet
    case rel => exact ⟨_,(true),qf_,H',⟨by first|omega|exact Nat.le_refl _⟩,⟨by (with_reducible repeat (first|apply ra_|apply rn_|apply rd_));exact rm_ HO243.out (fun _ hk => ⟨hk.1.2,hk.2⟩)⟩,⟨by (with_reducible repeat (first|apply ra_|apply rn_|apply rd_));exact rm_ HO246.out (fun _ hk => ⟨hk.1.1.1.1.1.1,⟨hk.1.1.1.2,⟨hk.1.1.2,⟨hk.1.2,hk.2⟩⟩⟩⟩)⟩,⟨by (with_reducible repeat (first|apply ra_|apply rn_|apply rd_));exact rm_ HO249.out (fun _ hk => ⟨hk.1.1.1.1.1.1,⟨hk.1.1.1.2,⟨hk.1.1.2,⟨hk.1.2,hk.2⟩⟩⟩⟩)⟩,⟨by (with_reducible repeat (first|apply ra_|apply rn_|apply rd_));exact rm_ HO255.out (fun _ hk => ⟨hk.1.2,hk.2⟩)⟩,⟨by (with_reducible repeat (first|apply ra_|apply rn_|apply rd_));exact rm_ HO258.out (fun _ hk => ⟨hk.1.1.1.2,⟨hk.1.1.2,⟨hk.1.1.1.1.1.1,⟨hk.1.2,hk.2⟩⟩⟩⟩)⟩,⟨by (with_reducible repeat (first|apply ra_|apply rn_|apply rd_));exact rm_ HO261.out (fun _ hk => ⟨hk.1.1.1.2,⟨hk.1.1.2,⟨hk.1.1.1.1.1.1,⟨hk.1.2,hk.2⟩⟩⟩⟩)⟩,⟨by (with_reducible repeat (first|apply ra_|apply rn_|apply rd_));exact rm_ HO266.out (fun _ hk => ⟨hk.1.2,hk.2⟩)⟩,⟨by (with_reducible repeat (first|apply ra_|apply rn_|apply rd_));exact rm_ HO269.out (fun _ hk => ⟨hk.1.1.1.2,⟨hk.1.1.2,⟨hk.1.2,⟨hk.2,hk.1.1.1.1.1.1⟩⟩⟩⟩)⟩,⟨by (with_reducible repeat (first|apply ra_|apply rn_|apply rd_));exact rm_ HO272.out (fun _ hk => ⟨hk.1.1.1.2,⟨hk.1.1.2,⟨hk.1.2,⟨hk.2,hk.1.1.1.1.1.1⟩⟩⟩⟩)⟩,⟨qk_ BK228⟩,⟨qk_ BK251⟩,⟨qk_ BK262⟩,⟨qk_ BK274⟩,⟨u6_ HB GE228 GE251 GE262 GE274⟩⟩
  case rest =>
   clear HC12
   try clear c1
   try clear c2
   try clear p2
   try clear c3
   try clear c4
   try clear c4b0
   try clear c5
   try clear c6
   try clear c12
   try clear c14
   try clear c16
   try clear c23
   try clear c26
   try clear c27
   try clear c31
   try clear c32
   try clear c39
   try clear c40
   try clear c41
   try clear c47
   try clear c48
   try clear c49
   try clear c50
   try clear c52
   try clear c53
   try clear c56
   try clear c57
   try clear c58
   try clear c60
   try clear c61
   try clear hcz14_0
   try clear hcz14_1
   try clear hcz14_2
   try clear hcz14_3
   try clear hcz16_0
   try clear hcz16_1
   try clear hcz16_2
   try clear hcz16_3
   try clear hcz24_0
   try clear hcz24_1
   try clear hcz24_2
   try clear hcz24_3
   try clear hcz28_0
   try clear hcz28_1
   try clear hcz28_2
   try clear hcz28_3
   try clear hcz33_0
   try clear hcz33_1
   try clear hcz33_2
   try clear hcz33_3
   try clear hcz42_0
   try clear hcz42_1
   try clear hcz42_2
   try clear hcz42_3
   try clear hcz51_0
   try clear hcz51_1
   try clear hcz51_2
   try clear hcz51_3
   try clear hcz54_0
   try clear hcz54_1
   try clear hcz54_2
   try clear hcz54_3
   try clear hcz59_0
   try clear hcz59_1
   try clear hcz59_2
   try clear hcz59_3
   try clear hcz62_0
   try clear hcz62_1
   try clear hcz62_2
   try clear hcz62_3
   try clear hcz6_0
   try clear hcz6_1
   try clear hcz6_2
   try clear hcz6_3
   try clear hfz14_0
   try clear hfz14_1
   try clear hfz14_2
   try clear hfz14_3
   try clear hfz16_0
   try clear hfz16_1
   try clear hfz16_2
   try clear hfz16_3
   try clear hfz24_0
   try clear hfz24_1
   try clear hfz24_2
   try clear hfz24_3
   try clear hfz28_0
   try clear hfz28_1
   try clear hfz28_2
   try clear hfz28_3
   try clear hfz33_0
   try clear hfz33_1
   try clear hfz33_2
   try clear hfz33_3
   try clear hfz42_0
   try clear hfz42_1
   try clear hfz42_2
   try clear hfz42_3
   try clear hfz51_0
   try clear hfz51_1
   try clear hfz51_2
   try clear hfz51_3
   try clear hfz54_0
   try clear hfz54_1
   try clear hfz54_2
   try clear hfz54_3
   try clear hfz59_0
   try clear hfz59_1
   try clear hfz59_2
   try clear hfz59_3
   try clear hfz62_0
   try clear hfz62_1
   try clear hfz62_2
   try clear hfz62_3
   try clear hfz6_0
   try clear hfz6_1
   try clear hfz6_2
   try clear hfz6_3
   obtain ⟨kq,x44_11,rfl,HA,HJ11,z0_,z1_,z2_,z3_,z4_,z5_,z6_,z7_,z8_,BK228,BK251,BK262,BK274,HB⟩:=hcut
   cases kq with
   | zero => exact absurd HA.out (by simp [laws_FnExactCutCable.j0])
   | succ kj11 =>
    have H:=HA.out
    clear HA
    simp only [laws_FnExactCutCable.j0] at H
    by_cases c64 : x44_11 = true
    ·subst c64
     have H1 : (some false) = some r:=by rw [if_pos rfl] at H;exact H
     clear H
     have H:=H1
     clear H1
     obtain rfl:=Option.some.inj H
     go_wp2
     go_ret
     exact ⟨qe_,u6_ HB GE228 GE251 GE262 GE274⟩
    ·replace c64:=Bool.eq_false_iff.mpr c64
     subst c64
     have H1 : ((laws_toNet.f kj11 a0_0 l0_1 l0_2 l0_3).bind fun bt276 => ((laws_eqNet.f kj11 t252 t253 t256 t259 bt276.1 bt276.2.1 bt276.2.2.1 bt276.2.2.2).bind fun t286 => (if t286 = true then ((laws_markNet.f kj11 t252 t253 t256 t259 1).bind fun bt287 => (if bt287.1 < 0 then (laws_FnExactCutCable.j1 kj11 a1 t250 true a0_0 l0_1 l0_2 l0_3 t240 t241 t244 t247 t263 t264 t267 t270) else ((laws_eqNet.f kj11 t263 t264 t267 t270 t240 t241 t244 t247).bind fun t291 => (if t291 = true then (laws_FnExactCutCable.j1 kj11 a1 t250 (t273 != t250) a0_0 l0_1 l0_2 l0_3 t240 t241 t244 t247 t263 t264 t267 t270) else (laws_FnExactCutCable.j1 kj11 a1 t250 true a0_0 l0_1 l0_2 l0_3 t240 t241 t244 t247 t263 t264 t267 t270))))) else (some false)))) = some r:=by rw [if_neg (show ¬ (false = true) by decide)] at H;exact H
     clear H
     have H:=H1
     clear H1
     replace H:=Option.bind_eq_some_iff.mp H
     obtain ⟨⟨t276,t277,t280,t283⟩,A650,H⟩:=H
     replace H : ((laws_eqNet.f kj11 t252 t253 t256 t259 t276 t277 t280 t283).bind fun t286 => (if t286 = true then ((laws_markNet.f kj11 t252 t253 t256 t259 1).bind fun bt287 => (if bt287.1 < 0 then (laws_FnExactCutCable.j1 kj11 a1 t250 true a0_0 l0_1 l0_2 l0_3 t240 t241 t244 t247 t263 t264 t267 t270) else ((laws_eqNet.f kj11 t263 t264 t267 t270 t240 t241 t244 t247).bind fun t291 => (if t291 = true then (laws_FnExactCutCable.j1 kj11 a1 t250 (t273 != t250) a0_0 l0_1 l0_2 l0_3 t240 t241 t244 t247 t263 t264 t267 t270) else (laws_FnExactCutCable.j1 kj11 a1 t250 true a0_0 l0_1 l0_2 l0_3 t240 t241 t244 t247 t263 t264 t267 t270))))) else (some false))) = some r:=H
     have A65:=mk_ A650
     clear A650
     replace H:=Option.bind_eq_some_iff.mp H
     obtain ⟨t286,A660,H⟩:=H
     replace H : (if t286 = true then ((laws_markNet.f kj11 t252 t253 t256 t259 1).bind fun bt287 => (if bt287.1 < 0 then (laws_FnExactCutCable.j1 kj11 a1 t250 true a0_0 l0_1 l0_2 l0_3 t240 t241 t244 t247 t263 t264 t267 t270) else ((laws_eqNet.f kj11 t263 t264 t267 t270 t240 t241 t244 t247).bind fun t291 => (if t291 = true then (laws_FnExactCutCable.j1 kj11 a1 t250 (t273 != t250) a0_0 l0_1 l0_2 l0_3 t240 t241 t244 t247 t263 t264 t267 t270) else (laws_FnExactCutCable.j1 kj11 a1 t250 true a0_0 l0_1 l0_2 l0_3 t240 t241 t244 t247 t263 t264 t267 t270))))) else (some false)) = some r:=H
     have A66:=mk_ A660
     clear A660
     by_cases c67 : t286 = true
     ·subst c67
      have H1 : ((laws_markNet.f kj11 t252 t253 t256 t259 1).bind fun bt287 => (if bt287.1 < 0 then (laws_FnExactCutCable.j1 kj11 a1 t250 true a0_0 l0_1 l0_2 l0_3 t240 t241 t244 t247 t263 t264 t267 t270) else ((laws_eqNet.f kj11 t263 t264 t267 t270 t240 t241 t244 t247).bind fun t291 => (if t291 = true then (laws_FnExactCutCable.j1 kj11 a1 t250 (t273 != t250) a0_0 l0_1 l0_2 l0_3 t240 t241 t244 t247 t263 t264 t267 t270) else (laws_FnExactCutCable.j1 kj11 a1 t250 true a0_0 l0_1 l0_2 l0_3 t240 t241 t244 t247 t263 t264 t267 t270))))) = some r:=by rw [if_pos rfl] at H;exact H
      clear H
      have H:=H1
      clear H1
      replace H:=Option.bind_eq_some_iff.mp H
      obtain ⟨⟨t287,t288,t289,t290⟩,A680,H⟩:=H
      replace H : (if t287 < 0 then (laws_FnExactCutCable.j1 kj11 a1 t250 true a0_0 l0_1 l0_2 l0_3 t240 t241 t244 t247 t263 t264 t267 t270) else ((laws_eqNet.f kj11 t263 t264 t267 t270 t240 t241 t244 t247).bind fun t291 => (if t291 = true then (laws_FnExactCutCable.j1 kj11 a1 t250 (t273 != t250) a0_0 l0_1 l0_2 l0_3 t240 t241 t244 t247 t263 t264 t267 t270) else (laws_FnExactCutCable.j1 kj11 a1 t250 true a0_0 l0_1 l0_2 l0_3 t240 t241 t244 t247 t263 t264 t267 t270)))) = some r:=H
      have A68:=mk_ A680
      clear A680
      have HC69:=mk_ H
      clear H
      try go_wp2
      have n0_:=mk_ (rd_ z0_.out)
      have n1_:=mk_ (rd_ z1_.out)
      have n2_:=mk_ (rd_ z2_.out)
      have n3_:=mk_ (rd_ z3_.out)
      have n4_:=mk_ (rd_ z4_.out)
      have n5_:=mk_ (rd_ z5_.out)
      have n6_:=mk_ (rd_ z6_.out)
      have n7_:=mk_ (rd_ z7_.out)
      have n8_:=mk_ (rd_ z8_.out)
      have n9_:=mk_ (kd_ BK228.out)
      have n10_:=mk_ (kd_ BK251.out)
      have n11_:=mk_ (kd_ BK262.out)
      have n12_:=mk_ (kd_ BK274.out)
      have n13_:=mk_ (bd_ HB.out)
      clear z0_
      clear z1_
      clear z2_
      clear z3_
      clear z4_
      clear z5_
      clear z6_
      clear z7_
      clear z8_
      clear BK228
      clear BK251
      clear BK262
      clear BK274
      clear HB
      have z0_:=n0_
      have z1_:=n1_
      have z2_:=n2_
      have z3_:=n3_
      have z4_:=n4_
      have z5_:=n5_
      have z6_:=n6_
      have z7_:=n7_
      have z8_:=n8_
      have BK228:=n9_
      have BK251:=n10_
      have BK262:=n11_
      have BK274:=n12_
      have HB:=n13_
      clear n0_ n1_ n2_ n3_ n4_ n5_ n6_ n7_ n8_ n9_ n10_ n11_ n12_ n13_
      refine start_ (n:=5) (S:=fun w' => w'.cell? ⟨gb262,0,none⟩ = some (.int .i64 t252) ∧ w'.cell? ⟨gb262,1,none⟩ = some (.slice Ao34 t253.length co34) ∧ w'.cell? ⟨gb262,2,none⟩ = some (.slice Ao35 t256.length co35) ∧ w'.cell? ⟨gb262,3,none⟩ = some (.slice Ao36 t259.length co36) ∧ w'.cell? ⟨gb228,0,none⟩ = some (.int .i64 a0_0) ∧ w'.cell? ⟨gb228,1,none⟩ = some (.slice A0_1 l0_1.length c0_1) ∧ w'.cell? ⟨gb228,2,none⟩ = some (.slice A0_2 l0_2.length c0_2) ∧ w'.cell? ⟨gb228,3,none⟩ = some (.slice A0_3 l0_3.length c0_3)) (ds:=[]) #[false,false,false,false,false] (by kernel_rfl) rfl rfl ⟨(bc_ BK262.out 0).trans rfl,(bc_ BK262.out 1).trans rfl,(bc_ BK262.out 2).trans rfl,(bc_ BK262.out 3).trans rfl,(bc_ BK228.out 0).trans rfl,(bc_ BK228.out 1).trans rfl,(bc_ BK228.out 2).trans rfl,(bc_ BK228.out 3).trans rfl⟩ (fun hHeld => ?_)
      generalize wc.drew = w70 at z0_ z1_ z2_ z3_ z4_ z5_ z6_ z7_ z8_ BK228 BK251 BK262 BK274 HB hHeld ⊢
      refine take_ (i:=0) (N:=some 45) (v:=?_) (a':=?_) #[true,false,false,false,false] rfl rfl (by kernel_rfl) (fun _ _ _ h => h) (Or.inl ⟨by rfl,?_⟩) hHeld ?_ ?_
      rotate_left
      ·rintro w' ⟨s0,s1,s2,s3,s4,s5,s6,s7⟩
       go_simp
       with_reducible rfl
      rotate_left
      ·simp only [Act.put,sx_,sy_,sz_,i64_w,i32_w]
       rfl
      refine take_ (i:=1) (N:=some 46) (v:=?_) (a':=?_) #[true,true,false,false,false] rfl rfl (by kernel_rfl) (fun _ _ _ h => h) (Or.inl ⟨by rfl,?_⟩) hHeld ?_ ?_
      rotate_left
      ·rintro w' ⟨s0,s1,s2,s3,s4,s5,s6,s7⟩
       go_simp
       with_reducible rfl
      rotate_left
      ·simp only [Act.put,sx_,sy_,sz_,i64_w,i32_w]
       rfl
      refine one_ (i:=2) (N:=some 47) #[true,true,true,false,false] rfl rfl (by kernel_rfl) (by decide) (fun K hK => ?_)
      refine goes_ Try.func14 (by kernel_rfl) rfl #[.agg #[.int .i64 a0_0,.slice A0_1 l0_1.length c0_1,.slice A0_2 l0_2.length c0_2,.slice A0_3 l0_3.length c0_3]] (by rfl) rfl rfl qm_ ?_
      with_reducible refine (laws_toNet.calls kj11 a0_0 _ _ l0_1 _ _ l0_2 _ _ l0_3 t276 t277 t280 t283 _ ?side1 ?side2 ?side3 ?side4 ?side5 ?side6 A65.out).mono ?_
      (case side1 => exact qn_ HR0_1 HB)
      (case side2 => exact HC0_1.out)
      (case side3 => exact qn_ HR0_2 HB)
      (case side4 => exact HC0_2.out)
      (case side5 => exact qn_ HR0_3 HB)
      (case side6 => exact HC0_3.out)
      rintro e w71 ⟨v278,v281,v284,rfl,ho0,ho1,ho2,hb⟩
      refine ⟨_,rfl,?_⟩
      have n0_:=mk_ (re_ (qr_ z0_) (Kd.R_base ho0) hb)
      have n1_:=mk_ (rm_ (Kd.R_told (Kd.R_told (Kd.R_old (qr_ z1_) hb) (Kd.R_base ho1)) (Kd.R_base ho2)) (λ_ h=>h.1))
      have n2_:=mk_ (rm_ (Kd.R_told (Kd.R_told (Kd.R_old (qr_ z2_) hb) (Kd.R_base ho1)) (Kd.R_base ho2)) (λ_ h=>h.1))
      have n3_:=mk_ (re_ (qr_ z3_) (Kd.R_base ho0) hb)
      have n4_:=mk_ (rm_ (Kd.R_told (Kd.R_told (Kd.R_old (qr_ z4_) hb) (Kd.R_base ho1)) (Kd.R_base ho2)) (λ_ h=>h.1))
      have n5_:=mk_ (rm_ (Kd.R_told (Kd.R_told (Kd.R_old (qr_ z5_) hb) (Kd.R_base ho1)) (Kd.R_base ho2)) (λ_ h=>h.1))
      have n6_:=mk_ (re_ (qr_ z6_) (Kd.R_base ho0) hb)
      have n7_:=mk_ (rm_ (Kd.R_told (Kd.R_told (Kd.R_old (qr_ z7_) hb) (Kd.R_base ho1)) (Kd.R_base ho2)) (λ_ h=>h.1))
      have n8_:=mk_ (rm_ (Kd.R_told (Kd.R_told (Kd.R_old (qr_ z8_) hb) (Kd.R_base ho1)) (Kd.R_base ho2)) (λ_ h=>h.1))
      have n9_:=mk_ (Kd.R_lower (Kd.R_new' (Kd.R_new' (Kd.R_new' ho0 (Kd.R_lt (qr_ z0_))) (Kd.R_lt (qr_ z3_))) (Kd.R_lt (qr_ z6_))) (bz_ (u6_ HB GE228 GE251 GE262 GE274)))
      have n10_:=mk_ (Kd.R_lower (Kd.R_new' (Kd.R_new' (Kd.R_new' (Kd.R_new' (Kd.R_new' (Kd.R_new' ho1 (Kd.R_lt (qr_ z1_))) (Kd.R_lt (qr_ z2_))) (Kd.R_lt (qr_ z4_))) (Kd.R_lt (qr_ z5_))) (Kd.R_lt (qr_ z7_))) (Kd.R_lt (qr_ z8_))) (bz_ (u6_ HB GE228 GE251 GE262 GE274)))
      have n11_:=mk_ (Kd.R_lower (Kd.R_new' (Kd.R_new' (Kd.R_new' (Kd.R_new' (Kd.R_new' (Kd.R_new' ho2 (Kd.R_lt (qr_ z1_))) (Kd.R_lt (qr_ z2_))) (Kd.R_lt (qr_ z4_))) (Kd.R_lt (qr_ z5_))) (Kd.R_lt (qr_ z7_))) (Kd.R_lt (qr_ z8_))) (bz_ (u6_ HB GE228 GE251 GE262 GE274)))
      have n12_:=mk_ (blk_below (g:=gb228) (o:=.cells #[.int .i64 a0_0,.slice A0_1 l0_1.length c0_1,.slice A0_2 l0_2.length c0_2,.slice A0_3 l0_3.length c0_3] 25 (0,0)) (qk_ BK228) hb)
      have n13_:=mk_ (blk_below (g:=gb251) (o:=.cells #[.int .i64 t240,.slice Ao25 t241.length co25,.slice Ao26 t244.length co26,.slice Ao27 t247.length co27] 30 (0,0)) (qk_ BK251) hb)
      have n14_:=mk_ (blk_below (g:=gb262) (o:=.cells #[.int .i64 t252,.slice Ao34 t253.length co34,.slice Ao35 t256.length co35,.slice Ao36 t259.length co36] 30 (0,0)) (qk_ BK262) hb)
      have n15_:=mk_ (blk_below (g:=gb274) (o:=.cells #[.int .i64 t263,.slice Ao43 t264.length co43,.slice Ao44 t267.length co44,.slice Ao45 t270.length co45] 30 (0,0)) (qk_ BK274) hb)
      have n16_:=mk_ (st_ (u6_ HB GE228 GE251 GE262 GE274) hb)
      clear z0_
      clear z1_
      clear z2_
      clear z3_
      clear z4_
      clear z5_
      clear z6_
      clear z7_
      clear z8_
      clear BK228
      clear BK251
      clear BK262
      clear BK274
      clear HB
      have z0_:=n0_
      have z1_:=n1_
      have z2_:=n2_
      have z3_:=n3_
      have z4_:=n4_
      have z5_:=n5_
      have z6_:=n6_
      have z7_:=n7_
      have z8_:=n8_
      have HO279:=n9_
      have HO282:=n10_
      have HO285:=n11_
      have BK228:=n12_
      have BK251:=n13_
      have BK262:=n14_
      have BK274:=n15_
      have HB:=n16_
      clear n0_ n1_ n2_ n3_ n4_ n5_ n6_ n7_ n8_ n9_ n10_ n11_ n12_ n13_ n14_ n15_ n16_
      (try clear hb)
      (try clear hb2)
      (try clear hk)
      (try clear hi)
      (try clear ho0)
      (try clear ho1)
      (try clear ho2)
      obtain ⟨Ao72,co72,eo72⟩:=Kd.R_slice HO279.out
      (first|subst eo72|(injection eo72 with f1_ f2_ f3_;have f4_:=f1_.symm;have f5_:=f3_.symm;clear f1_ f2_ f3_;subst f4_;subst f5_))
      obtain ⟨Ao73,co73,eo73⟩:=Kd.R_slice HO282.out
      (first|subst eo73|(injection eo73 with f1_ f2_ f3_;have f4_:=f1_.symm;have f5_:=f3_.symm;clear f1_ f2_ f3_;subst f4_;subst f5_))
      obtain ⟨Ao74,co74,eo74⟩:=Kd.R_slice HO285.out
      (first|subst eo74|(injection eo74 with f1_ f2_ f3_;have f4_:=f1_.symm;have f5_:=f3_.symm;clear f1_ f2_ f3_;subst f4_;subst f5_))
      refine hK.out _ _ ⟨(bc_ BK262.out 0).trans rfl,(bc_ BK262.out 1).trans rfl,(bc_ BK262.out 2).trans rfl,(bc_ BK262.out 3).trans rfl,(bc_ BK228.out 0).trans rfl,(bc_ BK228.out 1).trans rfl,(bc_ BK228.out 2).trans rfl,(bc_ BK228.out 3).trans rfl⟩ (fun hHeld => ?_)
      clear hK K
      refine norm_ (a':=?_) ?_ ?_
      rotate_left
      ·show Act.put _ (some 47) _ = _
       simp only [Act.put,sx_,sy_,sz_,i64_w,i32_w]
       rfl
      refine one_ (i:=3) (N:=some 48) #[true,true,true,true,false] rfl rfl (by kernel_rfl) (by decide) (fun K hK => ?_)
      refine goes_ Try.func16 (by kernel_rfl) rfl #[.agg #[.int .i64 t252,.slice Ao34 t253.length co34,.slice Ao35 t256.length co35,.slice Ao36 t259.length co36],.agg #[.int .i64 t276,.slice Ao72 t277.length co72,.slice Ao73 t280.length co73,.slice Ao74 t283.length co74]] (by rfl) rfl rfl qm_ ?_
      with_reducible refine (laws_eqNet.calls kj11 t252 _ _ t253 _ _ t256 _ _ t259 t276 _ _ t277 _ _ t280 _ _ t283 true _ ?side1 ?side2 ?side3 ?side4 ?side5 ?side6 ?side7 ?side8 ?side9 ?side10 ?side11 ?side12 A66.out).mono ?_
      (case side1 => repeat (first|exact (rr_ z3_.out).2.2|(with_reducible refine ca_ ?_ _)|(with_reducible refine cn_ ?_ _)|(with_reducible refine cd_ ?_)))
      (case side2 => exact (rr_ z3_.out).2.1)
      (case side3 => repeat (first|exact (rr_ z4_.out).2.2|(with_reducible refine ca_ ?_ _)|(with_reducible refine cn_ ?_ _)|(with_reducible refine cd_ ?_)))
      (case side4 => exact (rr_ z4_.out).2.1)
      (case side5 => repeat (first|exact (rr_ z5_.out).2.2|(with_reducible refine ca_ ?_ _)|(with_reducible refine cn_ ?_ _)|(with_reducible refine cd_ ?_)))
      (case side6 => exact (rr_ z5_.out).2.1)
      (case side7 => repeat (first|exact (rr_ HO279.out).2.2|(with_reducible refine ca_ ?_ _)|(with_reducible refine cn_ ?_ _)|(with_reducible refine cd_ ?_)))
      (case side8 => exact (rr_ HO279.out).2.1)
      (case side9 => repeat (first|exact (rr_ HO282.out).2.2|(with_reducible refine ca_ ?_ _)|(with_reducible refine cn_ ?_ _)|(with_reducible refine cd_ ?_)))
      (case side10 => exact (rr_ HO282.out).2.1)
      (case side11 => repeat (first|exact (rr_ HO285.out).2.2|(with_reducible refine ca_ ?_ _)|(with_reducible refine cn_ ?_ _)|(with_reducible refine cd_ ?_)))
      (case side12 => exact (rr_ HO285.out).2.1)
      rintro e w75 ⟨rfl,hb⟩
      refine ⟨_,rfl,?_⟩
      have n0_:=mk_ (rb_ (qr_ z0_) hb)
      have n1_:=mk_ (rb_ (qr_ z1_) hb)
      have n2_:=mk_ (rb_ (qr_ z2_) hb)
      have n3_:=mk_ (rb_ (qr_ z3_) hb)
      have n4_:=mk_ (rb_ (qr_ z4_) hb)
      have n5_:=mk_ (rb_ (qr_ z5_) hb)
      have n6_:=mk_ (rb_ (qr_ z6_) hb)
      have n7_:=mk_ (rb_ (qr_ z7_) hb)
      have n8_:=mk_ (rb_ (qr_ z8_) hb)
      have n9_:=mk_ (rb_ (qr_ HO279) hb)
      have n10_:=mk_ (rb_ (qr_ HO282) hb)
      have n11_:=mk_ (rb_ (qr_ HO285) hb)
      have n12_:=mk_ (blk_below (g:=gb228) (o:=.cells #[.int .i64 a0_0,.slice A0_1 l0_1.length c0_1,.slice A0_2 l0_2.length c0_2,.slice A0_3 l0_3.length c0_3] 25 (0,0)) (qk_ BK228) hb)
      have n13_:=mk_ (blk_below (g:=gb251) (o:=.cells #[.int .i64 t240,.slice Ao25 t241.length co25,.slice Ao26 t244.length co26,.slice Ao27 t247.length co27] 30 (0,0)) (qk_ BK251) hb)
      have n14_:=mk_ (blk_below (g:=gb262) (o:=.cells #[.int .i64 t252,.slice Ao34 t253.length co34,.slice Ao35 t256.length co35,.slice Ao36 t259.length co36] 30 (0,0)) (qk_ BK262) hb)
      have n15_:=mk_ (blk_below (g:=gb274) (o:=.cells #[.int .i64 t263,.slice Ao43 t264.length co43,.slice Ao44 t267.length co44,.slice Ao45 t270.length co45] 30 (0,0)) (qk_ BK274) hb)
      have n16_:=mk_ (st_ (u6_ HB GE228 GE251 GE262 GE274) hb)
      clear z0_
      clear z1_
      clear z2_
      clear z3_
      clear z4_
      clear z5_
      clear z6_
      clear z7_
      clear z8_
      clear HO279
      clear HO282
      clear HO285
      clear BK228
      clear BK251
      clear BK262
      clear BK274
      clear HB
      have z0_:=n0_
      have z1_:=n1_
      have z2_:=n2_
      have z3_:=n3_
      have z4_:=n4_
      have z5_:=n5_
      have z6_:=n6_
      have z7_:=n7_
      have z8_:=n8_
      have HO279:=n9_
      have HO282:=n10_
      have HO285:=n11_
      have BK228:=n12_
      have BK251:=n13_
      have BK262:=n14_
      have BK274:=n15_
      have HB:=n16_
      clear n0_ n1_ n2_ n3_ n4_ n5_ n6_ n7_ n8_ n9_ n10_ n11_ n12_ n13_ n14_ n15_ n16_
      (try clear hb)
      (try clear hb2)
      (try clear hk)
      (try clear hi)
      refine hK.out _ _ ⟨(bc_ BK262.out 0).trans rfl,(bc_ BK262.out 1).trans rfl,(bc_ BK262.out 2).trans rfl,(bc_ BK262.out 3).trans rfl,(bc_ BK228.out 0).trans rfl,(bc_ BK228.out 1).trans rfl,(bc_ BK228.out 2).trans rfl,(bc_ BK228.out 3).trans rfl⟩ (fun hHeld => ?_)
      clear hK K
      refine norm_ (a':=?_) ?_ ?_
      rotate_left
      ·show Act.put _ (some 48) _ = _
       simp only [Act.put,sx_,sy_,sz_,i64_w,i32_w]
       rfl
      refine pure_ (i:=4) (N:=some 49) (v:=?_) (a':=?_) #[true,true,true,true,true] rfl rfl (by kernel_rfl) (fun _ _ _ h => h) (Or.inl ⟨by rfl,?_⟩) ?_ ?_
      rotate_left
      ·intro w'
       go_simp
       with_reducible rfl
      rotate_left
      ·simp only [Act.put,sx_,sy_,sz_,i64_w,i32_w]
       rfl
      refine done_ (by kernel_rfl) ?_
      have hnb76:=NB262_228.out
      have hnc76:=NB228_262.out
      have hnb77:=NB262_251.out
      have hnc77:=NB251_262.out
      have hnb78:=NB262_274.out
      have hnc78:=NB274_262.out
      have hcz79_0 : w75.cell? ⟨gb262,0,none⟩ = some (.int .i64 t252):=(bc_ BK262.out 0).trans rfl
      have hcz79_1 : w75.cell? ⟨gb262,1,none⟩ = some (.slice Ao34 t253.length co34):=(bc_ BK262.out 1).trans rfl
      have hcz79_2 : w75.cell? ⟨gb262,2,none⟩ = some (.slice Ao35 t256.length co35):=(bc_ BK262.out 2).trans rfl
      have hcz79_3 : w75.cell? ⟨gb262,3,none⟩ = some (.slice Ao36 t259.length co36):=(bc_ BK262.out 3).trans rfl
      have hfz79_0:=bf_ BK262.out 0
      have hfz79_1:=bf_ BK262.out 1
      have hfz79_2:=bf_ BK262.out 2
      have hfz79_3:=bf_ BK262.out 3
      go_upto_region 14 with (first|((with_reducible refine gate_callee (f:=23) rfl ?_);refine goesL_ (some 52) rfl rfl Try.func23 (by kernel_rfl) rfl #[.agg #[.int .i64 t252,.slice Ao34 t253.length co34,.slice Ao35 t256.length co35,.slice Ao36 t259.length co36],.int .i64 1] rfl qm_ ?_;(with_reducible refine (laws_markNet.calls kj11 t252 (fun k_ => some k_ = (.slice Ao34 t253.length co34 : Value).ownBlock) (.slice Ao34 t253.length co34) t253 (fun k_ => some k_ = (.slice Ao35 t256.length co35 : Value).ownBlock) (.slice Ao35 t256.length co35) t256 (fun k_ => some k_ = (.slice Ao36 t259.length co36 : Value).ownBlock) (.slice Ao36 t259.length co36) t259 1 t287 t288 t289 t290 w _ ?side1 ?side2 ?side3 ?side4 ?side5 ?side6 A68.out).mono ?_);(case side1 => exact u6_ HB GE228 GE251 GE262 GE274);(case side2 => exact Kd.R_tight rfl z3_.out);(case side3 => exact Kd.R_tight rfl z4_.out);(case side4 => exact fun k_ e_ => (z4_.out.1 k_ e_.symm).1.1.2.2.1);(case side5 => exact Kd.R_tight rfl z5_.out);(case side6 => exact fun k_ e_ => (z5_.out.1 k_ e_.symm).1.1.2.2.1);rintro e w80 ⟨rfl,hy0,hy1,hy2,hb,hkp⟩;refine ⟨_,rfl,?_⟩;have n0_:=mk_ (rm_ (ok':=fun k_ => some k_ ≠ (.slice Ao34 t253.length co34 : Value).ownBlock ∧ some k_ ≠ (.slice Ao43 t264.length co43 : Value).ownBlock ∧ some k_ ≠ (.slice Ao72 t277.length co72 : Value).ownBlock) (Kd.R_keptB ((Kd.R_apart' (Kd.R_apart' z0_.out (Kd.R_typed z4_.out) (by decide)) (Kd.R_typed z5_.out) (by decide))) hkp (fun k_ hk_ hs_ => Or.elim hs_ (fun e_ => (hk_.1.1.1.1) e_) (fun e_ => Or.elim e_ (fun e_ => (hk_.1.2) e_) (fun e_ => (hk_.2) e_)))) (fun k_ hk_ => ⟨hk_.1.1.1.1.1,hk_.1.1.1.1.2,hk_.1.1.1.2⟩));have n1_:=mk_ (rm_ (ok':=fun k_ => some k_ ≠ (.slice Ao27 t247.length co27 : Value).ownBlock ∧ some k_ ≠ (.slice Ao35 t256.length co35 : Value).ownBlock ∧ some k_ ≠ (.slice Ao36 t259.length co36 : Value).ownBlock ∧ some k_ ≠ (.slice Ao44 t267.length co44 : Value).ownBlock ∧ some k_ ≠ (.slice Ao45 t270.length co45 : Value).ownBlock ∧ some k_ ≠ (.slice Ao73 t280.length co73 : Value).ownBlock ∧ some k_ ≠ (.slice Ao74 t283.length co74 : Value).ownBlock) (Kd.R_keptB ((Kd.R_apart' z1_.out (Kd.R_typed z3_.out) (by decide))) hkp (fun k_ hk_ hs_ => Or.elim hs_ (fun e_ => (hk_.2) e_) (fun e_ => Or.elim e_ (fun e_ => (hk_.1.1.1.2.1) e_) (fun e_ => (hk_.1.1.1.2.2.1) e_)))) (fun k_ hk_ => ⟨hk_.1.1.1.1.1,hk_.1.1.1.1.2.1,hk_.1.1.1.1.2.2.1,hk_.1.1.1.1.2.2.2.1,hk_.1.1.1.1.2.2.2.2,hk_.1.1.1.2,hk_.1.1.2⟩));have n2_:=mk_ (rm_ (ok':=fun k_ => some k_ ≠ (.slice Ao26 t244.length co26 : Value).ownBlock ∧ some k_ ≠ (.slice Ao35 t256.length co35 : Value).ownBlock ∧ some k_ ≠ (.slice Ao36 t259.length co36 : Value).ownBlock ∧ some k_ ≠ (.slice Ao44 t267.length co44 : Value).ownBlock ∧ some k_ ≠ (.slice Ao45 t270.length co45 : Value).ownBlock ∧ some k_ ≠ (.slice Ao73 t280.length co73 : Value).ownBlock ∧ some k_ ≠ (.slice Ao74 t283.length co74 : Value).ownBlock) (Kd.R_keptB ((Kd.R_apart' z2_.out (Kd.R_typed z3_.out) (by decide))) hkp (fun k_ hk_ hs_ => Or.elim hs_ (fun e_ => (hk_.2) e_) (fun e_ => Or.elim e_ (fun e_ => (hk_.1.1.1.2.1) e_) (fun e_ => (hk_.1.1.1.2.2.1) e_)))) (fun k_ hk_ => ⟨hk_.1.1.1.1.1,hk_.1.1.1.1.2.1,hk_.1.1.1.1.2.2.1,hk_.1.1.1.1.2.2.2.1,hk_.1.1.1.1.2.2.2.2,hk_.1.1.1.2,hk_.1.1.2⟩));have n3_:=mk_ (Kd.R_reok rfl hy0 (fun k_ e_ => z3_.out.1 k_ e_));have n4_:=mk_ (Kd.R_reok rfl hy1 (fun k_ e_ => z4_.out.1 k_ e_));have n5_:=mk_ (Kd.R_reok rfl hy2 (fun k_ e_ => z5_.out.1 k_ e_));have n6_:=mk_ (rm_ (ok':=fun k_ => some k_ ≠ (.slice Ao25 t241.length co25 : Value).ownBlock ∧ some k_ ≠ (.slice Ao34 t253.length co34 : Value).ownBlock ∧ some k_ ≠ (.slice Ao72 t277.length co72 : Value).ownBlock) (Kd.R_keptB ((Kd.R_apart' (Kd.R_apart' z6_.out (Kd.R_typed z4_.out) (by decide)) (Kd.R_typed z5_.out) (by decide))) hkp (fun k_ hk_ hs_ => Or.elim hs_ (fun e_ => (hk_.1.1.1.2) e_) (fun e_ => Or.elim e_ (fun e_ => (hk_.1.2) e_) (fun e_ => (hk_.2) e_)))) (fun k_ hk_ => ⟨hk_.1.1.1.1.1,hk_.1.1.1.1.2,hk_.1.1.1.2⟩));have n7_:=mk_ (rm_ (ok':=fun k_ => some k_ ≠ (.slice Ao26 t244.length co26 : Value).ownBlock ∧ some k_ ≠ (.slice Ao27 t247.length co27 : Value).ownBlock ∧ some k_ ≠ (.slice Ao35 t256.length co35 : Value).ownBlock ∧ some k_ ≠ (.slice Ao36 t259.length co36 : Value).ownBlock ∧ some k_ ≠ (.slice Ao45 t270.length co45 : Value).ownBlock ∧ some k_ ≠ (.slice Ao73 t280.length co73 : Value).ownBlock ∧ some k_ ≠ (.slice Ao74 t283.length co74 : Value).ownBlock) (Kd.R_keptB ((Kd.R_apart' z7_.out (Kd.R_typed z3_.out) (by decide))) hkp (fun k_ hk_ hs_ => Or.elim hs_ (fun e_ => (hk_.2) e_) (fun e_ => Or.elim e_ (fun e_ => (hk_.1.1.1.2.2.1) e_) (fun e_ => (hk_.1.1.1.2.2.2.1) e_)))) (fun k_ hk_ => ⟨hk_.1.1.1.1.1,hk_.1.1.1.1.2.1,hk_.1.1.1.1.2.2.1,hk_.1.1.1.1.2.2.2.1,hk_.1.1.1.1.2.2.2.2,hk_.1.1.1.2,hk_.1.1.2⟩));have n8_:=mk_ (rm_ (ok':=fun k_ => some k_ ≠ (.slice Ao26 t244.length co26 : Value).ownBlock ∧ some k_ ≠ (.slice Ao27 t247.length co27 : Value).ownBlock ∧ some k_ ≠ (.slice Ao35 t256.length co35 : Value).ownBlock ∧ some k_ ≠ (.slice Ao36 t259.length co36 : Value).ownBlock ∧ some k_ ≠ (.slice Ao44 t267.length co44 : Value).ownBlock ∧ some k_ ≠ (.slice Ao73 t280.length co73 : Value).ownBlock ∧ some k_ ≠ (.slice Ao74 t283.length co74 : Value).ownBlock) (Kd.R_keptB ((Kd.R_apart' z8_.out (Kd.R_typed z3_.out) (by decide))) hkp (fun k_ hk_ hs_ => Or.elim hs_ (fun e_ => (hk_.2) e_) (fun e_ => Or.elim e_ (fun e_ => (hk_.1.1.1.2.2.1) e_) (fun e_ => (hk_.1.1.1.2.2.2.1) e_)))) (fun k_ hk_ => ⟨hk_.1.1.1.1.1,hk_.1.1.1.1.2.1,hk_.1.1.1.1.2.2.1,hk_.1.1.1.1.2.2.2.1,hk_.1.1.1.1.2.2.2.2,hk_.1.1.1.2,hk_.1.1.2⟩));have n9_:=mk_ (blk_kept (qk_ BK228) hkp (fun hs_ => Or.elim hs_ (fun e_ => (fun e_ => (Kd.R_ne z3_.out BK228.out (by decide)) e_) e_) (fun e_ => Or.elim e_ (fun e_ => (fun e_ => (Kd.R_ne z4_.out BK228.out (by decide)) e_) e_) (fun e_ => (fun e_ => (Kd.R_ne z5_.out BK228.out (by decide)) e_) e_))));have n10_:=mk_ (blk_kept (qk_ BK251) hkp (fun hs_ => Or.elim hs_ (fun e_ => (fun e_ => (Kd.R_ne z3_.out BK251.out (by decide)) e_) e_) (fun e_ => Or.elim e_ (fun e_ => (fun e_ => (Kd.R_ne z4_.out BK251.out (by decide)) e_) e_) (fun e_ => (fun e_ => (Kd.R_ne z5_.out BK251.out (by decide)) e_) e_))));have n11_:=mk_ (blk_kept (qk_ BK262) hkp (fun hs_ => Or.elim hs_ (fun e_ => (fun e_ => (Kd.R_ne z3_.out BK262.out (by decide)) e_) e_) (fun e_ => Or.elim e_ (fun e_ => (fun e_ => (Kd.R_ne z4_.out BK262.out (by decide)) e_) e_) (fun e_ => (fun e_ => (Kd.R_ne z5_.out BK262.out (by decide)) e_) e_))));have n12_:=mk_ (blk_kept (qk_ BK274) hkp (fun hs_ => Or.elim hs_ (fun e_ => (fun e_ => (Kd.R_ne z3_.out BK274.out (by decide)) e_) e_) (fun e_ => Or.elim e_ (fun e_ => (fun e_ => (Kd.R_ne z4_.out BK274.out (by decide)) e_) e_) (fun e_ => (fun e_ => (Kd.R_ne z5_.out BK274.out (by decide)) e_) e_))));have n13_:=mk_ (rm_ (ok':=fun k_ => some k_ ≠ (.slice Ao25 t241.length co25 : Value).ownBlock ∧ some k_ ≠ (.slice Ao34 t253.length co34 : Value).ownBlock ∧ some k_ ≠ (.slice Ao43 t264.length co43 : Value).ownBlock) (Kd.R_keptB ((Kd.R_apart' (Kd.R_apart' HO279.out (Kd.R_typed z4_.out) (by decide)) (Kd.R_typed z5_.out) (by decide))) hkp (fun k_ hk_ hs_ => Or.elim hs_ (fun e_ => (hk_.1.1.1.2) e_) (fun e_ => Or.elim e_ (fun e_ => (hk_.1.2) e_) (fun e_ => (hk_.2) e_)))) (fun k_ hk_ => ⟨hk_.1.1.1.1.1.2,hk_.1.1.1.1.2,hk_.1.1.1.2⟩));have n14_:=mk_ (rm_ (ok':=fun k_ => some k_ ≠ (.slice Ao26 t244.length co26 : Value).ownBlock ∧ some k_ ≠ (.slice Ao27 t247.length co27 : Value).ownBlock ∧ some k_ ≠ (.slice Ao35 t256.length co35 : Value).ownBlock ∧ some k_ ≠ (.slice Ao36 t259.length co36 : Value).ownBlock ∧ some k_ ≠ (.slice Ao44 t267.length co44 : Value).ownBlock ∧ some k_ ≠ (.slice Ao45 t270.length co45 : Value).ownBlock ∧ some k_ ≠ (.slice Ao74 t283.length co74 : Value).ownBlock) (Kd.R_keptB ((Kd.R_apart' HO282.out (Kd.R_typed z3_.out) (by decide))) hkp (fun k_ hk_ hs_ => Or.elim hs_ (fun e_ => (hk_.2) e_) (fun e_ => Or.elim e_ (fun e_ => (hk_.1.1.1.1.2) e_) (fun e_ => (hk_.1.1.1.2) e_)))) (fun k_ hk_ => ⟨hk_.1.1.1.1.1.1.1.2,hk_.1.1.1.1.1.1.2,hk_.1.1.1.1.1.2,hk_.1.1.1.1.2,hk_.1.1.1.2,hk_.1.1.2,hk_.1.1.1.1.1.1.1.1⟩));have n15_:=mk_ (rm_ (ok':=fun k_ => some k_ ≠ (.slice Ao26 t244.length co26 : Value).ownBlock ∧ some k_ ≠ (.slice Ao27 t247.length co27 : Value).ownBlock ∧ some k_ ≠ (.slice Ao35 t256.length co35 : Value).ownBlock ∧ some k_ ≠ (.slice Ao36 t259.length co36 : Value).ownBlock ∧ some k_ ≠ (.slice Ao44 t267.length co44 : Value).ownBlock ∧ some k_ ≠ (.slice Ao45 t270.length co45 : Value).ownBlock ∧ some k_ ≠ (.slice Ao73 t280.length co73 : Value).ownBlock) (Kd.R_keptB ((Kd.R_apart' HO285.out (Kd.R_typed z3_.out) (by decide))) hkp (fun k_ hk_ hs_ => Or.elim hs_ (fun e_ => (hk_.2) e_) (fun e_ => Or.elim e_ (fun e_ => (hk_.1.1.1.1.2) e_) (fun e_ => (hk_.1.1.1.2) e_)))) (fun k_ hk_ => ⟨hk_.1.1.1.1.1.1.1.2,hk_.1.1.1.1.1.1.2,hk_.1.1.1.1.1.2,hk_.1.1.1.1.2,hk_.1.1.1.2,hk_.1.1.2,hk_.1.1.1.1.1.1.1.1⟩));have n16_:=mk_ (hb);clear z0_ z1_ z2_ z3_ z4_ z5_ z6_ z7_ z8_ BK228 BK251 BK262 BK274 HO279 HO282 HO285 HB;have z0_:=n0_;have z1_:=n1_;have z2_:=n2_;have z3_:=n3_;have z4_:=n4_;have z5_:=n5_;have z6_:=n6_;have z7_:=n7_;have z8_:=n8_;have BK228:=n9_;have BK251:=n10_;have BK262:=n11_;have BK274:=n12_;have HO279:=n13_;have HO282:=n14_;have HO285:=n15_;have HB:=n16_;clear n0_ n1_ n2_ n3_ n4_ n5_ n6_ n7_ n8_ n9_ n10_ n11_ n12_ n13_ n14_ n15_ n16_;(try clear hb);(try clear hkp);(try clear hy0);(try clear hy1);(try clear hy2)))
      (try simp only [Act.put,sx_,sy_,sz_])
      go_cut [65] (fun v65 wc => ∃ (kq : Nat) (x65_68 : Bool),v65 = .bool x65_68 ∧ Aside0 (laws_FnExactCutCable.j1 kq a1 t250 x65_68 a0_0 l0_1 l0_2 l0_3 t240 t241 t244 t247 t263 t264 t267 t270 = some r) ∧ Aside0 (kq ≤ kj11) ∧ Aside0 (Kd.R k51 51 wc w.heap.size (fun k_ => some k_ ≠ ((.slice Ao34 t253.length co34) : Value).ownBlock ∧ some k_ ≠ ((.slice Ao43 t264.length co43) : Value).ownBlock) (.slice Ao25 t241.length co25) t241) ∧ Aside0 (Kd.R (Kd.int .i64) 3 wc w.heap.size (fun k_ => some k_ ≠ ((.slice Ao27 t247.length co27) : Value).ownBlock ∧ some k_ ≠ ((.slice Ao35 t256.length co35) : Value).ownBlock ∧ some k_ ≠ ((.slice Ao36 t259.length co36) : Value).ownBlock ∧ some k_ ≠ ((.slice Ao44 t267.length co44) : Value).ownBlock ∧ some k_ ≠ ((.slice Ao45 t270.length co45) : Value).ownBlock) (.slice Ao26 t244.length co26) t244) ∧ Aside0 (Kd.R (Kd.int .i64) 3 wc w.heap.size (fun k_ => some k_ ≠ ((.slice Ao26 t244.length co26) : Value).ownBlock ∧ some k_ ≠ ((.slice Ao35 t256.length co35) : Value).ownBlock ∧ some k_ ≠ ((.slice Ao36 t259.length co36) : Value).ownBlock ∧ some k_ ≠ ((.slice Ao44 t267.length co44) : Value).ownBlock ∧ some k_ ≠ ((.slice Ao45 t270.length co45) : Value).ownBlock) (.slice Ao27 t247.length co27) t247) ∧ Aside0 (Kd.R k51 51 wc w.heap.size (fun k_ => some k_ ≠ ((.slice Ao25 t241.length co25) : Value).ownBlock ∧ some k_ ≠ ((.slice Ao43 t264.length co43) : Value).ownBlock) (.slice Ao34 t253.length co34) t288) ∧ Aside0 (Kd.R (Kd.int .i64) 3 wc w.heap.size (fun k_ => some k_ ≠ ((.slice Ao26 t244.length co26) : Value).ownBlock ∧ some k_ ≠ ((.slice Ao27 t247.length co27) : Value).ownBlock ∧ some k_ ≠ ((.slice Ao36 t259.length co36) : Value).ownBlock ∧ some k_ ≠ ((.slice Ao44 t267.length co44) : Value).ownBlock ∧ some k_ ≠ ((.slice Ao45 t270.length co45) : Value).ownBlock) (.slice Ao35 t256.length co35) t289) ∧ Aside0 (Kd.R (Kd.int .i64) 3 wc w.heap.size (fun k_ => some k_ ≠ ((.slice Ao26 t244.length co26) : Value).ownBlock ∧ some k_ ≠ ((.slice Ao27 t247.length co27) : Value).ownBlock ∧ some k_ ≠ ((.slice Ao35 t256.length co35) : Value).ownBlock ∧ some k_ ≠ ((.slice Ao44 t267.length co44) : Value).ownBlock ∧ some k_ ≠ ((.slice Ao45 t270.length co45) : Value).ownBlock) (.slice Ao36 t259.length co36) t290) ∧ Aside0 (Kd.R k51 51 wc w.heap.size (fun k_ => some k_ ≠ ((.slice Ao25 t241.length co25) : Value).ownBlock ∧ some k_ ≠ ((.slice Ao34 t253.length co34) : Value).ownBlock) (.slice Ao43 t264.length co43) t264) ∧ Aside0 (Kd.R (Kd.int .i64) 3 wc w.heap.size (fun k_ => some k_ ≠ ((.slice Ao26 t244.length co26) : Value).ownBlock ∧ some k_ ≠ ((.slice Ao27 t247.length co27) : Value).ownBlock ∧ some k_ ≠ ((.slice Ao35 t256.length co35) : Value).ownBlock ∧ some k_ ≠ ((.slice Ao36 t259.length co36) : Value).ownBlock ∧ some k_ ≠ ((.slice Ao45 t270.length co45) : Value).ownBlock) (.slice Ao44 t267.length co44) t267) ∧ Aside0 (Kd.R (Kd.int .i64) 3 wc w.heap.size (fun k_ => some k_ ≠ ((.slice Ao26 t244.length co26) : Value).ownBlock ∧ some k_ ≠ ((.slice Ao27 t247.length co27) : Value).ownBlock ∧ some k_ ≠ ((.slice Ao35 t256.length co35) : Value).ownBlock ∧ some k_ ≠ ((.slice Ao36 t259.length co36) : Value).ownBlock ∧ some k_ ≠ ((.slice Ao44 t267.length co44) : Value).ownBlock) (.slice Ao45 t270.length co45) t270) ∧ Aside0 (wc.heap[gb228]? = some (.cells #[.int .i64 a0_0,(.slice A0_1 l0_1.length c0_1),(.slice A0_2 l0_2.length c0_2),(.slice A0_3 l0_3.length c0_3)] 25 (0,0))) ∧ Aside0 (wc.heap[gb251]? = some (.cells #[.int .i64 t240,(.slice Ao25 t241.length co25),(.slice Ao26 t244.length co26),(.slice Ao27 t247.length co27)] 30 (0,0))) ∧ Aside0 (wc.heap[gb262]? = some (.cells #[.int .i64 t252,(.slice Ao34 t253.length co34),(.slice Ao35 t256.length co35),(.slice Ao36 t259.length co36)] 30 (0,0))) ∧ Aside0 (wc.heap[gb274]? = some (.cells #[.int .i64 t263,(.slice Ao43 t264.length co43),(.slice Ao44 t267.length co44),(.slice Ao45 t270.length co45)] 30 (0,0))) ∧ Aside0 (Below w.heap.size w wc))
      case first =>
       have H:=HC69.out
       clear HC69
       by_cases c81 : t287 < 0
       ·rw [if_pos c81] at H
        have c81b0 : decide (t287 < 0) = true:=decide_eq_true c81
        clear c81
        (first|rw [c81b0]|(simp only [i64_w,i32_w];rw [c81b0])|skip)
        have H':=mk_ H
        clear H
        go_wp2
        go_meet
        case rel => exact ⟨_,(true),qf_,H',⟨by have:=HJ11.out;first|omega|exact Nat.le_refl _⟩,⟨by (with_reducible repeat (first|apply ra_|apply rn_|apply rd_));exact rm_ z0_.out (fun _ hk => ⟨hk.1,hk.2.1⟩)⟩,⟨by (with_reducible repeat (first|apply ra_|apply rn_|apply rd_));exact rm_ z1_.out (fun _ hk => ⟨hk.1,⟨hk.2.1,⟨hk.2.2.1,⟨hk.2.2.2.1,hk.2.2.2.2.1⟩⟩⟩⟩)⟩,⟨by (with_reducible repeat (first|apply ra_|apply rn_|apply rd_));exact rm_ z2_.out (fun _ hk => ⟨hk.1,⟨hk.2.1,⟨hk.2.2.1,⟨hk.2.2.2.1,hk.2.2.2.2.1⟩⟩⟩⟩)⟩,⟨by (with_reducible repeat (first|apply ra_|apply rn_|apply rd_));exact rm_ z3_.out (fun _ hk => ⟨hk.1.1,hk.1.2⟩)⟩,⟨by (with_reducible repeat (first|apply ra_|apply rn_|apply rd_));exact rm_ z4_.out (fun _ hk => ⟨hk.1.1.1,⟨hk.1.1.2.1,⟨hk.1.1.2.2.1,⟨hk.1.1.2.2.2.1,hk.1.1.2.2.2.2⟩⟩⟩⟩)⟩,⟨by (with_reducible repeat (first|apply ra_|apply rn_|apply rd_));exact rm_ z5_.out (fun _ hk => ⟨hk.1.1.1,⟨hk.1.1.2.1,⟨hk.1.1.2.2.1,⟨hk.1.1.2.2.2.1,hk.1.1.2.2.2.2⟩⟩⟩⟩)⟩,⟨by (with_reducible repeat (first|apply ra_|apply rn_|apply rd_));exact rm_ z6_.out (fun _ hk => ⟨hk.1,hk.2.1⟩)⟩,⟨by (with_reducible repeat (first|apply ra_|apply rn_|apply rd_));exact rm_ z7_.out (fun _ hk => ⟨hk.1,⟨hk.2.1,⟨hk.2.2.1,⟨hk.2.2.2.1,hk.2.2.2.2.1⟩⟩⟩⟩)⟩,⟨by (with_reducible repeat (first|apply ra_|apply rn_|apply rd_));exact rm_ z8_.out (fun _ hk => ⟨hk.1,⟨hk.2.1,⟨hk.2.2.1,⟨hk.2.2.2.1,hk.2.2.2.2.1⟩⟩⟩⟩)⟩,⟨qk_ BK228⟩,⟨qk_ BK251⟩,⟨qk_ BK262⟩,⟨qk_ BK274⟩,⟨u6_ HB GE228 GE251 GE262 GE274⟩⟩
       ·rw [if_neg c81] at H
        have c81b0 : decide (t287 < 0) = false:=decide_eq_false c81
        clear c81
        (first|rw [c81b0]|(simp only [i64_w,i32_w];rw [c81b0])|skip)
        replace H:=Option.bind_eq_some_iff.mp H
        obtain ⟨t291,A820,H⟩:=H
        replace H : (if t291 = true then (laws_FnExactCutCable.j1 kj11 a1 t250 (t273 != t250) a0_0 l0_1 l0_2 l0_3 t240 t241 t244 t247 t263 t264 t267 t270) else (laws_FnExactCutCable.j1 kj11 a1 t250 true a0_0 l0_1 l0_2 l0_3 t240 t241 t244 t247 t263 t264 t267 t270)) = some r:=H
        have A82:=mk_ A820
        clear A820
        by_cases c83 : t291 = true
        ·subst c83
         have H1 : (laws_FnExactCutCable.j1 kj11 a1 t250 (t273 != t250) a0_0 l0_1 l0_2 l0_3 t240 t241 t244 t247 t263 t264 t267 t270) = some r:=by rw [if_pos rfl] at H;exact H
         clear H
         have H:=H1
         clear H1
         have H':=mk_ H
         clear H
         have hnb84:=NB274_228.out
         have hnc84:=NB228_274.out
         have hnb85:=NB274_251.out
         have hnc85:=NB251_274.out
         have hnb86:=NB274_262.out
         have hnc86:=NB262_274.out
         have hcz87_0 : w80.cell? ⟨gb274,0,none⟩ = some (.int .i64 t263):=(bc_ BK274.out 0).trans rfl
         have hcz87_1 : w80.cell? ⟨gb274,1,none⟩ = some (.slice Ao43 t264.length co43):=(bc_ BK274.out 1).trans rfl
         have hcz87_2 : w80.cell? ⟨gb274,2,none⟩ = some (.slice Ao44 t267.length co44):=(bc_ BK274.out 2).trans rfl
         have hcz87_3 : w80.cell? ⟨gb274,3,none⟩ = some (.slice Ao45 t270.length co45):=(bc_ BK274.out 3).trans rfl
         have hfz87_0:=bf_ BK274.out 0
         have hfz87_1:=bf_ BK274.out 1
         have hfz87_2:=bf_ BK274.out 2
         have hfz87_3:=bf_ BK274.out 3
         have hnb88:=NB251_228.out
         have hnc88:=NB228_251.out
         have hnb89:=NB251_262.out
         have hnc89:=NB262_251.out
         have hcz90_0 : w80.cell? ⟨gb251,0,none⟩ = some (.int .i64 t240):=(bc_ BK251.out 0).trans rfl
         have hcz90_1 : w80.cell? ⟨gb251,1,none⟩ = some (.slice Ao25 t241.length co25):=(bc_ BK251.out 1).trans rfl
         have hcz90_2 : w80.cell? ⟨gb251,2,none⟩ = some (.slice Ao26 t244.length co26):=(bc_ BK251.out 2).trans rfl
         have hcz90_3 : w80.cell? ⟨gb251,3,none⟩ = some (.slice Ao27 t247.length co27):=(bc_ BK251.out 3).trans rfl
         have hfz90_0:=bf_ BK251.out 0
         have hfz90_1:=bf_ BK251.out 1
         have hfz90_2:=bf_ BK251.out 2
         have hfz90_3:=bf_ BK251.out 3
         go_wp2_with (first|(go_at_call 16;(with_reducible refine (laws_eqNet.calls kj11 t263 _ _ t264 _ _ t267 _ _ t270 t240 _ _ t241 _ _ t244 _ _ t247 true _ ?side1 ?side2 ?side3 ?side4 ?side5 ?side6 ?side7 ?side8 ?side9 ?side10 ?side11 ?side12 A82.out).mono ?_);(case side1 => repeat (first|exact (rr_ z6_.out).2.2|(with_reducible refine ca_ ?_ _)|(with_reducible refine cn_ ?_ _)|(with_reducible refine cd_ ?_)));(case side2 => exact (rr_ z6_.out).2.1);(case side3 => repeat (first|exact (rr_ z7_.out).2.2|(with_reducible refine ca_ ?_ _)|(with_reducible refine cn_ ?_ _)|(with_reducible refine cd_ ?_)));(case side4 => exact (rr_ z7_.out).2.1);(case side5 => repeat (first|exact (rr_ z8_.out).2.2|(with_reducible refine ca_ ?_ _)|(with_reducible refine cn_ ?_ _)|(with_reducible refine cd_ ?_)));(case side6 => exact (rr_ z8_.out).2.1);(case side7 => repeat (first|exact (rr_ z0_.out).2.2|(with_reducible refine ca_ ?_ _)|(with_reducible refine cn_ ?_ _)|(with_reducible refine cd_ ?_)));(case side8 => exact (rr_ z0_.out).2.1);(case side9 => repeat (first|exact (rr_ z1_.out).2.2|(with_reducible refine ca_ ?_ _)|(with_reducible refine cn_ ?_ _)|(with_reducible refine cd_ ?_)));(case side10 => exact (rr_ z1_.out).2.1);(case side11 => repeat (first|exact (rr_ z2_.out).2.2|(with_reducible refine ca_ ?_ _)|(with_reducible refine cn_ ?_ _)|(with_reducible refine cd_ ?_)));(case side12 => exact (rr_ z2_.out).2.1);rintro e w91 ⟨rfl,hb⟩;have n0_:=mk_ (rb_ (qr_ z0_) hb);have n1_:=mk_ (rb_ (qr_ z1_) hb);have n2_:=mk_ (rb_ (qr_ z2_) hb);have n3_:=mk_ (rb_ (qr_ z3_) hb);have n4_:=mk_ (rb_ (qr_ z4_) hb);have n5_:=mk_ (rb_ (qr_ z5_) hb);have n6_:=mk_ (rb_ (qr_ z6_) hb);have n7_:=mk_ (rb_ (qr_ z7_) hb);have n8_:=mk_ (rb_ (qr_ z8_) hb);have n9_:=mk_ (rb_ (qr_ HO279) hb);have n10_:=mk_ (rb_ (qr_ HO282) hb);have n11_:=mk_ (rb_ (qr_ HO285) hb);have n12_:=mk_ (blk_below (g:=gb228) (o:=.cells #[.int .i64 a0_0,.slice A0_1 l0_1.length c0_1,.slice A0_2 l0_2.length c0_2,.slice A0_3 l0_3.length c0_3] 25 (0,0)) (qk_ BK228) hb);have n13_:=mk_ (blk_below (g:=gb251) (o:=.cells #[.int .i64 t240,.slice Ao25 t241.length co25,.slice Ao26 t244.length co26,.slice Ao27 t247.length co27] 30 (0,0)) (qk_ BK251) hb);have n14_:=mk_ (blk_below (g:=gb262) (o:=.cells #[.int .i64 t252,.slice Ao34 t253.length co34,.slice Ao35 t256.length co35,.slice Ao36 t259.length co36] 30 (0,0)) (qk_ BK262) hb);have n15_:=mk_ (blk_below (g:=gb274) (o:=.cells #[.int .i64 t263,.slice Ao43 t264.length co43,.slice Ao44 t267.length co44,.slice Ao45 t270.length co45] 30 (0,0)) (qk_ BK274) hb);have n16_:=mk_ (st_ (u6_ HB GE228 GE251 GE262 GE274) hb);clear z0_ z1_ z2_ z3_ z4_ z5_ z6_ z7_ z8_ HO279 HO282 HO285 BK228 BK251 BK262 BK274 HB;have z0_:=n0_;have z1_:=n1_;have z2_:=n2_;have z3_:=n3_;have z4_:=n4_;have z5_:=n5_;have z6_:=n6_;have z7_:=n7_;have z8_:=n8_;have HO279:=n9_;have HO282:=n10_;have HO285:=n11_;have BK228:=n12_;have BK251:=n13_;have BK262:=n14_;have BK274:=n15_;have HB:=n16_;clear n0_ n1_ n2_ n3_ n4_ n5_ n6_ n7_ n8_ n9_ n10_ n11_ n12_ n13_ n14_ n15_ n16_;(try clear hb);(try clear hb2);(try clear hk);(try clear hi)))
         go_meet
         case rel => exact ⟨_,((t273 != t250)),qf_,H',⟨by have:=HJ11.out;first|omega|exact Nat.le_refl _⟩,⟨by (with_reducible repeat (first|apply ra_|apply rn_|apply rd_));exact rm_ z0_.out (fun _ hk => ⟨hk.1,hk.2.1⟩)⟩,⟨by (with_reducible repeat (first|apply ra_|apply rn_|apply rd_));exact rm_ z1_.out (fun _ hk => ⟨hk.1,⟨hk.2.1,⟨hk.2.2.1,⟨hk.2.2.2.1,hk.2.2.2.2.1⟩⟩⟩⟩)⟩,⟨by (with_reducible repeat (first|apply ra_|apply rn_|apply rd_));exact rm_ z2_.out (fun _ hk => ⟨hk.1,⟨hk.2.1,⟨hk.2.2.1,⟨hk.2.2.2.1,hk.2.2.2.2.1⟩⟩⟩⟩)⟩,⟨by (with_reducible repeat (first|apply ra_|apply rn_|apply rd_));exact rm_ z3_.out (fun _ hk => ⟨hk.1.1,hk.1.2⟩)⟩,⟨by (with_reducible repeat (first|apply ra_|apply rn_|apply rd_));exact rm_ z4_.out (fun _ hk => ⟨hk.1.1.1,⟨hk.1.1.2.1,⟨hk.1.1.2.2.1,⟨hk.1.1.2.2.2.1,hk.1.1.2.2.2.2⟩⟩⟩⟩)⟩,⟨by (with_reducible repeat (first|apply ra_|apply rn_|apply rd_));exact rm_ z5_.out (fun _ hk => ⟨hk.1.1.1,⟨hk.1.1.2.1,⟨hk.1.1.2.2.1,⟨hk.1.1.2.2.2.1,hk.1.1.2.2.2.2⟩⟩⟩⟩)⟩,⟨by (with_reducible repeat (first|apply ra_|apply rn_|apply rd_));exact rm_ z6_.out (fun _ hk => ⟨hk.1,hk.2.1⟩)⟩,⟨by (with_reducible repeat (first|apply ra_|apply rn_|apply rd_));exact rm_ z7_.out (fun _ hk => ⟨hk.1,⟨hk.2.1,⟨hk.2.2.1,⟨hk.2.2.2.1,hk.2.2.2.2.1⟩⟩⟩⟩)⟩,⟨by (with_reducible repeat (first|apply ra_|apply rn_|apply rd_));exact rm_ z8_.out (fun _ hk => ⟨hk.1,⟨hk.2.1,⟨hk.2.2.1,⟨hk.2.2.2.1,hk.2.2.2.2.1⟩⟩⟩⟩)⟩,⟨qk_ BK228⟩,⟨qk_ BK251⟩,⟨qk_ BK262⟩,⟨qk_ BK274⟩,⟨u6_ HB GE228 GE251 GE262 GE274⟩⟩
        ·replace c83:=Bool.eq_false_iff.mpr c83
         subst c83
         have H1 : (laws_FnExactCutCable.j1 kj11 a1 t250 true a0_0 l0_1 l0_2 l0_3 t240 t241 t244 t247 t263 t264 t267 t270) = some r:=by rw [if_neg (show ¬ (false = true) by decide)] at H;exact H
         clear H
         have H:=H1
         clear H1
         have H':=mk_ H
         clear H
         have hnb92:=NB274_228.out
         have hnc92:=NB228_274.out
         have hnb93:=NB274_251.out
         have hnc93:=NB251_274.out
         have hnb94:=NB274_262.out
         have hnc94:=NB262_274.out
         have hcz95_0 : w80.cell? ⟨gb274,0,none⟩ = some (.int .i64 t263):=(bc_ BK274.out 0).trans rfl
         have hcz95_1 : w80.cell? ⟨gb274,1,none⟩ = some (.slice Ao43 t264.length co43):=(bc_ BK274.out 1).trans rfl
         have hcz95_2 : w80.cell? ⟨gb274,2,none⟩ = some (.slice Ao44 t267.length co44):=(bc_ BK274.out 2).trans rfl
         have hcz95_3 : w80.cell? ⟨gb274,3,none⟩ = some (.slice Ao45 t270.length co45):=(bc_ BK274.out 3).trans rfl
         have hfz95_0:=bf_ BK274.out 0
         have hfz95_1:=bf_ BK274.out 1
         have hfz95_2:=bf_ BK274.out 2
         have hfz95_3:=bf_ BK274.out 3
         have hnb96:=NB251_228.out
         have hnc96:=NB228_251.out
         have hnb97:=NB251_262.out
         have hnc97:=NB262_251.out
         have hcz98_0 : w80.cell? ⟨gb251,0,none⟩ = some (.int .i64 t240):=(bc_ BK251.out 0).trans rfl
         have hcz98_1 : w80.cell? ⟨gb251,1,none⟩ = some (.slice Ao25 t241.length co25):=(bc_ BK251.out 1).trans rfl
         have hcz98_2 : w80.cell? ⟨gb251,2,none⟩ = some (.slice Ao26 t244.length co26):=(bc_ BK251.out 2).trans rfl
         have hcz98_3 : w80.cell? ⟨gb251,3,none⟩ = some (.slice Ao27 t247.length co27):=(bc_ BK251.out 3).trans rfl
         have hfz98_0:=bf_ BK251.out 0
         have hfz98_1:=bf_ BK251.out 1
         have hfz98_2:=bf_ BK251.out 2
         have hfz98_3:=bf_ BK251.out 3
         go_wp2_with (first|(go_at_call 16;(with_reducible refine (laws_eqNet.calls kj11 t263 _ _ t264 _ _ t267 _ _ t270 t240 _ _ t241 _ _ t244 _ _ t247 false _ ?side1 ?side2 ?side3 ?side4 ?side5 ?side6 ?side7 ?side8 ?side9 ?side10 ?side11 ?side12 A82.out).mono ?_);(case side1 => repeat (first|exact (rr_ z6_.out).2.2|(with_reducible refine ca_ ?_ _)|(with_reducible refine cn_ ?_ _)|(with_reducible refine cd_ ?_)));(case side2 => exact (rr_ z6_.out).2.1);(case side3 => repeat (first|exact (rr_ z7_.out).2.2|(with_reducible refine ca_ ?_ _)|(with_reducible refine cn_ ?_ _)|(with_reducible refine cd_ ?_)));(case side4 => exact (rr_ z7_.out).2.1);(case side5 => repeat (first|exact (rr_ z8_.out).2.2|(with_reducible refine ca_ ?_ _)|(with_reducible refine cn_ ?_ _)|(with_reducible refine cd_ ?_)));(case side6 => exact (rr_ z8_.out).2.1);(case side7 => repeat (first|exact (rr_ z0_.out).2.2|(with_reducible refine ca_ ?_ _)|(with_reducible refine cn_ ?_ _)|(with_reducible refine cd_ ?_)));(case side8 => exact (rr_ z0_.out).2.1);(case side9 => repeat (first|exact (rr_ z1_.out).2.2|(with_reducible refine ca_ ?_ _)|(with_reducible refine cn_ ?_ _)|(with_reducible refine cd_ ?_)));(case side10 => exact (rr_ z1_.out).2.1);(case side11 => repeat (first|exact (rr_ z2_.out).2.2|(with_reducible refine ca_ ?_ _)|(with_reducible refine cn_ ?_ _)|(with_reducible refine cd_ ?_)));(case side12 => exact (rr_ z2_.out).2.1);rintro e w99 ⟨rfl,hb⟩;have n0_:=mk_ (rb_ (qr_ z0_) hb);have n1_:=mk_ (rb_ (qr_ z1_) hb);have n2_:=mk_ (rb_ (qr_ z2_) hb);have n3_:=mk_ (rb_ (qr_ z3_) hb);have n4_:=mk_ (rb_ (qr_ z4_) hb);have n5_:=mk_ (rb_ (qr_ z5_) hb);have n6_:=mk_ (rb_ (qr_ z6_) hb);have n7_:=mk_ (rb_ (qr_ z7_) hb);have n8_:=mk_ (rb_ (qr_ z8_) hb);have n9_:=mk_ (rb_ (qr_ HO279) hb);have n10_:=mk_ (rb_ (qr_ HO282) hb);have n11_:=mk_ (rb_ (qr_ HO285) hb);have n12_:=mk_ (blk_below (g:=gb228) (o:=.cells #[.int .i64 a0_0,.slice A0_1 l0_1.length c0_1,.slice A0_2 l0_2.length c0_2,.slice A0_3 l0_3.length c0_3] 25 (0,0)) (qk_ BK228) hb);have n13_:=mk_ (blk_below (g:=gb251) (o:=.cells #[.int .i64 t240,.slice Ao25 t241.length co25,.slice Ao26 t244.length co26,.slice Ao27 t247.length co27] 30 (0,0)) (qk_ BK251) hb);have n14_:=mk_ (blk_below (g:=gb262) (o:=.cells #[.int .i64 t252,.slice Ao34 t253.length co34,.slice Ao35 t256.length co35,.slice Ao36 t259.length co36] 30 (0,0)) (qk_ BK262) hb);have n15_:=mk_ (blk_below (g:=gb274) (o:=.cells #[.int .i64 t263,.slice Ao43 t264.length co43,.slice Ao44 t267.length co44,.slice Ao45 t270.length co45] 30 (0,0)) (qk_ BK274) hb);have n16_:=mk_ (st_ (u6_ HB GE228 GE251 GE262 GE274) hb);clear z0_ z1_ z2_ z3_ z4_ z5_ z6_ z7_ z8_ HO279 HO282 HO285 BK228 BK251 BK262 BK274 HB;have z0_:=n0_;have z1_:=n1_;have z2_:=n2_;have z3_:=n3_;have z4_:=n4_;have z5_:=n5_;have z6_:=n6_;have z7_:=n7_;have z8_:=n8_;have HO279:=n9_;have HO282:=n10_;have HO285:=n11_;have BK228:=n12_;have BK251:=n13_;have BK262:=n14_;have BK274:=n15_;have HB:=n16_;clear n0_ n1_ n2_ n3_ n4_ n5_ n6_ n7_ n8_ n9_ n10_ n11_ n12_ n13_ n14_ n15_ n16_;(try clear hb);(try clear hb2);(try clear hk);(try clear hi)))
         go_meet
         case rel => exact ⟨_,(true),qf_,H',⟨by have:=HJ11.out;first|omega|exact Nat.le_refl _⟩,⟨by (with_reducible repeat (first|apply ra_|apply rn_|apply rd_));exact rm_ z0_.out (fun _ hk => ⟨hk.1,hk.2.1⟩)⟩,⟨by (with_reducible repeat (first|apply ra_|apply rn_|apply rd_));exact rm_ z1_.out (fun _ hk => ⟨hk.1,⟨hk.2.1,⟨hk.2.2.1,⟨hk.2.2.2.1,hk.2.2.2.2.1⟩⟩⟩⟩)⟩,⟨by (with_reducible repeat (first|apply ra_|apply rn_|apply rd_));exact rm_ z2_.out (fun _ hk => ⟨hk.1,⟨hk.2.1,⟨hk.2.2.1,⟨hk.2.2.2.1,hk.2.2.2.2.1⟩⟩⟩⟩)⟩,⟨by (with_reducible repeat (first|apply ra_|apply rn_|apply rd_));exact rm_ z3_.out (fun _ hk => ⟨hk.1.1,hk.1.2⟩)⟩,⟨by (with_reducible repeat (first|apply ra_|apply rn_|apply rd_));exact rm_ z4_.out (fun _ hk => ⟨hk.1.1.1,⟨hk.1.1.2.1,⟨hk.1.1.2.2.1,⟨hk.1.1.2.2.2.1,hk.1.1.2.2.2.2⟩⟩⟩⟩)⟩,⟨by (with_reducible repeat (first|apply ra_|apply rn_|apply rd_));exact rm_ z5_.out (fun _ hk => ⟨hk.1.1.1,⟨hk.1.1.2.1,⟨hk.1.1.2.2.1,⟨hk.1.1.2.2.2.1,hk.1.1.2.2.2.2⟩⟩⟩⟩)⟩,⟨by (with_reducible repeat (first|apply ra_|apply rn_|apply rd_));exact rm_ z6_.out (fun _ hk => ⟨hk.1,hk.2.1⟩)⟩,⟨by (with_reducible repeat (first|apply ra_|apply rn_|apply rd_));exact rm_ z7_.out (fun _ hk => ⟨hk.1,⟨hk.2.1,⟨hk.2.2.1,⟨hk.2.2.2.1,hk.2.2.2.2.1⟩⟩⟩⟩)⟩,⟨by (with_reducible repeat (first|apply ra_|apply rn_|apply rd_));exact rm_ z8_.out (fun _ hk => ⟨hk.1,⟨hk.2.1,⟨hk.2.2.1,⟨hk.2.2.2.1,hk.2.2.2.2.1⟩⟩⟩⟩)⟩,⟨qk_ BK228⟩,⟨qk_ BK251⟩,⟨qk_ BK262⟩,⟨qk_ BK274⟩,⟨u6_ HB GE228 GE251 GE262 GE274⟩⟩
      case rest =>
       clear HC69
       try clear c1
       try clear c2
       try clear p2
       try clear c3
       try clear c4
       try clear c4b0
       try clear c5
       try clear c6
       try clear c7
       try clear c8
       try clear c9
       try clear c12
       try clear c14
       try clear c16
       try clear c23
       try clear c26
       try clear c27
       try clear c31
       try clear c32
       try clear c39
       try clear c40
       try clear c41
       try clear c47
       try clear c48
       try clear c49
       try clear c50
       try clear c52
       try clear c53
       try clear c56
       try clear c57
       try clear c58
       try clear c60
       try clear c61
       try clear c64
       try clear c67
       try clear c76
       try clear c77
       try clear c78
       try clear c81
       try clear c81b0
       try clear c83
       try clear c84
       try clear c85
       try clear c86
       try clear c88
       try clear c89
       try clear c92
       try clear c93
       try clear c94
       try clear c96
       try clear c97
       try clear hcz14_0
       try clear hcz14_1
       try clear hcz14_2
       try clear hcz14_3
       try clear hcz16_0
       try clear hcz16_1
       try clear hcz16_2
       try clear hcz16_3
       try clear hcz24_0
       try clear hcz24_1
       try clear hcz24_2
       try clear hcz24_3
       try clear hcz28_0
       try clear hcz28_1
       try clear hcz28_2
       try clear hcz28_3
       try clear hcz33_0
       try clear hcz33_1
       try clear hcz33_2
       try clear hcz33_3
       try clear hcz42_0
       try clear hcz42_1
       try clear hcz42_2
       try clear hcz42_3
       try clear hcz51_0
       try clear hcz51_1
       try clear hcz51_2
       try clear hcz51_3
       try clear hcz54_0
       try clear hcz54_1
       try clear hcz54_2
       try clear hcz54_3
       try clear hcz59_0
       try clear hcz59_1
       try clear hcz59_2
       try clear hcz59_3
       try clear hcz62_0
       try clear hcz62_1
       try clear hcz62_2
       try clear hcz62_3
       try clear hcz6_0
       try clear hcz6_1
       try clear hcz6_2
       try clear hcz6_3
       try clear hcz79_0
       try clear hcz79_1
       try clear hcz79_2
       try clear hcz79_3
       try clear hcz87_0
       try clear hcz87_1
       try clear hcz87_2
       try clear hcz87_3
       try clear hcz90_0
       try clear hcz90_1
       try clear hcz90_2
       try clear hcz90_3
       try clear hcz95_0
       try clear hcz95_1
       try clear hcz95_2
       try clear hcz95_3
       try clear hcz98_0
       try clear hcz98_1
       try clear hcz98_2
       try clear hcz98_3
       try clear hfz14_0
       try clear hfz14_1
       try clear hfz14_2
       try clear hfz14_3
       try clear hfz16_0
       try clear hfz16_1
       try clear hfz16_2
       try clear hfz16_3
       try clear hfz24_0
       try clear hfz24_1
       try clear hfz24_2
       try clear hfz24_3
       try clear hfz28_0
       try clear hfz28_1
       try clear hfz28_2
       try clear hfz28_3
       try clear hfz33_0
       try clear hfz33_1
       try clear hfz33_2
       try clear hfz33_3
       try clear hfz42_0
       try clear hfz42_1
       try clear hfz42_2
       try clear hfz42_3
       try clear hfz51_0
       try clear hfz51_1
       try clear hfz51_2
       try clear hfz51_3
       try clear hfz54_0
       try clear hfz54_1
       try clear hfz54_2
       try clear hfz54_3
       try clear hfz59_0
       try clear hfz59_1
       try clear hfz59_2
       try clear hfz59_3
       try clear hfz62_0
       try clear hfz62_1
       try clear hfz62_2
       try clear hfz62_3
       try clear hfz6_0
       try clear hfz6_1
       try clear hfz6_2
       try clear hfz6_3
       try clear hfz79_0
       try clear hfz79_1
       try clear hfz79_2
       try clear hfz79_3
       try clear hfz87_0
       try clear hfz87_1
       try clear hfz87_2
       try clear hfz87_3
       try clear hfz90_0
       try clear hfz90_1
       try clear hfz90_2
       try clear hfz90_3
       try clear hfz95_0
       try clear hfz95_1
       try clear hfz95_2
       try clear hfz95_3
       try clear hfz98_0
       try clear hfz98_1
       try clear hfz98_2
       try clear hfz98_3
       try clear p2
       obtain ⟨kq,x65_68,rfl,HA,HJ68,z0_,z1_,z2_,z3_,z4_,z5_,z6_,z7_,z8_,BK228,BK251,BK262,BK274,HB⟩:=hcut
       have z12_:=(rr_ z3_.out).1
       rw [z12_] at z3_
       (try simp only [z12_])
       (try simp only [z12_] at BK228)
       (try simp only [z12_] at BK251)
       (try simp only [z12_] at BK262)
       (try simp only [z12_] at BK274)
       (try simp only [z12_] at z0_)
       (try simp only [z12_] at z1_)
       (try simp only [z12_] at z2_)
       (try simp only [z12_] at z4_)
       (try simp only [z12_] at z5_)
       (try simp only [z12_] at z6_)
       (try simp only [z12_] at z7_)
       (try simp only [z12_] at z8_)
       have z13_:=(rr_ z4_.out).1
       rw [z13_] at z4_
       (try simp only [z13_])
       (try simp only [z13_] at BK228)
       (try simp only [z13_] at BK251)
       (try simp only [z13_] at BK262)
       (try simp only [z13_] at BK274)
       (try simp only [z13_] at z0_)
       (try simp only [z13_] at z1_)
       (try simp only [z13_] at z2_)
       (try simp only [z13_] at z3_)
       (try simp only [z13_] at z5_)
       (try simp only [z13_] at z6_)
       (try simp only [z13_] at z7_)
       (try simp only [z13_] at z8_)
       have z14_:=(rr_ z5_.out).1
       rw [z14_] at z5_
       (try simp only [z14_])
       (try simp only [z14_] at BK228)
       (try simp only [z14_] at BK251)
       (try simp only [z14_] at BK262)
       (try simp only [z14_] at BK274)
       (try simp only [z14_] at z0_)
       (try simp only [z14_] at z1_)
       (try simp only [z14_] at z2_)
       (try simp only [z14_] at z3_)
       (try simp only [z14_] at z4_)
       (try simp only [z14_] at z6_)
       (try simp only [z14_] at z7_)
       (try simp only [z14_] at z8_)
       cases kq with
       | zero => exact absurd HA.out (by simp [laws_FnExactCutCable.j1])
       | succ kj68 =>
        have H:=HA.out
        clear HA
        simp only [laws_FnExactCutCable.j1] at H
        by_cases c100 : x65_68 = true
        ·subst c100
         have H1 : (some false) = some r:=by rw [if_pos rfl] at H;exact H
         clear H
         have H:=H1
         clear H1
         obtain rfl:=Option.some.inj H
         go_wp2
         go_ret
         exact ⟨qe_,u6_ HB GE228 GE251 GE262 GE274⟩
        ·replace c100:=Bool.eq_false_iff.mpr c100
         subst c100
         have H1 : ((laws_markNet.f kj68 t263 t264 t267 t270 1).bind fun bt292 => ((laws_heldNet.f kj68 t263 bt292.2.1 bt292.2.2.1 bt292.2.2.2 1).bind fun t296 => (if t296 < 0 then (some false) else (if t296 = bt292.1 then ((laws_toNet.f kj68 a0_0 l0_1 l0_2 l0_3).bind fun bt297 => ((impl_CutCable.f kj68 bt297.1 bt297.2.1 bt297.2.2.1 bt297.2.2.2 a1).bind fun bt307 => ((laws_eqNet.f kj68 bt307.1 bt307.2.1 bt307.2.2.1 bt307.2.2.2.1 t240 t241 t244 t247).bind fun t319 => (if t319 = true then (laws_FnExactCutCable.j2 kj68 bt292.1 (bt307.2.2.2.2 != t250) t263 bt292.2.1 bt292.2.2.1 bt292.2.2.2) else (laws_FnExactCutCable.j2 kj68 bt292.1 true t263 bt292.2.1 bt292.2.2.1 bt292.2.2.2))))) else (some false))))) = some r:=by rw [if_neg (show ¬ (false = true) by decide)] at H;exact H
         clear H
         have H:=H1
         clear H1
         replace H:=Option.bind_eq_some_iff.mp H
         obtain ⟨⟨t292,t293,t294,t295⟩,A1010,H⟩:=H
         replace H : ((laws_heldNet.f kj68 t263 t293 t294 t295 1).bind fun t296 => (if t296 < 0 then (some false) else (if t296 = t292 then ((laws_toNet.f kj68 a0_0 l0_1 l0_2 l0_3).bind fun bt297 => ((impl_CutCable.f kj68 bt297.1 bt297.2.1 bt297.2.2.1 bt297.2.2.2 a1).bind fun bt307 => ((laws_eqNet.f kj68 bt307.1 bt307.2.1 bt307.2.2.1 bt307.2.2.2.1 t240 t241 t244 t247).bind fun t319 => (if t319 = true then (laws_FnExactCutCable.j2 kj68 t292 (bt307.2.2.2.2 != t250) t263 t293 t294 t295) else (laws_FnExactCutCable.j2 kj68 t292 true t263 t293 t294 t295))))) else (some false)))) = some r:=H
         have A101:=mk_ A1010
         clear A1010
         replace H:=Option.bind_eq_some_iff.mp H
         obtain ⟨t296,A1020,H⟩:=H
         replace H : (if t296 < 0 then (some false) else (if t296 = t292 then ((laws_toNet.f kj68 a0_0 l0_1 l0_2 l0_3).bind fun bt297 => ((impl_CutCable.f kj68 bt297.1 bt297.2.1 bt297.2.2.1 bt297.2.2.2 a1).bind fun bt307 => ((laws_eqNet.f kj68 bt307.1 bt307.2.1 bt307.2.2.1 bt307.2.2.2.1 t240 t241 t244 t247).bind fun t319 => (if t319 = true then (laws_FnExactCutCable.j2 kj68 t292 (bt307.2.2.2.2 != t250) t263 t293 t294 t295) else (laws_FnExactCutCable.j2 kj68 t292 true t263 t293 t294 t295))))) else (some false))) = some r:=H
         have A102:=mk_ A1020
         clear A1020
         by_cases c103 : t296 < 0
         ·rw [if_pos c103] at H
          have c103b0 : decide (t296 < 0) = true:=decide_eq_true c103
          clear c103
          obtain rfl:=Option.some.inj H
          have hnb104:=NB274_228.out
          have hnc104:=NB228_274.out
          have hnb105:=NB274_251.out
          have hnc105:=NB251_274.out
          have hnb106:=NB274_262.out
          have hnc106:=NB262_274.out
          have hcz107_0 : wc.cell? ⟨gb274,0,none⟩ = some (.int .i64 t263):=(bc_ BK274.out 0).trans rfl
          have hcz107_1 : wc.cell? ⟨gb274,1,none⟩ = some (.slice Ao43 t264.length co43):=(bc_ BK274.out 1).trans rfl
          have hcz107_2 : wc.cell? ⟨gb274,2,none⟩ = some (.slice Ao44 t267.length co44):=(bc_ BK274.out 2).trans rfl
          have hcz107_3 : wc.cell? ⟨gb274,3,none⟩ = some (.slice Ao45 t270.length co45):=(bc_ BK274.out 3).trans rfl
          have hfz107_0:=bf_ BK274.out 0
          have hfz107_1:=bf_ BK274.out 1
          have hfz107_2:=bf_ BK274.out 2
          have hfz107_3:=bf_ BK274.out 3
          go_wp2_with (first|((with_reducible refine gate_callee (f:=23) rfl ?_);refine goesL_ (some 68) rfl rfl Try.func23 (by kernel_rfl) rfl #[.agg #[.int .i64 t263,.slice Ao43 t264.length co43,.slice Ao44 t267.length co44,.slice Ao45 t270.length co45],.int .i64 1] rfl qm_ ?_;(with_reducible refine (laws_markNet.calls kj68 t263 (fun k_ => some k_ = (.slice Ao43 t264.length co43 : Value).ownBlock) (.slice Ao43 t264.length co43) t264 (fun k_ => some k_ = (.slice Ao44 t267.length co44 : Value).ownBlock) (.slice Ao44 t267.length co44) t267 (fun k_ => some k_ = (.slice Ao45 t270.length co45 : Value).ownBlock) (.slice Ao45 t270.length co45) t270 1 t292 t293 t294 t295 w _ ?side1 ?side2 ?side3 ?side4 ?side5 ?side6 A101.out).mono ?_);(case side1 => exact u6_ HB GE228 GE251 GE262 GE274);(case side2 => exact Kd.R_tight rfl z6_.out);(case side3 => exact Kd.R_tight rfl z7_.out);(case side4 => exact fun k_ e_ => (z7_.out.1 k_ e_.symm).2.2.2.2);(case side5 => exact Kd.R_tight rfl z8_.out);(case side6 => exact fun k_ e_ => (z8_.out.1 k_ e_.symm).2.2.2.2);rintro e w108 ⟨rfl,hy0,hy1,hy2,hb,hkp⟩;refine ⟨_,rfl,?_⟩;have n0_:=mk_ (rm_ (ok':=fun k_ => some k_ ≠ (.slice Ao34 t288.length co34 : Value).ownBlock ∧ some k_ ≠ (.slice Ao43 t264.length co43 : Value).ownBlock) (Kd.R_keptB ((Kd.R_apart' (Kd.R_apart' z0_.out (Kd.R_typed z7_.out) (by decide)) (Kd.R_typed z8_.out) (by decide))) hkp (fun k_ hk_ hs_ => Or.elim hs_ (fun e_ => (hk_.1.1.2) e_) (fun e_ => Or.elim e_ (fun e_ => (hk_.1.2) e_) (fun e_ => (hk_.2) e_)))) (fun k_ hk_ => ⟨hk_.1.1.1.1,hk_.1.1.1.2⟩));have n1_:=mk_ (rm_ (ok':=fun k_ => some k_ ≠ (.slice Ao27 t247.length co27 : Value).ownBlock ∧ some k_ ≠ (.slice Ao35 t289.length co35 : Value).ownBlock ∧ some k_ ≠ (.slice Ao36 t290.length co36 : Value).ownBlock ∧ some k_ ≠ (.slice Ao44 t267.length co44 : Value).ownBlock ∧ some k_ ≠ (.slice Ao45 t270.length co45 : Value).ownBlock) (Kd.R_keptB ((Kd.R_apart' z1_.out (Kd.R_typed z6_.out) (by decide))) hkp (fun k_ hk_ hs_ => Or.elim hs_ (fun e_ => (hk_.2) e_) (fun e_ => Or.elim e_ (fun e_ => (hk_.1.2.2.2.1) e_) (fun e_ => (hk_.1.2.2.2.2) e_)))) (fun k_ hk_ => ⟨hk_.1.1.1,hk_.1.1.2.1,hk_.1.1.2.2.1,hk_.1.1.2.2.2.1,hk_.1.1.2.2.2.2⟩));have n2_:=mk_ (rm_ (ok':=fun k_ => some k_ ≠ (.slice Ao26 t244.length co26 : Value).ownBlock ∧ some k_ ≠ (.slice Ao35 t289.length co35 : Value).ownBlock ∧ some k_ ≠ (.slice Ao36 t290.length co36 : Value).ownBlock ∧ some k_ ≠ (.slice Ao44 t267.length co44 : Value).ownBlock ∧ some k_ ≠ (.slice Ao45 t270.length co45 : Value).ownBlock) (Kd.R_keptB ((Kd.R_apart' z2_.out (Kd.R_typed z6_.out) (by decide))) hkp (fun k_ hk_ hs_ => Or.elim hs_ (fun e_ => (hk_.2) e_) (fun e_ => Or.elim e_ (fun e_ => (hk_.1.2.2.2.1) e_) (fun e_ => (hk_.1.2.2.2.2) e_)))) (fun k_ hk_ => ⟨hk_.1.1.1,hk_.1.1.2.1,hk_.1.1.2.2.1,hk_.1.1.2.2.2.1,hk_.1.1.2.2.2.2⟩));have n3_:=mk_ (rm_ (ok':=fun k_ => some k_ ≠ (.slice Ao25 t241.length co25 : Value).ownBlock ∧ some k_ ≠ (.slice Ao43 t264.length co43 : Value).ownBlock) (Kd.R_keptB ((Kd.R_apart' (Kd.R_apart' z3_.out (Kd.R_typed z7_.out) (by decide)) (Kd.R_typed z8_.out) (by decide))) hkp (fun k_ hk_ hs_ => Or.elim hs_ (fun e_ => (hk_.1.1.2) e_) (fun e_ => Or.elim e_ (fun e_ => (hk_.1.2) e_) (fun e_ => (hk_.2) e_)))) (fun k_ hk_ => ⟨hk_.1.1.1.1,hk_.1.1.1.2⟩));have n4_:=mk_ (rm_ (ok':=fun k_ => some k_ ≠ (.slice Ao26 t244.length co26 : Value).ownBlock ∧ some k_ ≠ (.slice Ao27 t247.length co27 : Value).ownBlock ∧ some k_ ≠ (.slice Ao36 t290.length co36 : Value).ownBlock ∧ some k_ ≠ (.slice Ao44 t267.length co44 : Value).ownBlock ∧ some k_ ≠ (.slice Ao45 t270.length co45 : Value).ownBlock) (Kd.R_keptB ((Kd.R_apart' z4_.out (Kd.R_typed z6_.out) (by decide))) hkp (fun k_ hk_ hs_ => Or.elim hs_ (fun e_ => (hk_.2) e_) (fun e_ => Or.elim e_ (fun e_ => (hk_.1.2.2.2.1) e_) (fun e_ => (hk_.1.2.2.2.2) e_)))) (fun k_ hk_ => ⟨hk_.1.1.1,hk_.1.1.2.1,hk_.1.1.2.2.1,hk_.1.1.2.2.2.1,hk_.1.1.2.2.2.2⟩));have n5_:=mk_ (rm_ (ok':=fun k_ => some k_ ≠ (.slice Ao26 t244.length co26 : Value).ownBlock ∧ some k_ ≠ (.slice Ao27 t247.length co27 : Value).ownBlock ∧ some k_ ≠ (.slice Ao35 t289.length co35 : Value).ownBlock ∧ some k_ ≠ (.slice Ao44 t267.length co44 : Value).ownBlock ∧ some k_ ≠ (.slice Ao45 t270.length co45 : Value).ownBlock) (Kd.R_keptB ((Kd.R_apart' z5_.out (Kd.R_typed z6_.out) (by decide))) hkp (fun k_ hk_ hs_ => Or.elim hs_ (fun e_ => (hk_.2) e_) (fun e_ => Or.elim e_ (fun e_ => (hk_.1.2.2.2.1) e_) (fun e_ => (hk_.1.2.2.2.2) e_)))) (fun k_ hk_ => ⟨hk_.1.1.1,hk_.1.1.2.1,hk_.1.1.2.2.1,hk_.1.1.2.2.2.1,hk_.1.1.2.2.2.2⟩));have n6_:=mk_ (Kd.R_reok rfl hy0 (fun k_ e_ => z6_.out.1 k_ e_));have n7_:=mk_ (Kd.R_reok rfl hy1 (fun k_ e_ => z7_.out.1 k_ e_));have n8_:=mk_ (Kd.R_reok rfl hy2 (fun k_ e_ => z8_.out.1 k_ e_));have n9_:=mk_ (blk_kept (qk_ BK228) hkp (fun hs_ => Or.elim hs_ (fun e_ => (fun e_ => (Kd.R_ne z6_.out BK228.out (by decide)) e_) e_) (fun e_ => Or.elim e_ (fun e_ => (fun e_ => (Kd.R_ne z7_.out BK228.out (by decide)) e_) e_) (fun e_ => (fun e_ => (Kd.R_ne z8_.out BK228.out (by decide)) e_) e_))));have n10_:=mk_ (blk_kept (qk_ BK251) hkp (fun hs_ => Or.elim hs_ (fun e_ => (fun e_ => (Kd.R_ne z6_.out BK251.out (by decide)) e_) e_) (fun e_ => Or.elim e_ (fun e_ => (fun e_ => (Kd.R_ne z7_.out BK251.out (by decide)) e_) e_) (fun e_ => (fun e_ => (Kd.R_ne z8_.out BK251.out (by decide)) e_) e_))));have n11_:=mk_ (blk_kept (qk_ BK262) hkp (fun hs_ => Or.elim hs_ (fun e_ => (fun e_ => (Kd.R_ne z6_.out BK262.out (by decide)) e_) e_) (fun e_ => Or.elim e_ (fun e_ => (fun e_ => (Kd.R_ne z7_.out BK262.out (by decide)) e_) e_) (fun e_ => (fun e_ => (Kd.R_ne z8_.out BK262.out (by decide)) e_) e_))));have n12_:=mk_ (blk_kept (qk_ BK274) hkp (fun hs_ => Or.elim hs_ (fun e_ => (fun e_ => (Kd.R_ne z6_.out BK274.out (by decide)) e_) e_) (fun e_ => Or.elim e_ (fun e_ => (fun e_ => (Kd.R_ne z7_.out BK274.out (by decide)) e_) e_) (fun e_ => (fun e_ => (Kd.R_ne z8_.out BK274.out (by decide)) e_) e_))));have n13_:=mk_ (hb);clear z0_ z1_ z2_ z3_ z4_ z5_ z6_ z7_ z8_ BK228 BK251 BK262 BK274 HB;have z0_:=n0_;have z1_:=n1_;have z2_:=n2_;have z3_:=n3_;have z4_:=n4_;have z5_:=n5_;have z6_:=n6_;have z7_:=n7_;have z8_:=n8_;have BK228:=n9_;have BK251:=n10_;have BK262:=n11_;have BK274:=n12_;have HB:=n13_;clear n0_ n1_ n2_ n3_ n4_ n5_ n6_ n7_ n8_ n9_ n10_ n11_ n12_ n13_;(try clear hb);(try clear hkp);(try clear hy0);(try clear hy1);(try clear hy2);have hcz109_0 : w108.cell? ⟨gb274,0,none⟩ = some (.int .i64 t263):=(bc_ BK274.out 0).trans rfl;have hcz109_1 : w108.cell? ⟨gb274,1,none⟩ = some (.slice Ao43 t264.length co43):=(bc_ BK274.out 1).trans rfl;have hcz109_2 : w108.cell? ⟨gb274,2,none⟩ = some (.slice Ao44 t267.length co44):=(bc_ BK274.out 2).trans rfl;have hcz109_3 : w108.cell? ⟨gb274,3,none⟩ = some (.slice Ao45 t270.length co45):=(bc_ BK274.out 3).trans rfl;have hfz109_0:=bf_ BK274.out 0;have hfz109_1:=bf_ BK274.out 1;have hfz109_2:=bf_ BK274.out 2;have hfz109_3:=bf_ BK274.out 3)|((with_reducible refine gate_callee (f:=28) rfl ?_);refine goesL_ (some 71) rfl rfl Try.func28 (by kernel_rfl) rfl #[.agg #[.int .i64 t263,.slice Ao43 t293.length co43,.slice Ao44 t294.length co44,.slice Ao45 t295.length co45],.int .i64 1] rfl (by (try simp only [List.map_toArray,List.map_cons,List.map_nil]);first|done|(rw [show t293.length = t264.length from (rr_ z6_.out).1.symm,show t294.length = t267.length from (rr_ z7_.out).1.symm,show t295.length = t270.length from (rr_ z8_.out).1.symm] <;> rfl)|rfl|(simp only [List.length_drop,List.length_take];rfl)) ?_;(with_reducible refine (laws_heldNet.calls kj68 t263 _ _ t293 _ _ t294 _ _ t295 1 t296 _ ?side1 ?side2 ?side3 ?side4 ?side5 ?side6 A102.out).mono ?_);(case side1 => repeat (first|exact (rr_ z6_.out).2.2|(with_reducible refine ca_ ?_ _)|(with_reducible refine cn_ ?_ _)|(with_reducible refine cd_ ?_)));(case side2 => rw [show t293.length = t264.length from (rr_ z6_.out).1.symm];exact (rr_ z6_.out).2.1);(case side3 => repeat (first|exact (rr_ z7_.out).2.2|(with_reducible refine ca_ ?_ _)|(with_reducible refine cn_ ?_ _)|(with_reducible refine cd_ ?_)));(case side4 => rw [show t294.length = t267.length from (rr_ z7_.out).1.symm];exact (rr_ z7_.out).2.1);(case side5 => repeat (first|exact (rr_ z8_.out).2.2|(with_reducible refine ca_ ?_ _)|(with_reducible refine cn_ ?_ _)|(with_reducible refine cd_ ?_)));(case side6 => rw [show t295.length = t270.length from (rr_ z8_.out).1.symm];exact (rr_ z8_.out).2.1);rintro e w110 ⟨rfl,hb⟩;refine ⟨_,rfl,?_⟩;have n0_:=mk_ (rb_ (qr_ z0_) hb);have n1_:=mk_ (rb_ (qr_ z1_) hb);have n2_:=mk_ (rb_ (qr_ z2_) hb);have n3_:=mk_ (rb_ (qr_ z3_) hb);have n4_:=mk_ (rb_ (qr_ z4_) hb);have n5_:=mk_ (rb_ (qr_ z5_) hb);have n6_:=mk_ (rb_ (qr_ z6_) hb);have n7_:=mk_ (rb_ (qr_ z7_) hb);have n8_:=mk_ (rb_ (qr_ z8_) hb);have n9_:=mk_ (blk_below (g:=gb228) (o:=.cells #[.int .i64 a0_0,.slice A0_1 l0_1.length c0_1,.slice A0_2 l0_2.length c0_2,.slice A0_3 l0_3.length c0_3] 25 (0,0)) (qk_ BK228) hb);have n10_:=mk_ (blk_below (g:=gb251) (o:=.cells #[.int .i64 t240,.slice Ao25 t241.length co25,.slice Ao26 t244.length co26,.slice Ao27 t247.length co27] 30 (0,0)) (qk_ BK251) hb);have n11_:=mk_ (blk_below (g:=gb262) (o:=.cells #[.int .i64 t252,.slice Ao34 t288.length co34,.slice Ao35 t289.length co35,.slice Ao36 t290.length co36] 30 (0,0)) (qk_ BK262) hb);have n12_:=mk_ (blk_below (g:=gb274) (o:=.cells #[.int .i64 t263,.slice Ao43 t264.length co43,.slice Ao44 t267.length co44,.slice Ao45 t270.length co45] 30 (0,0)) (qk_ BK274) hb);have n13_:=mk_ (st_ (u6_ HB GE228 GE251 GE262 GE274) hb);clear z0_ z1_ z2_ z3_ z4_ z5_ z6_ z7_ z8_ BK228 BK251 BK262 BK274 HB;have z0_:=n0_;have z1_:=n1_;have z2_:=n2_;have z3_:=n3_;have z4_:=n4_;have z5_:=n5_;have z6_:=n6_;have z7_:=n7_;have z8_:=n8_;have BK228:=n9_;have BK251:=n10_;have BK262:=n11_;have BK274:=n12_;have HB:=n13_;clear n0_ n1_ n2_ n3_ n4_ n5_ n6_ n7_ n8_ n9_ n10_ n11_ n12_ n13_;(try clear hb);(try clear hb2);(try clear hk);(try clear hi)))
          go_ret
          exact ⟨qe_,u6_ HB GE228 GE251 GE262 GE274⟩
         ·rw [if_neg c103] at H
          have c103b0 : decide (t296 < 0) = false:=decide_eq_false c103
          clear c103
          by_cases c111 : t296 = t292
          ·rw [if_pos c111] at H
           have c111b0 : (t296 == t292) = true:=beq_iff_eq.mpr c111
           have c111b1 : (t296 != t292) = false:=bne_eq_false_iff_eq.mpr c111
           clear c111
           replace H:=Option.bind_eq_some_iff.mp H
           obtain ⟨⟨t297,t298,t301,t304⟩,A1120,H⟩:=H
           replace H : ((impl_CutCable.f kj68 t297 t298 t301 t304 a1).bind fun bt307 => ((laws_eqNet.f kj68 bt307.1 bt307.2.1 bt307.2.2.1 bt307.2.2.2.1 t240 t241 t244 t247).bind fun t319 => (if t319 = true then (laws_FnExactCutCable.j2 kj68 t292 (bt307.2.2.2.2 != t250) t263 t293 t294 t295) else (laws_FnExactCutCable.j2 kj68 t292 true t263 t293 t294 t295)))) = some r:=H
           have A112:=mk_ A1120
           clear A1120
           replace H:=Option.bind_eq_some_iff.mp H
           obtain ⟨⟨t307,t308,t311,t314,t317⟩,A1130,H⟩:=H
           replace H : ((laws_eqNet.f kj68 t307 t308 t311 t314 t240 t241 t244 t247).bind fun t319 => (if t319 = true then (laws_FnExactCutCable.j2 kj68 t292 (t317 != t250) t263 t293 t294 t295) else (laws_FnExactCutCable.j2 kj68 t292 true t263 t293 t294 t295))) = some r:=H
           have A113:=mk_ A1130
           clear A1130
           have HC114:=mk_ H
           clear H
           have hnb115:=NB274_228.out
           have hnc115:=NB228_274.out
           have hnb116:=NB274_251.out
           have hnc116:=NB251_274.out
           have hnb117:=NB274_262.out
           have hnc117:=NB262_274.out
           have hcz118_0 : wc.cell? ⟨gb274,0,none⟩ = some (.int .i64 t263):=(bc_ BK274.out 0).trans rfl
           have hcz118_1 : wc.cell? ⟨gb274,1,none⟩ = some (.slice Ao43 t264.length co43):=(bc_ BK274.out 1).trans rfl
           have hcz118_2 : wc.cell? ⟨gb274,2,none⟩ = some (.slice Ao44 t267.length co44):=(bc_ BK274.out 2).trans rfl
           have hcz118_3 : wc.cell? ⟨gb274,3,none⟩ = some (.slice Ao45 t270.length co45):=(bc_ BK274.out 3).trans rfl
           have hfz118_0:=bf_ BK274.out 0
           have hfz118_1:=bf_ BK274.out 1
           have hfz118_2:=bf_ BK274.out 2
           have hfz118_3:=bf_ BK274.out 3
           go_upto_region 25 with (first|((with_reducible refine gate_callee (f:=23) rfl ?_);refine goesL_ (some 68) rfl rfl Try.func23 (by kernel_rfl) rfl #[.agg #[.int .i64 t263,.slice Ao43 t264.length co43,.slice Ao44 t267.length co44,.slice Ao45 t270.length co45],.int .i64 1] rfl qm_ ?_;(with_reducible refine (laws_markNet.calls kj68 t263 (fun k_ => some k_ = (.slice Ao43 t264.length co43 : Value).ownBlock) (.slice Ao43 t264.length co43) t264 (fun k_ => some k_ = (.slice Ao44 t267.length co44 : Value).ownBlock) (.slice Ao44 t267.length co44) t267 (fun k_ => some k_ = (.slice Ao45 t270.length co45 : Value).ownBlock) (.slice Ao45 t270.length co45) t270 1 t292 t293 t294 t295 w _ ?side1 ?side2 ?side3 ?side4 ?side5 ?side6 A101.out).mono ?_);(case side1 => exact u6_ HB GE228 GE251 GE262 GE274);(case side2 => exact Kd.R_tight rfl z6_.out);(case side3 => exact Kd.R_tight rfl z7_.out);(case side4 => exact fun k_ e_ => (z7_.out.1 k_ e_.symm).2.2.2.2);(case side5 => exact Kd.R_tight rfl z8_.out);(case side6 => exact fun k_ e_ => (z8_.out.1 k_ e_.symm).2.2.2.2);rintro e w119 ⟨rfl,hy0,hy1,hy2,hb,hkp⟩;refine ⟨_,rfl,?_⟩;have n0_:=mk_ (rm_ (ok':=fun k_ => some k_ ≠ (.slice Ao34 t288.length co34 : Value).ownBlock ∧ some k_ ≠ (.slice Ao43 t264.length co43 : Value).ownBlock) (Kd.R_keptB ((Kd.R_apart' (Kd.R_apart' z0_.out (Kd.R_typed z7_.out) (by decide)) (Kd.R_typed z8_.out) (by decide))) hkp (fun k_ hk_ hs_ => Or.elim hs_ (fun e_ => (hk_.1.1.2) e_) (fun e_ => Or.elim e_ (fun e_ => (hk_.1.2) e_) (fun e_ => (hk_.2) e_)))) (fun k_ hk_ => ⟨hk_.1.1.1.1,hk_.1.1.1.2⟩));have n1_:=mk_ (rm_ (ok':=fun k_ => some k_ ≠ (.slice Ao27 t247.length co27 : Value).ownBlock ∧ some k_ ≠ (.slice Ao35 t289.length co35 : Value).ownBlock ∧ some k_ ≠ (.slice Ao36 t290.length co36 : Value).ownBlock ∧ some k_ ≠ (.slice Ao44 t267.length co44 : Value).ownBlock ∧ some k_ ≠ (.slice Ao45 t270.length co45 : Value).ownBlock) (Kd.R_keptB ((Kd.R_apart' z1_.out (Kd.R_typed z6_.out) (by decide))) hkp (fun k_ hk_ hs_ => Or.elim hs_ (fun e_ => (hk_.2) e_) (fun e_ => Or.elim e_ (fun e_ => (hk_.1.2.2.2.1) e_) (fun e_ => (hk_.1.2.2.2.2) e_)))) (fun k_ hk_ => ⟨hk_.1.1.1,hk_.1.1.2.1,hk_.1.1.2.2.1,hk_.1.1.2.2.2.1,hk_.1.1.2.2.2.2⟩));have n2_:=mk_ (rm_ (ok':=fun k_ => some k_ ≠ (.slice Ao26 t244.length co26 : Value).ownBlock ∧ some k_ ≠ (.slice Ao35 t289.length co35 : Value).ownBlock ∧ some k_ ≠ (.slice Ao36 t290.length co36 : Value).ownBlock ∧ some k_ ≠ (.slice Ao44 t267.length co44 : Value).ownBlock ∧ some k_ ≠ (.slice Ao45 t270.length co45 : Value).ownBlock) (Kd.R_keptB ((Kd.R_apart' z2_.out (Kd.R_typed z6_.out) (by decide))) hkp (fun k_ hk_ hs_ => Or.elim hs_ (fun e_ => (hk_.2) e_) (fun e_ => Or.elim e_ (fun e_ => (hk_.1.2.2.2.1) e_) (fun e_ => (hk_.1.2.2.2.2) e_)))) (fun k_ hk_ => ⟨hk_.1.1.1,hk_.1.1.2.1,hk_.1.1.2.2.1,hk_.1.1.2.2.2.1,hk_.1.1.2.2.2.2⟩));have n3_:=mk_ (rm_ (ok':=fun k_ => some k_ ≠ (.slice Ao25 t241.length co25 : Value).ownBlock ∧ some k_ ≠ (.slice Ao43 t264.length co43 : Value).ownBlock) (Kd.R_keptB ((Kd.R_apart' (Kd.R_apart' z3_.out (Kd.R_typed z7_.out) (by decide)) (Kd.R_typed z8_.out) (by decide))) hkp (fun k_ hk_ hs_ => Or.elim hs_ (fun e_ => (hk_.1.1.2) e_) (fun e_ => Or.elim e_ (fun e_ => (hk_.1.2) e_) (fun e_ => (hk_.2) e_)))) (fun k_ hk_ => ⟨hk_.1.1.1.1,hk_.1.1.1.2⟩));have n4_:=mk_ (rm_ (ok':=fun k_ => some k_ ≠ (.slice Ao26 t244.length co26 : Value).ownBlock ∧ some k_ ≠ (.slice Ao27 t247.length co27 : Value).ownBlock ∧ some k_ ≠ (.slice Ao36 t290.length co36 : Value).ownBlock ∧ some k_ ≠ (.slice Ao44 t267.length co44 : Value).ownBlock ∧ some k_ ≠ (.slice Ao45 t270.length co45 : Value).ownBlock) (Kd.R_keptB ((Kd.R_apart' z4_.out (Kd.R_typed z6_.out) (by decide))) hkp (fun k_ hk_ hs_ => Or.elim hs_ (fun e_ => (hk_.2) e_) (fun e_ => Or.elim e_ (fun e_ => (hk_.1.2.2.2.1) e_) (fun e_ => (hk_.1.2.2.2.2) e_)))) (fun k_ hk_ => ⟨hk_.1.1.1,hk_.1.1.2.1,hk_.1.1.2.2.1,hk_.1.1.2.2.2.1,hk_.1.1.2.2.2.2⟩));have n5_:=mk_ (rm_ (ok':=fun k_ => some k_ ≠ (.slice Ao26 t244.length co26 : Value).ownBlock ∧ some k_ ≠ (.slice Ao27 t247.length co27 : Value).ownBlock ∧ some k_ ≠ (.slice Ao35 t289.length co35 : Value).ownBlock ∧ some k_ ≠ (.slice Ao44 t267.length co44 : Value).ownBlock ∧ some k_ ≠ (.slice Ao45 t270.length co45 : Value).ownBlock) (Kd.R_keptB ((Kd.R_apart' z5_.out (Kd.R_typed z6_.out) (by decide))) hkp (fun k_ hk_ hs_ => Or.elim hs_ (fun e_ => (hk_.2) e_) (fun e_ => Or.elim e_ (fun e_ => (hk_.1.2.2.2.1) e_) (fun e_ => (hk_.1.2.2.2.2) e_)))) (fun k_ hk_ => ⟨hk_.1.1.1,hk_.1.1.2.1,hk_.1.1.2.2.1,hk_.1.1.2.2.2.1,hk_.1.1.2.2.2.2⟩));have n6_:=mk_ (Kd.R_reok rfl hy0 (fun k_ e_ => z6_.out.1 k_ e_));have n7_:=mk_ (Kd.R_reok rfl hy1 (fun k_ e_ => z7_.out.1 k_ e_));have n8_:=mk_ (Kd.R_reok rfl hy2 (fun k_ e_ => z8_.out.1 k_ e_));have n9_:=mk_ (blk_kept (qk_ BK228) hkp (fun hs_ => Or.elim hs_ (fun e_ => (fun e_ => (Kd.R_ne z6_.out BK228.out (by decide)) e_) e_) (fun e_ => Or.elim e_ (fun e_ => (fun e_ => (Kd.R_ne z7_.out BK228.out (by decide)) e_) e_) (fun e_ => (fun e_ => (Kd.R_ne z8_.out BK228.out (by decide)) e_) e_))));have n10_:=mk_ (blk_kept (qk_ BK251) hkp (fun hs_ => Or.elim hs_ (fun e_ => (fun e_ => (Kd.R_ne z6_.out BK251.out (by decide)) e_) e_) (fun e_ => Or.elim e_ (fun e_ => (fun e_ => (Kd.R_ne z7_.out BK251.out (by decide)) e_) e_) (fun e_ => (fun e_ => (Kd.R_ne z8_.out BK251.out (by decide)) e_) e_))));have n11_:=mk_ (blk_kept (qk_ BK262) hkp (fun hs_ => Or.elim hs_ (fun e_ => (fun e_ => (Kd.R_ne z6_.out BK262.out (by decide)) e_) e_) (fun e_ => Or.elim e_ (fun e_ => (fun e_ => (Kd.R_ne z7_.out BK262.out (by decide)) e_) e_) (fun e_ => (fun e_ => (Kd.R_ne z8_.out BK262.out (by decide)) e_) e_))));have n12_:=mk_ (blk_kept (qk_ BK274) hkp (fun hs_ => Or.elim hs_ (fun e_ => (fun e_ => (Kd.R_ne z6_.out BK274.out (by decide)) e_) e_) (fun e_ => Or.elim e_ (fun e_ => (fun e_ => (Kd.R_ne z7_.out BK274.out (by decide)) e_) e_) (fun e_ => (fun e_ => (Kd.R_ne z8_.out BK274.out (by decide)) e_) e_))));have n13_:=mk_ (hb);clear z0_ z1_ z2_ z3_ z4_ z5_ z6_ z7_ z8_ BK228 BK251 BK262 BK274 HB;have z0_:=n0_;have z1_:=n1_;have z2_:=n2_;have z3_:=n3_;have z4_:=n4_;have z5_:=n5_;have z6_:=n6_;have z7_:=n7_;have z8_:=n8_;have BK228:=n9_;have BK251:=n10_;have BK262:=n11_;have BK274:=n12_;have HB:=n13_;clear n0_ n1_ n2_ n3_ n4_ n5_ n6_ n7_ n8_ n9_ n10_ n11_ n12_ n13_;(try clear hb);(try clear hkp);(try clear hy0);(try clear hy1);(try clear hy2);have hcz120_0 : w119.cell? ⟨gb274,0,none⟩ = some (.int .i64 t263):=(bc_ BK274.out 0).trans rfl;have hcz120_1 : w119.cell? ⟨gb274,1,none⟩ = some (.slice Ao43 t264.length co43):=(bc_ BK274.out 1).trans rfl;have hcz120_2 : w119.cell? ⟨gb274,2,none⟩ = some (.slice Ao44 t267.length co44):=(bc_ BK274.out 2).trans rfl;have hcz120_3 : w119.cell? ⟨gb274,3,none⟩ = some (.slice Ao45 t270.length co45):=(bc_ BK274.out 3).trans rfl;have hfz120_0:=bf_ BK274.out 0;have hfz120_1:=bf_ BK274.out 1;have hfz120_2:=bf_ BK274.out 2;have hfz120_3:=bf_ BK274.out 3)|((with_reducible refine gate_callee (f:=28) rfl ?_);refine goesL_ (some 71) rfl rfl Try.func28 (by kernel_rfl) rfl #[.agg #[.int .i64 t263,.slice Ao43 t293.length co43,.slice Ao44 t294.length co44,.slice Ao45 t295.length co45],.int .i64 1] rfl (by (try simp only [List.map_toArray,List.map_cons,List.map_nil]);first|done|(rw [show t293.length = t264.length from (rr_ z6_.out).1.symm,show t294.length = t267.length from (rr_ z7_.out).1.symm,show t295.length = t270.length from (rr_ z8_.out).1.symm] <;> rfl)|rfl|(simp only [List.length_drop,List.length_take];rfl)) ?_;(with_reducible refine (laws_heldNet.calls kj68 t263 _ _ t293 _ _ t294 _ _ t295 1 t296 _ ?side1 ?side2 ?side3 ?side4 ?side5 ?side6 A102.out).mono ?_);(case side1 => repeat (first|exact (rr_ z6_.out).2.2|(with_reducible refine ca_ ?_ _)|(with_reducible refine cn_ ?_ _)|(with_reducible refine cd_ ?_)));(case side2 => rw [show t293.length = t264.length from (rr_ z6_.out).1.symm];exact (rr_ z6_.out).2.1);(case side3 => repeat (first|exact (rr_ z7_.out).2.2|(with_reducible refine ca_ ?_ _)|(with_reducible refine cn_ ?_ _)|(with_reducible refine cd_ ?_)));(case side4 => rw [show t294.length = t267.length from (rr_ z7_.out).1.symm];exact (rr_ z7_.out).2.1);(case side5 => repeat (first|exact (rr_ z8_.out).2.2|(with_reducible refine ca_ ?_ _)|(with_reducible refine cn_ ?_ _)|(with_reducible refine cd_ ?_)));(case side6 => rw [show t295.length = t270.length from (rr_ z8_.out).1.symm];exact (rr_ z8_.out).2.1);rintro e w121 ⟨rfl,hb⟩;refine ⟨_,rfl,?_⟩;have n0_:=mk_ (rb_ (qr_ z0_) hb);have n1_:=mk_ (rb_ (qr_ z1_) hb);have n2_:=mk_ (rb_ (qr_ z2_) hb);have n3_:=mk_ (rb_ (qr_ z3_) hb);have n4_:=mk_ (rb_ (qr_ z4_) hb);have n5_:=mk_ (rb_ (qr_ z5_) hb);have n6_:=mk_ (rb_ (qr_ z6_) hb);have n7_:=mk_ (rb_ (qr_ z7_) hb);have n8_:=mk_ (rb_ (qr_ z8_) hb);have n9_:=mk_ (blk_below (g:=gb228) (o:=.cells #[.int .i64 a0_0,.slice A0_1 l0_1.length c0_1,.slice A0_2 l0_2.length c0_2,.slice A0_3 l0_3.length c0_3] 25 (0,0)) (qk_ BK228) hb);have n10_:=mk_ (blk_below (g:=gb251) (o:=.cells #[.int .i64 t240,.slice Ao25 t241.length co25,.slice Ao26 t244.length co26,.slice Ao27 t247.length co27] 30 (0,0)) (qk_ BK251) hb);have n11_:=mk_ (blk_below (g:=gb262) (o:=.cells #[.int .i64 t252,.slice Ao34 t288.length co34,.slice Ao35 t289.length co35,.slice Ao36 t290.length co36] 30 (0,0)) (qk_ BK262) hb);have n12_:=mk_ (blk_below (g:=gb274) (o:=.cells #[.int .i64 t263,.slice Ao43 t264.length co43,.slice Ao44 t267.length co44,.slice Ao45 t270.length co45] 30 (0,0)) (qk_ BK274) hb);have n13_:=mk_ (st_ (u6_ HB GE228 GE251 GE262 GE274) hb);clear z0_ z1_ z2_ z3_ z4_ z5_ z6_ z7_ z8_ BK228 BK251 BK262 BK274 HB;have z0_:=n0_;have z1_:=n1_;have z2_:=n2_;have z3_:=n3_;have z4_:=n4_;have z5_:=n5_;have z6_:=n6_;have z7_:=n7_;have z8_:=n8_;have BK228:=n9_;have BK251:=n10_;have BK262:=n11_;have BK274:=n12_;have HB:=n13_;clear n0_ n1_ n2_ n3_ n4_ n5_ n6_ n7_ n8_ n9_ n10_ n11_ n12_ n13_;(try clear hb);(try clear hb2);(try clear hk);(try clear hi);have hnb122:=NB228_251.out;have hnc122:=NB251_228.out;have hnb123:=NB228_262.out;have hnc123:=NB262_228.out;have hcz124_0 : w121.cell? ⟨gb228,0,none⟩ = some (.int .i64 a0_0):=(bc_ BK228.out 0).trans rfl;have hcz124_1 : w121.cell? ⟨gb228,1,none⟩ = some (.slice A0_1 l0_1.length c0_1):=(bc_ BK228.out 1).trans rfl;have hcz124_2 : w121.cell? ⟨gb228,2,none⟩ = some (.slice A0_2 l0_2.length c0_2):=(bc_ BK228.out 2).trans rfl;have hcz124_3 : w121.cell? ⟨gb228,3,none⟩ = some (.slice A0_3 l0_3.length c0_3):=(bc_ BK228.out 3).trans rfl;have hfz124_0:=bf_ BK228.out 0;have hfz124_1:=bf_ BK228.out 1;have hfz124_2:=bf_ BK228.out 2;have hfz124_3:=bf_ BK228.out 3)|((with_reducible refine gate_callee (f:=14) rfl ?_);refine goesL_ (some 79) rfl rfl Try.func14 (by kernel_rfl) rfl #[.agg #[.int .i64 a0_0,.slice A0_1 l0_1.length c0_1,.slice A0_2 l0_2.length c0_2,.slice A0_3 l0_3.length c0_3]] rfl qm_ ?_;(with_reducible refine (laws_toNet.calls kj68 a0_0 _ _ l0_1 _ _ l0_2 _ _ l0_3 t297 t298 t301 t304 _ ?side1 ?side2 ?side3 ?side4 ?side5 ?side6 A112.out).mono ?_);(case side1 => exact qn_ HR0_1 HB);(case side2 => exact HC0_1.out);(case side3 => exact qn_ HR0_2 HB);(case side4 => exact HC0_2.out);(case side5 => exact qn_ HR0_3 HB);(case side6 => exact HC0_3.out);rintro e w125 ⟨v299,v302,v305,rfl,ho0,ho1,ho2,hb⟩;refine ⟨_,rfl,?_⟩;have n0_:=mk_ (re_ (qr_ z0_) (Kd.R_base ho0) hb);have n1_:=mk_ (rm_ (Kd.R_told (Kd.R_told (Kd.R_old (qr_ z1_) hb) (Kd.R_base ho1)) (Kd.R_base ho2)) (λ_ h=>h.1));have n2_:=mk_ (rm_ (Kd.R_told (Kd.R_told (Kd.R_old (qr_ z2_) hb) (Kd.R_base ho1)) (Kd.R_base ho2)) (λ_ h=>h.1));have n3_:=mk_ (re_ (qr_ z3_) (Kd.R_base ho0) hb);have n4_:=mk_ (rm_ (Kd.R_told (Kd.R_told (Kd.R_old (qr_ z4_) hb) (Kd.R_base ho1)) (Kd.R_base ho2)) (λ_ h=>h.1));have n5_:=mk_ (rm_ (Kd.R_told (Kd.R_told (Kd.R_old (qr_ z5_) hb) (Kd.R_base ho1)) (Kd.R_base ho2)) (λ_ h=>h.1));have n6_:=mk_ (re_ (qr_ z6_) (Kd.R_base ho0) hb);have n7_:=mk_ (rm_ (Kd.R_told (Kd.R_told (Kd.R_old (qr_ z7_) hb) (Kd.R_base ho1)) (Kd.R_base ho2)) (λ_ h=>h.1));have n8_:=mk_ (rm_ (Kd.R_told (Kd.R_told (Kd.R_old (qr_ z8_) hb) (Kd.R_base ho1)) (Kd.R_base ho2)) (λ_ h=>h.1));have n9_:=mk_ (Kd.R_lower (Kd.R_new' (Kd.R_new' (Kd.R_new' ho0 (Kd.R_lt (qr_ z0_))) (Kd.R_lt (qr_ z3_))) (Kd.R_lt (qr_ z6_))) (bz_ (u6_ HB GE228 GE251 GE262 GE274)));have n10_:=mk_ (Kd.R_lower (Kd.R_new' (Kd.R_new' (Kd.R_new' (Kd.R_new' (Kd.R_new' (Kd.R_new' ho1 (Kd.R_lt (qr_ z1_))) (Kd.R_lt (qr_ z2_))) (Kd.R_lt (qr_ z4_))) (Kd.R_lt (qr_ z5_))) (Kd.R_lt (qr_ z7_))) (Kd.R_lt (qr_ z8_))) (bz_ (u6_ HB GE228 GE251 GE262 GE274)));have n11_:=mk_ (Kd.R_lower (Kd.R_new' (Kd.R_new' (Kd.R_new' (Kd.R_new' (Kd.R_new' (Kd.R_new' ho2 (Kd.R_lt (qr_ z1_))) (Kd.R_lt (qr_ z2_))) (Kd.R_lt (qr_ z4_))) (Kd.R_lt (qr_ z5_))) (Kd.R_lt (qr_ z7_))) (Kd.R_lt (qr_ z8_))) (bz_ (u6_ HB GE228 GE251 GE262 GE274)));have n12_:=mk_ (blk_below (g:=gb228) (o:=.cells #[.int .i64 a0_0,.slice A0_1 l0_1.length c0_1,.slice A0_2 l0_2.length c0_2,.slice A0_3 l0_3.length c0_3] 25 (0,0)) (qk_ BK228) hb);have n13_:=mk_ (blk_below (g:=gb251) (o:=.cells #[.int .i64 t240,.slice Ao25 t241.length co25,.slice Ao26 t244.length co26,.slice Ao27 t247.length co27] 30 (0,0)) (qk_ BK251) hb);have n14_:=mk_ (blk_below (g:=gb262) (o:=.cells #[.int .i64 t252,.slice Ao34 t288.length co34,.slice Ao35 t289.length co35,.slice Ao36 t290.length co36] 30 (0,0)) (qk_ BK262) hb);have n15_:=mk_ (blk_below (g:=gb274) (o:=.cells #[.int .i64 t263,.slice Ao43 t264.length co43,.slice Ao44 t267.length co44,.slice Ao45 t270.length co45] 30 (0,0)) (qk_ BK274) hb);have n16_:=mk_ (st_ (u6_ HB GE228 GE251 GE262 GE274) hb);clear z0_ z1_ z2_ z3_ z4_ z5_ z6_ z7_ z8_ BK228 BK251 BK262 BK274 HB;have z0_:=n0_;have z1_:=n1_;have z2_:=n2_;have z3_:=n3_;have z4_:=n4_;have z5_:=n5_;have z6_:=n6_;have z7_:=n7_;have z8_:=n8_;have HO300:=n9_;have HO303:=n10_;have HO306:=n11_;have BK228:=n12_;have BK251:=n13_;have BK262:=n14_;have BK274:=n15_;have HB:=n16_;clear n0_ n1_ n2_ n3_ n4_ n5_ n6_ n7_ n8_ n9_ n10_ n11_ n12_ n13_ n14_ n15_ n16_;(try clear hb);(try clear hb2);(try clear hk);(try clear hi);(try clear ho0);(try clear ho1);(try clear ho2);obtain ⟨Ao126,co126,eo126⟩:=Kd.R_slice HO300.out;subst eo126;obtain ⟨Ao127,co127,eo127⟩:=Kd.R_slice HO303.out;subst eo127;obtain ⟨Ao128,co128,eo128⟩:=Kd.R_slice HO306.out;subst eo128)|((with_reducible refine gate_callee (f:=27) rfl ?_);refine goesL_ (some 81) rfl rfl Try.func27 (by kernel_rfl) rfl #[.agg #[.int .i64 t297,.slice Ao126 t298.length co126,.slice Ao127 t301.length co127,.slice Ao128 t304.length co128],.int .i64 a1] rfl qm_ ?_;(with_reducible refine (impl_CutCable.calls kj68 t297 _ _ t298 _ _ t301 _ _ t304 a1 t307 t308 t311 t314 t317 _ ?side1 ?side2 ?side3 ?side4 ?side5 ?side6 A113.out).mono ?_);(case side1 => repeat (first|exact (rr_ HO300.out).2.2|(with_reducible refine ca_ ?_ _)|(with_reducible refine cn_ ?_ _)|(with_reducible refine cd_ ?_)));(case side2 => exact (rr_ HO300.out).2.1);(case side3 => repeat (first|exact (rr_ HO303.out).2.2|(with_reducible refine ca_ ?_ _)|(with_reducible refine cn_ ?_ _)|(with_reducible refine cd_ ?_)));(case side4 => exact (rr_ HO303.out).2.1);(case side5 => repeat (first|exact (rr_ HO306.out).2.2|(with_reducible refine ca_ ?_ _)|(with_reducible refine cn_ ?_ _)|(with_reducible refine cd_ ?_)));(case side6 => exact (rr_ HO306.out).2.1);rintro e w129 ⟨v309,v312,v315,rfl,ho0,ho1,ho2,hb⟩;refine ⟨_,rfl,?_⟩;have n0_:=mk_ (re_ (qr_ z0_) (Kd.R_base ho0) hb);have n1_:=mk_ (rm_ (Kd.R_told (Kd.R_told (Kd.R_old (qr_ z1_) hb) (Kd.R_base ho1)) (Kd.R_base ho2)) (λ_ h=>h.1));have n2_:=mk_ (rm_ (Kd.R_told (Kd.R_told (Kd.R_old (qr_ z2_) hb) (Kd.R_base ho1)) (Kd.R_base ho2)) (λ_ h=>h.1));have n3_:=mk_ (re_ (qr_ z3_) (Kd.R_base ho0) hb);have n4_:=mk_ (rm_ (Kd.R_told (Kd.R_told (Kd.R_old (qr_ z4_) hb) (Kd.R_base ho1)) (Kd.R_base ho2)) (λ_ h=>h.1));have n5_:=mk_ (rm_ (Kd.R_told (Kd.R_told (Kd.R_old (qr_ z5_) hb) (Kd.R_base ho1)) (Kd.R_base ho2)) (λ_ h=>h.1));have n6_:=mk_ (re_ (qr_ z6_) (Kd.R_base ho0) hb);have n7_:=mk_ (rm_ (Kd.R_told (Kd.R_told (Kd.R_old (qr_ z7_) hb) (Kd.R_base ho1)) (Kd.R_base ho2)) (λ_ h=>h.1));have n8_:=mk_ (rm_ (Kd.R_told (Kd.R_told (Kd.R_old (qr_ z8_) hb) (Kd.R_base ho1)) (Kd.R_base ho2)) (λ_ h=>h.1));have n9_:=mk_ (re_ (qr_ HO300) (Kd.R_base ho0) hb);have n10_:=mk_ (rm_ (Kd.R_told (Kd.R_told (Kd.R_old (qr_ HO303) hb) (Kd.R_base ho1)) (Kd.R_base ho2)) (λ_ h=>h.1));have n11_:=mk_ (rm_ (Kd.R_told (Kd.R_told (Kd.R_old (qr_ HO306) hb) (Kd.R_base ho1)) (Kd.R_base ho2)) (λ_ h=>h.1));have n12_:=mk_ (Kd.R_lower (Kd.R_new' (Kd.R_new' (Kd.R_new' (Kd.R_new' ho0 (Kd.R_lt (qr_ z0_))) (Kd.R_lt (qr_ z3_))) (Kd.R_lt (qr_ z6_))) (Kd.R_lt (qr_ HO300))) (bz_ (u6_ HB GE228 GE251 GE262 GE274)));have n13_:=mk_ (Kd.R_lower (Kd.R_new' (Kd.R_new' (Kd.R_new' (Kd.R_new' (Kd.R_new' (Kd.R_new' (Kd.R_new' (Kd.R_new' ho1 (Kd.R_lt (qr_ z1_))) (Kd.R_lt (qr_ z2_))) (Kd.R_lt (qr_ z4_))) (Kd.R_lt (qr_ z5_))) (Kd.R_lt (qr_ z7_))) (Kd.R_lt (qr_ z8_))) (Kd.R_lt (qr_ HO303))) (Kd.R_lt (qr_ HO306))) (bz_ (u6_ HB GE228 GE251 GE262 GE274)));have n14_:=mk_ (Kd.R_lower (Kd.R_new' (Kd.R_new' (Kd.R_new' (Kd.R_new' (Kd.R_new' (Kd.R_new' (Kd.R_new' (Kd.R_new' ho2 (Kd.R_lt (qr_ z1_))) (Kd.R_lt (qr_ z2_))) (Kd.R_lt (qr_ z4_))) (Kd.R_lt (qr_ z5_))) (Kd.R_lt (qr_ z7_))) (Kd.R_lt (qr_ z8_))) (Kd.R_lt (qr_ HO303))) (Kd.R_lt (qr_ HO306))) (bz_ (u6_ HB GE228 GE251 GE262 GE274)));have n15_:=mk_ (blk_below (g:=gb228) (o:=.cells #[.int .i64 a0_0,.slice A0_1 l0_1.length c0_1,.slice A0_2 l0_2.length c0_2,.slice A0_3 l0_3.length c0_3] 25 (0,0)) (qk_ BK228) hb);have n16_:=mk_ (blk_below (g:=gb251) (o:=.cells #[.int .i64 t240,.slice Ao25 t241.length co25,.slice Ao26 t244.length co26,.slice Ao27 t247.length co27] 30 (0,0)) (qk_ BK251) hb);have n17_:=mk_ (blk_below (g:=gb262) (o:=.cells #[.int .i64 t252,.slice Ao34 t288.length co34,.slice Ao35 t289.length co35,.slice Ao36 t290.length co36] 30 (0,0)) (qk_ BK262) hb);have n18_:=mk_ (blk_below (g:=gb274) (o:=.cells #[.int .i64 t263,.slice Ao43 t264.length co43,.slice Ao44 t267.length co44,.slice Ao45 t270.length co45] 30 (0,0)) (qk_ BK274) hb);have n19_:=mk_ (st_ (u6_ HB GE228 GE251 GE262 GE274) hb);clear z0_ z1_ z2_ z3_ z4_ z5_ z6_ z7_ z8_ HO300 HO303 HO306 BK228 BK251 BK262 BK274 HB;have z0_:=n0_;have z1_:=n1_;have z2_:=n2_;have z3_:=n3_;have z4_:=n4_;have z5_:=n5_;have z6_:=n6_;have z7_:=n7_;have z8_:=n8_;have HO300:=n9_;have HO303:=n10_;have HO306:=n11_;have HO310:=n12_;have HO313:=n13_;have HO316:=n14_;have BK228:=n15_;have BK251:=n16_;have BK262:=n17_;have BK274:=n18_;have HB:=n19_;clear n0_ n1_ n2_ n3_ n4_ n5_ n6_ n7_ n8_ n9_ n10_ n11_ n12_ n13_ n14_ n15_ n16_ n17_ n18_ n19_;(try clear hb);(try clear hb2);(try clear hk);(try clear hi);(try clear ho0);(try clear ho1);(try clear ho2))|((with_reducible refine gate_dst (N:=14) rfl ?_);refine box_event ?hg (N:=14) ?hd (cs:=#[.int .i64 0,.slice none 0 0,.slice none 0 0,.slice none 0 0]) (t:=30) ?hr ?_;(case hd => rfl);(case hg => rfl);(case hr => first|(go_simp;done)|(go_simp;rfl));intro gb318 hg w130 hbox hb;have n0_:=mk_ (rb_ (qr_ z0_) hb);have n1_:=mk_ (rb_ (qr_ z1_) hb);have n2_:=mk_ (rb_ (qr_ z2_) hb);have n3_:=mk_ (rb_ (qr_ z3_) hb);have n4_:=mk_ (rb_ (qr_ z4_) hb);have n5_:=mk_ (rb_ (qr_ z5_) hb);have n6_:=mk_ (rb_ (qr_ z6_) hb);have n7_:=mk_ (rb_ (qr_ z7_) hb);have n8_:=mk_ (rb_ (qr_ z8_) hb);have n9_:=mk_ (rb_ (qr_ HO300) hb);have n10_:=mk_ (rb_ (qr_ HO303) hb);have n11_:=mk_ (rb_ (qr_ HO306) hb);have n12_:=mk_ (rb_ (qr_ HO310) hb);have n13_:=mk_ (rb_ (qr_ HO313) hb);have n14_:=mk_ (rb_ (qr_ HO316) hb);have n15_:=mk_ (blk_below (g:=gb228) (o:=.cells #[.int .i64 a0_0,.slice A0_1 l0_1.length c0_1,.slice A0_2 l0_2.length c0_2,.slice A0_3 l0_3.length c0_3] 25 (0,0)) (qk_ BK228) hb);have n16_:=mk_ (blk_below (g:=gb251) (o:=.cells #[.int .i64 t240,.slice Ao25 t241.length co25,.slice Ao26 t244.length co26,.slice Ao27 t247.length co27] 30 (0,0)) (qk_ BK251) hb);have n17_:=mk_ (blk_below (g:=gb262) (o:=.cells #[.int .i64 t252,.slice Ao34 t288.length co34,.slice Ao35 t289.length co35,.slice Ao36 t290.length co36] 30 (0,0)) (qk_ BK262) hb);have n18_:=mk_ (blk_below (g:=gb274) (o:=.cells #[.int .i64 t263,.slice Ao43 t264.length co43,.slice Ao44 t267.length co44,.slice Ao45 t270.length co45] 30 (0,0)) (qk_ BK274) hb);have n19_:=mk_ (st_ (u6_ HB GE228 GE251 GE262 GE274) hb);have n20_:=mk_ (hbox);have n21_:=mk_ ((by rw [hg];exact (bz_ (u6_ HB GE228 GE251 GE262 GE274)) : w.heap.size ≤ gb318));have n22_:=mk_ ((by rw [hg];exact (bz_ (u6_ HB GE228 GE251 GE262 GE274)) : w.heap.size ≤ gb318));have n23_:=mk_ ((by rw [hg];exact Nat.ne_of_lt (blk_lt (g:=gb228) (o:=.cells #[.int .i64 a0_0,.slice A0_1 l0_1.length c0_1,.slice A0_2 l0_2.length c0_2,.slice A0_3 l0_3.length c0_3] 25 (0,0)) (qk_ BK228)) : gb228 ≠ gb318));have n24_:=mk_ ((by rw [hg];exact Nat.ne_of_gt (blk_lt (g:=gb228) (o:=.cells #[.int .i64 a0_0,.slice A0_1 l0_1.length c0_1,.slice A0_2 l0_2.length c0_2,.slice A0_3 l0_3.length c0_3] 25 (0,0)) (qk_ BK228)) : gb318 ≠ gb228));have n25_:=mk_ ((by rw [hg];exact Nat.ne_of_lt (blk_lt (g:=gb251) (o:=.cells #[.int .i64 t240,.slice Ao25 t241.length co25,.slice Ao26 t244.length co26,.slice Ao27 t247.length co27] 30 (0,0)) (qk_ BK251)) : gb251 ≠ gb318));have n26_:=mk_ ((by rw [hg];exact Nat.ne_of_gt (blk_lt (g:=gb251) (o:=.cells #[.int .i64 t240,.slice Ao25 t241.length co25,.slice Ao26 t244.length co26,.slice Ao27 t247.length co27] 30 (0,0)) (qk_ BK251)) : gb318 ≠ gb251));have n27_:=mk_ ((by rw [hg];exact Nat.ne_of_lt (blk_lt (g:=gb262) (o:=.cells #[.int .i64 t252,.slice Ao34 t288.length co34,.slice Ao35 t289.length co35,.slice Ao36 t290.length co36] 30 (0,0)) (qk_ BK262)) : gb262 ≠ gb318));have n28_:=mk_ ((by rw [hg];exact Nat.ne_of_gt (blk_lt (g:=gb262) (o:=.cells #[.int .i64 t252,.slice Ao34 t288.length co34,.slice Ao35 t289.length co35,.slice Ao36 t290.length co36] 30 (0,0)) (qk_ BK262)) : gb318 ≠ gb262));have n29_:=mk_ ((by rw [hg];exact Nat.ne_of_lt (blk_lt (g:=gb274) (o:=.cells #[.int .i64 t263,.slice Ao43 t264.length co43,.slice Ao44 t267.length co44,.slice Ao45 t270.length co45] 30 (0,0)) (qk_ BK274)) : gb274 ≠ gb318));have n30_:=mk_ ((by rw [hg];exact Nat.ne_of_gt (blk_lt (g:=gb274) (o:=.cells #[.int .i64 t263,.slice Ao43 t264.length co43,.slice Ao44 t267.length co44,.slice Ao45 t270.length co45] 30 (0,0)) (qk_ BK274)) : gb318 ≠ gb274));clear z0_ z1_ z2_ z3_ z4_ z5_ z6_ z7_ z8_ HO300 HO303 HO306 HO310 HO313 HO316 BK228 BK251 BK262 BK274 HB;have z0_:=n0_;have z1_:=n1_;have z2_:=n2_;have z3_:=n3_;have z4_:=n4_;have z5_:=n5_;have z6_:=n6_;have z7_:=n7_;have z8_:=n8_;have HO300:=n9_;have HO303:=n10_;have HO306:=n11_;have HO310:=n12_;have HO313:=n13_;have HO316:=n14_;have BK228:=n15_;have BK251:=n16_;have BK262:=n17_;have BK274:=n18_;have HB:=n19_;have BK318:=n20_;have GW318:=n21_;have GE318:=n22_;have NB228_318:=n23_;have NB318_228:=n24_;have NB251_318:=n25_;have NB318_251:=n26_;have NB262_318:=n27_;have NB318_262:=n28_;have NB274_318:=n29_;have NB318_274:=n30_;clear n0_ n1_ n2_ n3_ n4_ n5_ n6_ n7_ n8_ n9_ n10_ n11_ n12_ n13_ n14_ n15_ n16_ n17_ n18_ n19_ n20_ n21_ n22_ n23_ n24_ n25_ n26_ n27_ n28_ n29_ n30_ hb hbox hg;have hnb131:=NB318_228.out;have hnc131:=NB228_318.out;have hnb132:=NB318_251.out;have hnc132:=NB251_318.out;have hnb133:=NB318_262.out;have hnc133:=NB262_318.out;have hnb134:=NB318_274.out;have hnc134:=NB274_318.out;have hcz135_0 : w130.cell? ⟨gb318,0,none⟩ = some (.int .i64 0):=(bc_ BK318.out 0).trans rfl;have hcz135_1 : w130.cell? ⟨gb318,1,none⟩ = some (.slice none 0 0):=(bc_ BK318.out 1).trans rfl;have hcz135_2 : w130.cell? ⟨gb318,2,none⟩ = some (.slice none 0 0):=(bc_ BK318.out 2).trans rfl;have hcz135_3 : w130.cell? ⟨gb318,3,none⟩ = some (.slice none 0 0):=(bc_ BK318.out 3).trans rfl;have hfz135_0:=bf_ BK318.out 0;have hfz135_1:=bf_ BK318.out 1;have hfz135_2:=bf_ BK318.out 2;have hfz135_3:=bf_ BK318.out 3;obtain ⟨Ao136,co136,eo136⟩:=Kd.R_slice HO310.out;subst eo136;obtain ⟨Ao137,co137,eo137⟩:=Kd.R_slice HO313.out;subst eo137;obtain ⟨Ao138,co138,eo138⟩:=Kd.R_slice HO316.out;subst eo138))
           (try simp only [Act.put,sx_,sy_,sz_])
           go_cut [92] (fun v92 wc => ∃ (kq : Nat) (x92_113 : Bool),v92 = .bool x92_113 ∧ Aside0 (laws_FnExactCutCable.j2 kq t292 x92_113 t263 t293 t294 t295 = some r) ∧ Aside0 (kq ≤ kj68) ∧ Aside0 (Kd.R k51 51 wc w.heap.size (fun k_ => some k_ ≠ ((.slice Ao34 t288.length co34) : Value).ownBlock ∧ some k_ ≠ ((.slice Ao43 t264.length co43) : Value).ownBlock ∧ some k_ ≠ ((.slice Ao136 t308.length co136) : Value).ownBlock) (.slice Ao25 t241.length co25) t241) ∧ Aside0 (Kd.R (Kd.int .i64) 3 wc w.heap.size (fun k_ => some k_ ≠ ((.slice Ao27 t247.length co27) : Value).ownBlock ∧ some k_ ≠ ((.slice Ao35 t289.length co35) : Value).ownBlock ∧ some k_ ≠ ((.slice Ao36 t290.length co36) : Value).ownBlock ∧ some k_ ≠ ((.slice Ao44 t267.length co44) : Value).ownBlock ∧ some k_ ≠ ((.slice Ao45 t270.length co45) : Value).ownBlock ∧ some k_ ≠ ((.slice Ao137 t311.length co137) : Value).ownBlock ∧ some k_ ≠ ((.slice Ao138 t314.length co138) : Value).ownBlock) (.slice Ao26 t244.length co26) t244) ∧ Aside0 (Kd.R (Kd.int .i64) 3 wc w.heap.size (fun k_ => some k_ ≠ ((.slice Ao26 t244.length co26) : Value).ownBlock ∧ some k_ ≠ ((.slice Ao35 t289.length co35) : Value).ownBlock ∧ some k_ ≠ ((.slice Ao36 t290.length co36) : Value).ownBlock ∧ some k_ ≠ ((.slice Ao44 t267.length co44) : Value).ownBlock ∧ some k_ ≠ ((.slice Ao45 t270.length co45) : Value).ownBlock ∧ some k_ ≠ ((.slice Ao137 t311.length co137) : Value).ownBlock ∧ some k_ ≠ ((.slice Ao138 t314.length co138) : Value).ownBlock) (.slice Ao27 t247.length co27) t247) ∧ Aside0 (Kd.R k51 51 wc w.heap.size (fun k_ => some k_ ≠ ((.slice Ao25 t241.length co25) : Value).ownBlock ∧ some k_ ≠ ((.slice Ao43 t264.length co43) : Value).ownBlock ∧ some k_ ≠ ((.slice Ao136 t308.length co136) : Value).ownBlock) (.slice Ao34 t288.length co34) t288) ∧ Aside0 (Kd.R (Kd.int .i64) 3 wc w.heap.size (fun k_ => some k_ ≠ ((.slice Ao26 t244.length co26) : Value).ownBlock ∧ some k_ ≠ ((.slice Ao27 t247.length co27) : Value).ownBlock ∧ some k_ ≠ ((.slice Ao36 t290.length co36) : Value).ownBlock ∧ some k_ ≠ ((.slice Ao44 t267.length co44) : Value).ownBlock ∧ some k_ ≠ ((.slice Ao45 t270.length co45) : Value).ownBlock ∧ some k_ ≠ ((.slice Ao137 t311.length co137) : Value).ownBlock ∧ some k_ ≠ ((.slice Ao138 t314.length co138) : Value).ownBlock) (.slice Ao35 t289.length co35) t289) ∧ Aside0 (Kd.R (Kd.int .i64) 3 wc w.heap.size (fun k_ => some k_ ≠ ((.slice Ao26 t244.length co26) : Value).ownBlock ∧ some k_ ≠ ((.slice Ao27 t247.length co27) : Value).ownBlock ∧ some k_ ≠ ((.slice Ao35 t289.length co35) : Value).ownBlock ∧ some k_ ≠ ((.slice Ao44 t267.length co44) : Value).ownBlock ∧ some k_ ≠ ((.slice Ao45 t270.length co45) : Value).ownBlock ∧ some k_ ≠ ((.slice Ao137 t311.length co137) : Value).ownBlock ∧ some k_ ≠ ((.slice Ao138 t314.length co138) : Value).ownBlock) (.slice Ao36 t290.length co36) t290) ∧ Aside0 (Kd.R k51 51 wc w.heap.size (fun k_ => some k_ ≠ ((.slice Ao25 t241.length co25) : Value).ownBlock ∧ some k_ ≠ ((.slice Ao34 t288.length co34) : Value).ownBlock ∧ some k_ ≠ ((.slice Ao136 t308.length co136) : Value).ownBlock) (.slice Ao43 t264.length co43) t293) ∧ Aside0 (Kd.R (Kd.int .i64) 3 wc w.heap.size (fun k_ => some k_ ≠ ((.slice Ao26 t244.length co26) : Value).ownBlock ∧ some k_ ≠ ((.slice Ao27 t247.length co27) : Value).ownBlock ∧ some k_ ≠ ((.slice Ao35 t289.length co35) : Value).ownBlock ∧ some k_ ≠ ((.slice Ao36 t290.length co36) : Value).ownBlock ∧ some k_ ≠ ((.slice Ao45 t270.length co45) : Value).ownBlock ∧ some k_ ≠ ((.slice Ao137 t311.length co137) : Value).ownBlock ∧ some k_ ≠ ((.slice Ao138 t314.length co138) : Value).ownBlock) (.slice Ao44 t267.length co44) t294) ∧ Aside0 (Kd.R (Kd.int .i64) 3 wc w.heap.size (fun k_ => some k_ ≠ ((.slice Ao26 t244.length co26) : Value).ownBlock ∧ some k_ ≠ ((.slice Ao27 t247.length co27) : Value).ownBlock ∧ some k_ ≠ ((.slice Ao35 t289.length co35) : Value).ownBlock ∧ some k_ ≠ ((.slice Ao36 t290.length co36) : Value).ownBlock ∧ some k_ ≠ ((.slice Ao44 t267.length co44) : Value).ownBlock ∧ some k_ ≠ ((.slice Ao137 t311.length co137) : Value).ownBlock ∧ some k_ ≠ ((.slice Ao138 t314.length co138) : Value).ownBlock) (.slice Ao45 t270.length co45) t295) ∧ Aside0 (Kd.R k51 51 wc w.heap.size (fun k_ => some k_ ≠ ((.slice Ao25 t241.length co25) : Value).ownBlock ∧ some k_ ≠ ((.slice Ao34 t288.length co34) : Value).ownBlock ∧ some k_ ≠ ((.slice Ao43 t264.length co43) : Value).ownBlock) (.slice Ao136 t308.length co136) t308) ∧ Aside0 (Kd.R (Kd.int .i64) 3 wc w.heap.size (fun k_ => some k_ ≠ ((.slice Ao26 t244.length co26) : Value).ownBlock ∧ some k_ ≠ ((.slice Ao27 t247.length co27) : Value).ownBlock ∧ some k_ ≠ ((.slice Ao35 t289.length co35) : Value).ownBlock ∧ some k_ ≠ ((.slice Ao36 t290.length co36) : Value).ownBlock ∧ some k_ ≠ ((.slice Ao44 t267.length co44) : Value).ownBlock ∧ some k_ ≠ ((.slice Ao45 t270.length co45) : Value).ownBlock ∧ some k_ ≠ ((.slice Ao138 t314.length co138) : Value).ownBlock) (.slice Ao137 t311.length co137) t311) ∧ Aside0 (Kd.R (Kd.int .i64) 3 wc w.heap.size (fun k_ => some k_ ≠ ((.slice Ao26 t244.length co26) : Value).ownBlock ∧ some k_ ≠ ((.slice Ao27 t247.length co27) : Value).ownBlock ∧ some k_ ≠ ((.slice Ao35 t289.length co35) : Value).ownBlock ∧ some k_ ≠ ((.slice Ao36 t290.length co36) : Value).ownBlock ∧ some k_ ≠ ((.slice Ao44 t267.length co44) : Value).ownBlock ∧ some k_ ≠ ((.slice Ao45 t270.length co45) : Value).ownBlock ∧ some k_ ≠ ((.slice Ao137 t311.length co137) : Value).ownBlock) (.slice Ao138 t314.length co138) t314) ∧ Aside0 (wc.heap[gb228]? = some (.cells #[.int .i64 a0_0,(.slice A0_1 l0_1.length c0_1),(.slice A0_2 l0_2.length c0_2),(.slice A0_3 l0_3.length c0_3)] 25 (0,0))) ∧ Aside0 (wc.heap[gb251]? = some (.cells #[.int .i64 t240,(.slice Ao25 t241.length co25),(.slice Ao26 t244.length co26),(.slice Ao27 t247.length co27)] 30 (0,0))) ∧ Aside0 (wc.heap[gb262]? = some (.cells #[.int .i64 t252,(.slice Ao34 t288.length co34),(.slice Ao35 t289.length co35),(.slice Ao36 t290.length co36)] 30 (0,0))) ∧ Aside0 (wc.heap[gb274]? = some (.cells #[.int .i64 t263,(.slice Ao43 t264.length co43),(.slice Ao44 t267.length co44),(.slice Ao45 t270.length co45)] 30 (0,0))) ∧ Aside0 (wc.heap[gb318]? = some (.cells #[.int .i64 t307,(.slice Ao136 t308.length co136),(.slice Ao137 t311.length co137),(.slice Ao138 t314.length co138)] 30 (0,0))) ∧ Aside0 (Below w.heap.size w wc))
           case first =>
            have H:=HC114.out
            clear HC114
            replace H:=Option.bind_eq_some_iff.mp H
            obtain ⟨t319,A1390,H⟩:=H
            replace H : (if t319 = true then (laws_FnExactCutCable.j2 kj68 t292 (t317 != t250) t263 t293 t294 t295) else (laws_FnExactCutCable.j2 kj68 t292 true t263 t293 t294 t295)) = some r:=H
            have A139:=mk_ A1390
            clear A1390
            by_cases c140 : t319 = true
            ·subst c140
             have H1 : (laws_FnExactCutCable.j2 kj68 t292 (t317 != t250) t263 t293 t294 t295) = some r:=by rw [if_pos rfl] at H;exact H
             clear H
             have H:=H1
             clear H1
             have H':=mk_ H
             clear H
             have hnb141:=NB318_228.out
             have hnc141:=NB228_318.out
             have hnb142:=NB318_251.out
             have hnc142:=NB251_318.out
             have hnb143:=NB318_262.out
             have hnc143:=NB262_318.out
             have hnb144:=NB318_274.out
             have hnc144:=NB274_318.out
             have hcz145_0 : w130.cell? ⟨gb318,0,none⟩ = some (.int .i64 0):=(bc_ BK318.out 0).trans rfl
             have hcz145_1 : w130.cell? ⟨gb318,1,none⟩ = some (.slice none 0 0):=(bc_ BK318.out 1).trans rfl
             have hcz145_2 : w130.cell? ⟨gb318,2,none⟩ = some (.slice none 0 0):=(bc_ BK318.out 2).trans rfl
             have hcz145_3 : w130.cell? ⟨gb318,3,none⟩ = some (.slice none 0 0):=(bc_ BK318.out 3).trans rfl
             have hfz145_0:=bf_ BK318.out 0
             have hfz145_1:=bf_ BK318.out 1
             have hfz145_2:=bf_ BK318.out 2
             have hfz145_3:=bf_ BK318.out 3
             have hnb146:=NB251_228.out
             have hnc146:=NB228_251.out
             have hnb147:=NB251_262.out
             have hnc147:=NB262_251.out
             have hnb148:=NB251_274.out
             have hnc148:=NB274_251.out
             have hcz149_0 : w130.cell? ⟨gb251,0,none⟩ = some (.int .i64 t240):=(bc_ BK251.out 0).trans rfl
             have hcz149_1 : w130.cell? ⟨gb251,1,none⟩ = some (.slice Ao25 t241.length co25):=(bc_ BK251.out 1).trans rfl
             have hcz149_2 : w130.cell? ⟨gb251,2,none⟩ = some (.slice Ao26 t244.length co26):=(bc_ BK251.out 2).trans rfl
             have hcz149_3 : w130.cell? ⟨gb251,3,none⟩ = some (.slice Ao27 t247.length co27):=(bc_ BK251.out 3).trans rfl
             have hfz149_0:=bf_ BK251.out 0
             have hfz149_1:=bf_ BK251.out 1
             have hfz149_2:=bf_ BK251.out 2
             have hfz149_3:=bf_ BK251.out 3
             go_wp2_with (first|((with_reducible refine gate_callee (f:=16) rfl ?_);refine goesL_ (some 86) rfl rfl Try.func16 (by kernel_rfl) rfl #[.agg #[.int .i64 t307,.slice Ao136 t308.length co136,.slice Ao137 t311.length co137,.slice Ao138 t314.length co138],.agg #[.int .i64 t240,.slice Ao25 t241.length co25,.slice Ao26 t244.length co26,.slice Ao27 t247.length co27]] rfl qm_ ?_;(with_reducible refine (laws_eqNet.calls kj68 t307 _ _ t308 _ _ t311 _ _ t314 t240 _ _ t241 _ _ t244 _ _ t247 true _ ?side1 ?side2 ?side3 ?side4 ?side5 ?side6 ?side7 ?side8 ?side9 ?side10 ?side11 ?side12 A139.out).mono ?_);(case side1 => refine (rr_ (e:=51) (base:=w.heap.size) (ok:=fun k_ => ((((True ∧ some k_ ≠ (.slice Ao25 t241.length co25 : Value).ownBlock) ∧ some k_ ≠ (.slice Ao34 t288.length co34 : Value).ownBlock) ∧ some k_ ≠ (.slice Ao43 t264.length co43 : Value).ownBlock) ∧ some k_ ≠ (.slice Ao126 t298.length co126 : Value).ownBlock)) (n:=t308.length) (c:=co136) ?_).2.2;exact (by (with_reducible repeat (first|apply ra_|apply rn_|apply rd_));exact (rm_ (rf_ (p:=⟨gb318,3,none⟩) (rf_ (p:=⟨gb318,2,none⟩) (rf_ (p:=⟨gb318,1,none⟩) (rf_ (p:=⟨gb318,0,none⟩) (rt_ HO310.out BK318.out (by decide)) (λ_ h=>h.2) (.int .i64 t307)) (λ_ h=>h.2) (.slice Ao136 t308.length co136)) (λ_ h=>h.2) (.slice Ao137 t311.length co137)) (λ_ h=>h.2) (.slice Ao138 t314.length co138)) (λ_ h=>h.1))));(case side2 => exact (rr_ HO310.out).2.1);(case side3 => refine (rr_ (e:=3) (base:=w.heap.size) (ok:=fun k_ => ((((((((some k_ ≠ (.slice Ao138 t314.length co138 : Value).ownBlock ∧ some k_ ≠ (.slice Ao26 t244.length co26 : Value).ownBlock) ∧ some k_ ≠ (.slice Ao27 t247.length co27 : Value).ownBlock) ∧ some k_ ≠ (.slice Ao35 t289.length co35 : Value).ownBlock) ∧ some k_ ≠ (.slice Ao36 t290.length co36 : Value).ownBlock) ∧ some k_ ≠ (.slice Ao44 t267.length co44 : Value).ownBlock) ∧ some k_ ≠ (.slice Ao45 t270.length co45 : Value).ownBlock) ∧ some k_ ≠ (.slice Ao127 t301.length co127 : Value).ownBlock) ∧ some k_ ≠ (.slice Ao128 t304.length co128 : Value).ownBlock)) (n:=t311.length) (c:=co137) ?_).2.2;exact (by (with_reducible repeat (first|apply ra_|apply rn_|apply rd_));exact (rm_ (rf_ (p:=⟨gb318,3,none⟩) (rf_ (p:=⟨gb318,2,none⟩) (rf_ (p:=⟨gb318,1,none⟩) (rf_ (p:=⟨gb318,0,none⟩) (rt_ HO313.out BK318.out (by decide)) (λ_ h=>h.2) (.int .i64 t307)) (λ_ h=>h.2) (.slice Ao136 t308.length co136)) (λ_ h=>h.2) (.slice Ao137 t311.length co137)) (λ_ h=>h.2) (.slice Ao138 t314.length co138)) (λ_ h=>h.1))));(case side4 => exact (rr_ HO313.out).2.1);(case side5 => refine (rr_ (e:=3) (base:=w.heap.size) (ok:=fun k_ => ((((((((some k_ ≠ (.slice Ao137 t311.length co137 : Value).ownBlock ∧ some k_ ≠ (.slice Ao26 t244.length co26 : Value).ownBlock) ∧ some k_ ≠ (.slice Ao27 t247.length co27 : Value).ownBlock) ∧ some k_ ≠ (.slice Ao35 t289.length co35 : Value).ownBlock) ∧ some k_ ≠ (.slice Ao36 t290.length co36 : Value).ownBlock) ∧ some k_ ≠ (.slice Ao44 t267.length co44 : Value).ownBlock) ∧ some k_ ≠ (.slice Ao45 t270.length co45 : Value).ownBlock) ∧ some k_ ≠ (.slice Ao127 t301.length co127 : Value).ownBlock) ∧ some k_ ≠ (.slice Ao128 t304.length co128 : Value).ownBlock)) (n:=t314.length) (c:=co138) ?_).2.2;exact (by (with_reducible repeat (first|apply ra_|apply rn_|apply rd_));exact (rm_ (rf_ (p:=⟨gb318,3,none⟩) (rf_ (p:=⟨gb318,2,none⟩) (rf_ (p:=⟨gb318,1,none⟩) (rf_ (p:=⟨gb318,0,none⟩) (rt_ HO316.out BK318.out (by decide)) (λ_ h=>h.2) (.int .i64 t307)) (λ_ h=>h.2) (.slice Ao136 t308.length co136)) (λ_ h=>h.2) (.slice Ao137 t311.length co137)) (λ_ h=>h.2) (.slice Ao138 t314.length co138)) (λ_ h=>h.1))));(case side6 => exact (rr_ HO316.out).2.1);(case side7 => refine (rr_ (e:=51) (base:=w.heap.size) (ok:=fun k_ => (((some k_ ≠ (.slice Ao34 t288.length co34 : Value).ownBlock ∧ some k_ ≠ (.slice Ao43 t264.length co43 : Value).ownBlock) ∧ some k_ ≠ (.slice Ao126 t298.length co126 : Value).ownBlock) ∧ some k_ ≠ (.slice Ao136 t308.length co136 : Value).ownBlock)) (n:=t241.length) (c:=co25) ?_).2.2;exact (by (with_reducible repeat (first|apply ra_|apply rn_|apply rd_));exact (rm_ (rf_ (p:=⟨gb318,3,none⟩) (rf_ (p:=⟨gb318,2,none⟩) (rf_ (p:=⟨gb318,1,none⟩) (rf_ (p:=⟨gb318,0,none⟩) (rt_ z0_.out BK318.out (by decide)) (λ_ h=>h.2) (.int .i64 t307)) (λ_ h=>h.2) (.slice Ao136 t308.length co136)) (λ_ h=>h.2) (.slice Ao137 t311.length co137)) (λ_ h=>h.2) (.slice Ao138 t314.length co138)) (λ_ h=>h.1))));(case side8 => exact (rr_ z0_.out).2.1);(case side9 => refine (rr_ (e:=3) (base:=w.heap.size) (ok:=fun k_ => (((((some k_ ≠ (.slice Ao27 t247.length co27 : Value).ownBlock ∧ (some k_ ≠ (.slice Ao35 t289.length co35 : Value).ownBlock ∧ (some k_ ≠ (.slice Ao36 t290.length co36 : Value).ownBlock ∧ (some k_ ≠ (.slice Ao44 t267.length co44 : Value).ownBlock ∧ some k_ ≠ (.slice Ao45 t270.length co45 : Value).ownBlock)))) ∧ some k_ ≠ (.slice Ao127 t301.length co127 : Value).ownBlock) ∧ some k_ ≠ (.slice Ao128 t304.length co128 : Value).ownBlock) ∧ some k_ ≠ (.slice Ao137 t311.length co137 : Value).ownBlock) ∧ some k_ ≠ (.slice Ao138 t314.length co138 : Value).ownBlock)) (n:=t244.length) (c:=co26) ?_).2.2;exact (by (with_reducible repeat (first|apply ra_|apply rn_|apply rd_));exact (rm_ (rf_ (p:=⟨gb318,3,none⟩) (rf_ (p:=⟨gb318,2,none⟩) (rf_ (p:=⟨gb318,1,none⟩) (rf_ (p:=⟨gb318,0,none⟩) (rt_ z1_.out BK318.out (by decide)) (λ_ h=>h.2) (.int .i64 t307)) (λ_ h=>h.2) (.slice Ao136 t308.length co136)) (λ_ h=>h.2) (.slice Ao137 t311.length co137)) (λ_ h=>h.2) (.slice Ao138 t314.length co138)) (λ_ h=>h.1))));(case side10 => exact (rr_ z1_.out).2.1);(case side11 => refine (rr_ (e:=3) (base:=w.heap.size) (ok:=fun k_ => (((((some k_ ≠ (.slice Ao26 t244.length co26 : Value).ownBlock ∧ (some k_ ≠ (.slice Ao35 t289.length co35 : Value).ownBlock ∧ (some k_ ≠ (.slice Ao36 t290.length co36 : Value).ownBlock ∧ (some k_ ≠ (.slice Ao44 t267.length co44 : Value).ownBlock ∧ some k_ ≠ (.slice Ao45 t270.length co45 : Value).ownBlock)))) ∧ some k_ ≠ (.slice Ao127 t301.length co127 : Value).ownBlock) ∧ some k_ ≠ (.slice Ao128 t304.length co128 : Value).ownBlock) ∧ some k_ ≠ (.slice Ao137 t311.length co137 : Value).ownBlock) ∧ some k_ ≠ (.slice Ao138 t314.length co138 : Value).ownBlock)) (n:=t247.length) (c:=co27) ?_).2.2;exact (by (with_reducible repeat (first|apply ra_|apply rn_|apply rd_));exact (rm_ (rf_ (p:=⟨gb318,3,none⟩) (rf_ (p:=⟨gb318,2,none⟩) (rf_ (p:=⟨gb318,1,none⟩) (rf_ (p:=⟨gb318,0,none⟩) (rt_ z2_.out BK318.out (by decide)) (λ_ h=>h.2) (.int .i64 t307)) (λ_ h=>h.2) (.slice Ao136 t308.length co136)) (λ_ h=>h.2) (.slice Ao137 t311.length co137)) (λ_ h=>h.2) (.slice Ao138 t314.length co138)) (λ_ h=>h.1))));(case side12 => exact (rr_ z2_.out).2.1);rintro e w150 ⟨rfl,hb⟩;refine ⟨_,rfl,?_⟩;have n0_:=mk_ (rb_ (by (with_reducible repeat (first|apply ra_|apply rn_|apply rd_));exact (rm_ (rf_ (p:=⟨gb318,3,none⟩) (rf_ (p:=⟨gb318,2,none⟩) (rf_ (p:=⟨gb318,1,none⟩) (rf_ (p:=⟨gb318,0,none⟩) (rt_ z0_.out BK318.out (by decide)) (λ_ h=>h.2) (.int .i64 t307)) (λ_ h=>h.2) (.slice Ao136 t308.length co136)) (λ_ h=>h.2) (.slice Ao137 t311.length co137)) (λ_ h=>h.2) (.slice Ao138 t314.length co138)) (λ_ h=>h.1))) hb);have n1_:=mk_ (rb_ (by (with_reducible repeat (first|apply ra_|apply rn_|apply rd_));exact (rm_ (rf_ (p:=⟨gb318,3,none⟩) (rf_ (p:=⟨gb318,2,none⟩) (rf_ (p:=⟨gb318,1,none⟩) (rf_ (p:=⟨gb318,0,none⟩) (rt_ z1_.out BK318.out (by decide)) (λ_ h=>h.2) (.int .i64 t307)) (λ_ h=>h.2) (.slice Ao136 t308.length co136)) (λ_ h=>h.2) (.slice Ao137 t311.length co137)) (λ_ h=>h.2) (.slice Ao138 t314.length co138)) (λ_ h=>h.1))) hb);have n2_:=mk_ (rb_ (by (with_reducible repeat (first|apply ra_|apply rn_|apply rd_));exact (rm_ (rf_ (p:=⟨gb318,3,none⟩) (rf_ (p:=⟨gb318,2,none⟩) (rf_ (p:=⟨gb318,1,none⟩) (rf_ (p:=⟨gb318,0,none⟩) (rt_ z2_.out BK318.out (by decide)) (λ_ h=>h.2) (.int .i64 t307)) (λ_ h=>h.2) (.slice Ao136 t308.length co136)) (λ_ h=>h.2) (.slice Ao137 t311.length co137)) (λ_ h=>h.2) (.slice Ao138 t314.length co138)) (λ_ h=>h.1))) hb);have n3_:=mk_ (rb_ (by (with_reducible repeat (first|apply ra_|apply rn_|apply rd_));exact (rm_ (rf_ (p:=⟨gb318,3,none⟩) (rf_ (p:=⟨gb318,2,none⟩) (rf_ (p:=⟨gb318,1,none⟩) (rf_ (p:=⟨gb318,0,none⟩) (rt_ z3_.out BK318.out (by decide)) (λ_ h=>h.2) (.int .i64 t307)) (λ_ h=>h.2) (.slice Ao136 t308.length co136)) (λ_ h=>h.2) (.slice Ao137 t311.length co137)) (λ_ h=>h.2) (.slice Ao138 t314.length co138)) (λ_ h=>h.1))) hb);have n4_:=mk_ (rb_ (by (with_reducible repeat (first|apply ra_|apply rn_|apply rd_));exact (rm_ (rf_ (p:=⟨gb318,3,none⟩) (rf_ (p:=⟨gb318,2,none⟩) (rf_ (p:=⟨gb318,1,none⟩) (rf_ (p:=⟨gb318,0,none⟩) (rt_ z4_.out BK318.out (by decide)) (λ_ h=>h.2) (.int .i64 t307)) (λ_ h=>h.2) (.slice Ao136 t308.length co136)) (λ_ h=>h.2) (.slice Ao137 t311.length co137)) (λ_ h=>h.2) (.slice Ao138 t314.length co138)) (λ_ h=>h.1))) hb);have n5_:=mk_ (rb_ (by (with_reducible repeat (first|apply ra_|apply rn_|apply rd_));exact (rm_ (rf_ (p:=⟨gb318,3,none⟩) (rf_ (p:=⟨gb318,2,none⟩) (rf_ (p:=⟨gb318,1,none⟩) (rf_ (p:=⟨gb318,0,none⟩) (rt_ z5_.out BK318.out (by decide)) (λ_ h=>h.2) (.int .i64 t307)) (λ_ h=>h.2) (.slice Ao136 t308.length co136)) (λ_ h=>h.2) (.slice Ao137 t311.length co137)) (λ_ h=>h.2) (.slice Ao138 t314.length co138)) (λ_ h=>h.1))) hb);have n6_:=mk_ (rb_ (by (with_reducible repeat (first|apply ra_|apply rn_|apply rd_));exact (rm_ (rf_ (p:=⟨gb318,3,none⟩) (rf_ (p:=⟨gb318,2,none⟩) (rf_ (p:=⟨gb318,1,none⟩) (rf_ (p:=⟨gb318,0,none⟩) (rt_ z6_.out BK318.out (by decide)) (λ_ h=>h.2) (.int .i64 t307)) (λ_ h=>h.2) (.slice Ao136 t308.length co136)) (λ_ h=>h.2) (.slice Ao137 t311.length co137)) (λ_ h=>h.2) (.slice Ao138 t314.length co138)) (λ_ h=>h.1))) hb);have n7_:=mk_ (rb_ (by (with_reducible repeat (first|apply ra_|apply rn_|apply rd_));exact (rm_ (rf_ (p:=⟨gb318,3,none⟩) (rf_ (p:=⟨gb318,2,none⟩) (rf_ (p:=⟨gb318,1,none⟩) (rf_ (p:=⟨gb318,0,none⟩) (rt_ z7_.out BK318.out (by decide)) (λ_ h=>h.2) (.int .i64 t307)) (λ_ h=>h.2) (.slice Ao136 t308.length co136)) (λ_ h=>h.2) (.slice Ao137 t311.length co137)) (λ_ h=>h.2) (.slice Ao138 t314.length co138)) (λ_ h=>h.1))) hb);have n8_:=mk_ (rb_ (by (with_reducible repeat (first|apply ra_|apply rn_|apply rd_));exact (rm_ (rf_ (p:=⟨gb318,3,none⟩) (rf_ (p:=⟨gb318,2,none⟩) (rf_ (p:=⟨gb318,1,none⟩) (rf_ (p:=⟨gb318,0,none⟩) (rt_ z8_.out BK318.out (by decide)) (λ_ h=>h.2) (.int .i64 t307)) (λ_ h=>h.2) (.slice Ao136 t308.length co136)) (λ_ h=>h.2) (.slice Ao137 t311.length co137)) (λ_ h=>h.2) (.slice Ao138 t314.length co138)) (λ_ h=>h.1))) hb);have n9_:=mk_ (rb_ (by (with_reducible repeat (first|apply ra_|apply rn_|apply rd_));exact (rm_ (rf_ (p:=⟨gb318,3,none⟩) (rf_ (p:=⟨gb318,2,none⟩) (rf_ (p:=⟨gb318,1,none⟩) (rf_ (p:=⟨gb318,0,none⟩) (rt_ HO300.out BK318.out (by decide)) (λ_ h=>h.2) (.int .i64 t307)) (λ_ h=>h.2) (.slice Ao136 t308.length co136)) (λ_ h=>h.2) (.slice Ao137 t311.length co137)) (λ_ h=>h.2) (.slice Ao138 t314.length co138)) (λ_ h=>h.1))) hb);have n10_:=mk_ (rb_ (by (with_reducible repeat (first|apply ra_|apply rn_|apply rd_));exact (rm_ (rf_ (p:=⟨gb318,3,none⟩) (rf_ (p:=⟨gb318,2,none⟩) (rf_ (p:=⟨gb318,1,none⟩) (rf_ (p:=⟨gb318,0,none⟩) (rt_ HO303.out BK318.out (by decide)) (λ_ h=>h.2) (.int .i64 t307)) (λ_ h=>h.2) (.slice Ao136 t308.length co136)) (λ_ h=>h.2) (.slice Ao137 t311.length co137)) (λ_ h=>h.2) (.slice Ao138 t314.length co138)) (λ_ h=>h.1))) hb);have n11_:=mk_ (rb_ (by (with_reducible repeat (first|apply ra_|apply rn_|apply rd_));exact (rm_ (rf_ (p:=⟨gb318,3,none⟩) (rf_ (p:=⟨gb318,2,none⟩) (rf_ (p:=⟨gb318,1,none⟩) (rf_ (p:=⟨gb318,0,none⟩) (rt_ HO306.out BK318.out (by decide)) (λ_ h=>h.2) (.int .i64 t307)) (λ_ h=>h.2) (.slice Ao136 t308.length co136)) (λ_ h=>h.2) (.slice Ao137 t311.length co137)) (λ_ h=>h.2) (.slice Ao138 t314.length co138)) (λ_ h=>h.1))) hb);have n12_:=mk_ (rb_ (by (with_reducible repeat (first|apply ra_|apply rn_|apply rd_));exact (rm_ (rf_ (p:=⟨gb318,3,none⟩) (rf_ (p:=⟨gb318,2,none⟩) (rf_ (p:=⟨gb318,1,none⟩) (rf_ (p:=⟨gb318,0,none⟩) (rt_ HO310.out BK318.out (by decide)) (λ_ h=>h.2) (.int .i64 t307)) (λ_ h=>h.2) (.slice Ao136 t308.length co136)) (λ_ h=>h.2) (.slice Ao137 t311.length co137)) (λ_ h=>h.2) (.slice Ao138 t314.length co138)) (λ_ h=>h.1))) hb);have n13_:=mk_ (rb_ (by (with_reducible repeat (first|apply ra_|apply rn_|apply rd_));exact (rm_ (rf_ (p:=⟨gb318,3,none⟩) (rf_ (p:=⟨gb318,2,none⟩) (rf_ (p:=⟨gb318,1,none⟩) (rf_ (p:=⟨gb318,0,none⟩) (rt_ HO313.out BK318.out (by decide)) (λ_ h=>h.2) (.int .i64 t307)) (λ_ h=>h.2) (.slice Ao136 t308.length co136)) (λ_ h=>h.2) (.slice Ao137 t311.length co137)) (λ_ h=>h.2) (.slice Ao138 t314.length co138)) (λ_ h=>h.1))) hb);have n14_:=mk_ (rb_ (by (with_reducible repeat (first|apply ra_|apply rn_|apply rd_));exact (rm_ (rf_ (p:=⟨gb318,3,none⟩) (rf_ (p:=⟨gb318,2,none⟩) (rf_ (p:=⟨gb318,1,none⟩) (rf_ (p:=⟨gb318,0,none⟩) (rt_ HO316.out BK318.out (by decide)) (λ_ h=>h.2) (.int .i64 t307)) (λ_ h=>h.2) (.slice Ao136 t308.length co136)) (λ_ h=>h.2) (.slice Ao137 t311.length co137)) (λ_ h=>h.2) (.slice Ao138 t314.length co138)) (λ_ h=>h.1))) hb);have n15_:=mk_ (blk_below (g:=gb228) (o:=.cells #[.int .i64 a0_0,.slice A0_1 l0_1.length c0_1,.slice A0_2 l0_2.length c0_2,.slice A0_3 l0_3.length c0_3] 25 (0,0)) (by (with_reducible repeat (first|apply kn_|apply kd_|apply ka_));refine blk_far ?_ NB228_318.out _;(with_reducible repeat (first|apply kn_|apply kd_|apply ka_));refine blk_far ?_ NB228_318.out _;(with_reducible repeat (first|apply kn_|apply kd_|apply ka_));refine blk_far ?_ NB228_318.out _;(with_reducible repeat (first|apply kn_|apply kd_|apply ka_));refine blk_far ?_ NB228_318.out _;(with_reducible repeat (first|apply kn_|apply kd_|apply ka_));exact BK228.out) hb);have n16_:=mk_ (blk_below (g:=gb251) (o:=.cells #[.int .i64 t240,.slice Ao25 t241.length co25,.slice Ao26 t244.length co26,.slice Ao27 t247.length co27] 30 (0,0)) (by (with_reducible repeat (first|apply kn_|apply kd_|apply ka_));refine blk_far ?_ NB251_318.out _;(with_reducible repeat (first|apply kn_|apply kd_|apply ka_));refine blk_far ?_ NB251_318.out _;(with_reducible repeat (first|apply kn_|apply kd_|apply ka_));refine blk_far ?_ NB251_318.out _;(with_reducible repeat (first|apply kn_|apply kd_|apply ka_));refine blk_far ?_ NB251_318.out _;(with_reducible repeat (first|apply kn_|apply kd_|apply ka_));exact BK251.out) hb);have n17_:=mk_ (blk_below (g:=gb262) (o:=.cells #[.int .i64 t252,.slice Ao34 t288.length co34,.slice Ao35 t289.length co35,.slice Ao36 t290.length co36] 30 (0,0)) (by (with_reducible repeat (first|apply kn_|apply kd_|apply ka_));refine blk_far ?_ NB262_318.out _;(with_reducible repeat (first|apply kn_|apply kd_|apply ka_));refine blk_far ?_ NB262_318.out _;(with_reducible repeat (first|apply kn_|apply kd_|apply ka_));refine blk_far ?_ NB262_318.out _;(with_reducible repeat (first|apply kn_|apply kd_|apply ka_));refine blk_far ?_ NB262_318.out _;(with_reducible repeat (first|apply kn_|apply kd_|apply ka_));exact BK262.out) hb);have n18_:=mk_ (blk_below (g:=gb274) (o:=.cells #[.int .i64 t263,.slice Ao43 t264.length co43,.slice Ao44 t267.length co44,.slice Ao45 t270.length co45] 30 (0,0)) (by (with_reducible repeat (first|apply kn_|apply kd_|apply ka_));refine blk_far ?_ NB274_318.out _;(with_reducible repeat (first|apply kn_|apply kd_|apply ka_));refine blk_far ?_ NB274_318.out _;(with_reducible repeat (first|apply kn_|apply kd_|apply ka_));refine blk_far ?_ NB274_318.out _;(with_reducible repeat (first|apply kn_|apply kd_|apply ka_));refine blk_far ?_ NB274_318.out _;(with_reducible repeat (first|apply kn_|apply kd_|apply ka_));exact BK274.out) hb);have n19_:=mk_ (blk_below (g:=gb318) (o:=.cells #[.int .i64 t307,.slice Ao136 t308.length co136,.slice Ao137 t311.length co137,.slice Ao138 t314.length co138] 30 (0,0)) (by (with_reducible repeat (first|apply kn_|apply kd_|apply ka_));refine blk_put (cs:=#[.int .i64 t307,.slice Ao136 t308.length co136,.slice Ao137 t311.length co137,.slice none 0 0]) ?_ 3 _ rfl;(with_reducible repeat (first|apply kn_|apply kd_|apply ka_));refine blk_put (cs:=#[.int .i64 t307,.slice Ao136 t308.length co136,.slice none 0 0,.slice none 0 0]) ?_ 2 _ rfl;(with_reducible repeat (first|apply kn_|apply kd_|apply ka_));refine blk_put (cs:=#[.int .i64 t307,.slice none 0 0,.slice none 0 0,.slice none 0 0]) ?_ 1 _ rfl;(with_reducible repeat (first|apply kn_|apply kd_|apply ka_));refine blk_put (cs:=#[.int .i64 0,.slice none 0 0,.slice none 0 0,.slice none 0 0]) ?_ 0 _ rfl;(with_reducible repeat (first|apply kn_|apply kd_|apply ka_));exact BK318.out) hb);have n20_:=mk_ (st_ (u7_ HB GE228 GE251 GE262 GE274 GE318) hb);clear z0_ z1_ z2_ z3_ z4_ z5_ z6_ z7_ z8_ HO300 HO303 HO306 HO310 HO313 HO316 BK228 BK251 BK262 BK274 BK318 HB;have z0_:=n0_;have z1_:=n1_;have z2_:=n2_;have z3_:=n3_;have z4_:=n4_;have z5_:=n5_;have z6_:=n6_;have z7_:=n7_;have z8_:=n8_;have HO300:=n9_;have HO303:=n10_;have HO306:=n11_;have HO310:=n12_;have HO313:=n13_;have HO316:=n14_;have BK228:=n15_;have BK251:=n16_;have BK262:=n17_;have BK274:=n18_;have BK318:=n19_;have HB:=n20_;clear n0_ n1_ n2_ n3_ n4_ n5_ n6_ n7_ n8_ n9_ n10_ n11_ n12_ n13_ n14_ n15_ n16_ n17_ n18_ n19_ n20_;(try clear hb);(try clear hb2);(try clear hk);(try clear hi)))
             go_meet
             case rel => exact ⟨_,((t317 != t250)),qf_,H',⟨by have:=HJ11.out;have:=HJ68.out;first|omega|exact Nat.le_refl _⟩,⟨by (try simp only [z12_]);(try simp only [z13_]);(try simp only [z14_]);(with_reducible repeat (first|apply ra_|apply rn_|apply rd_));exact rm_ z0_.out (fun _ hk => ⟨hk.1.1.1,⟨hk.1.1.2,hk.2⟩⟩)⟩,⟨by (try simp only [z12_]);(try simp only [z13_]);(try simp only [z14_]);(with_reducible repeat (first|apply ra_|apply rn_|apply rd_));exact rm_ z1_.out (fun _ hk => ⟨hk.1.1.1.1.1,⟨hk.1.1.1.1.2.1,⟨hk.1.1.1.1.2.2.1,⟨hk.1.1.1.1.2.2.2.1,⟨hk.1.1.1.1.2.2.2.2,⟨hk.1.2,hk.2⟩⟩⟩⟩⟩⟩)⟩,⟨by (try simp only [z12_]);(try simp only [z13_]);(try simp only [z14_]);(with_reducible repeat (first|apply ra_|apply rn_|apply rd_));exact rm_ z2_.out (fun _ hk => ⟨hk.1.1.1.1.1,⟨hk.1.1.1.1.2.1,⟨hk.1.1.1.1.2.2.1,⟨hk.1.1.1.1.2.2.2.1,⟨hk.1.1.1.1.2.2.2.2,⟨hk.1.2,hk.2⟩⟩⟩⟩⟩⟩)⟩,⟨by (try simp only [z12_]);(try simp only [z13_]);(try simp only [z14_]);(with_reducible repeat (first|apply ra_|apply rn_|apply rd_));exact rm_ z3_.out (fun _ hk => ⟨hk.1.1.1,⟨hk.1.1.2,hk.2⟩⟩)⟩,⟨by (try simp only [z12_]);(try simp only [z13_]);(try simp only [z14_]);(with_reducible repeat (first|apply ra_|apply rn_|apply rd_));exact rm_ z4_.out (fun _ hk => ⟨hk.1.1.1.1.1,⟨hk.1.1.1.1.2.1,⟨hk.1.1.1.1.2.2.1,⟨hk.1.1.1.1.2.2.2.1,⟨hk.1.1.1.1.2.2.2.2,⟨hk.1.2,hk.2⟩⟩⟩⟩⟩⟩)⟩,⟨by (try simp only [z12_]);(try simp only [z13_]);(try simp only [z14_]);(with_reducible repeat (first|apply ra_|apply rn_|apply rd_));exact rm_ z5_.out (fun _ hk => ⟨hk.1.1.1.1.1,⟨hk.1.1.1.1.2.1,⟨hk.1.1.1.1.2.2.1,⟨hk.1.1.1.1.2.2.2.1,⟨hk.1.1.1.1.2.2.2.2,⟨hk.1.2,hk.2⟩⟩⟩⟩⟩⟩)⟩,⟨by (try simp only [z12_]);(try simp only [z13_]);(try simp only [z14_]);(with_reducible repeat (first|apply ra_|apply rn_|apply rd_));exact rm_ z6_.out (fun _ hk => ⟨hk.1.1.1,⟨hk.1.1.2,hk.2⟩⟩)⟩,⟨by (try simp only [z12_]);(try simp only [z13_]);(try simp only [z14_]);(with_reducible repeat (first|apply ra_|apply rn_|apply rd_));exact rm_ z7_.out (fun _ hk => ⟨hk.1.1.1.1.1,⟨hk.1.1.1.1.2.1,⟨hk.1.1.1.1.2.2.1,⟨hk.1.1.1.1.2.2.2.1,⟨hk.1.1.1.1.2.2.2.2,⟨hk.1.2,hk.2⟩⟩⟩⟩⟩⟩)⟩,⟨by (try simp only [z12_]);(try simp only [z13_]);(try simp only [z14_]);(with_reducible repeat (first|apply ra_|apply rn_|apply rd_));exact rm_ z8_.out (fun _ hk => ⟨hk.1.1.1.1.1,⟨hk.1.1.1.1.2.1,⟨hk.1.1.1.1.2.2.1,⟨hk.1.1.1.1.2.2.2.1,⟨hk.1.1.1.1.2.2.2.2,⟨hk.1.2,hk.2⟩⟩⟩⟩⟩⟩)⟩,⟨by (try simp only [z12_]);(try simp only [z13_]);(try simp only [z14_]);(with_reducible repeat (first|apply ra_|apply rn_|apply rd_));exact rm_ HO310.out (fun _ hk => ⟨hk.1.1.1.2,⟨hk.1.1.2,hk.1.2⟩⟩)⟩,⟨by (try simp only [z12_]);(try simp only [z13_]);(try simp only [z14_]);(with_reducible repeat (first|apply ra_|apply rn_|apply rd_));exact rm_ HO313.out (fun _ hk => ⟨hk.1.1.1.1.1.1.1.2,⟨hk.1.1.1.1.1.1.2,⟨hk.1.1.1.1.1.2,⟨hk.1.1.1.1.2,⟨hk.1.1.1.2,⟨hk.1.1.2,hk.1.1.1.1.1.1.1.1⟩⟩⟩⟩⟩⟩)⟩,⟨by (try simp only [z12_]);(try simp only [z13_]);(try simp only [z14_]);(with_reducible repeat (first|apply ra_|apply rn_|apply rd_));exact rm_ HO316.out (fun _ hk => ⟨hk.1.1.1.1.1.1.1.2,⟨hk.1.1.1.1.1.1.2,⟨hk.1.1.1.1.1.2,⟨hk.1.1.1.1.2,⟨hk.1.1.1.2,⟨hk.1.1.2,hk.1.1.1.1.1.1.1.1⟩⟩⟩⟩⟩⟩)⟩,⟨by (try simp only [z12_]);(try simp only [z13_]);(try simp only [z14_]);(with_reducible repeat (first|apply kn_|apply kd_|apply ka_));exact BK228.out⟩,⟨by (try simp only [z12_]);(try simp only [z13_]);(try simp only [z14_]);(with_reducible repeat (first|apply kn_|apply kd_|apply ka_));exact BK251.out⟩,⟨by (try simp only [z12_]);(try simp only [z13_]);(try simp only [z14_]);(with_reducible repeat (first|apply kn_|apply kd_|apply ka_));exact BK262.out⟩,⟨by (try simp only [z12_]);(try simp only [z13_]);(try simp only [z14_]);(with_reducible repeat (first|apply kn_|apply kd_|apply ka_));exact BK274.out⟩,⟨by (try simp only [z12_]);(try simp only [z13_]);(try simp only [z14_]);(with_reducible repeat (first|apply kn_|apply kd_|apply ka_));exact BK318.out⟩,⟨u7_ HB GE228 GE251 GE262 GE274 GE318⟩⟩
            ·replace c140:=Bool.eq_false_iff.mpr c140
             subst c140
             have H1 : (laws_FnExactCutCable.j2 kj68 t292 true t263 t293 t294 t295) = some r:=by rw [if_neg (show ¬ (false = true) by decide)] at H;exact H
             clear H
             have H:=H1
             clear H1
             have H':=mk_ H
             clear H
             have hnb151:=NB318_228.out
             have hnc151:=NB228_318.out
             have hnb152:=NB318_251.out
             have hnc152:=NB251_318.out
             have hnb153:=NB318_262.out
             have hnc153:=NB262_318.out
             have hnb154:=NB318_274.out
             have hnc154:=NB274_318.out
             have hcz155_0 : w130.cell? ⟨gb318,0,none⟩ = some (.int .i64 0):=(bc_ BK318.out 0).trans rfl
             have hcz155_1 : w130.cell? ⟨gb318,1,none⟩ = some (.slice none 0 0):=(bc_ BK318.out 1).trans rfl
             have hcz155_2 : w130.cell? ⟨gb318,2,none⟩ = some (.slice none 0 0):=(bc_ BK318.out 2).trans rfl
             have hcz155_3 : w130.cell? ⟨gb318,3,none⟩ = some (.slice none 0 0):=(bc_ BK318.out 3).trans rfl
             have hfz155_0:=bf_ BK318.out 0
             have hfz155_1:=bf_ BK318.out 1
             have hfz155_2:=bf_ BK318.out 2
             have hfz155_3:=bf_ BK318.out 3
             have hnb156:=NB251_228.out
             have hnc156:=NB228_251.out
             have hnb157:=NB251_262.out
             have hnc157:=NB262_251.out
             have hnb158:=NB251_274.out
             have hnc158:=NB274_251.out
             have hcz159_0 : w130.cell? ⟨gb251,0,none⟩ = some (.int .i64 t240):=(bc_ BK251.out 0).trans rfl
             have hcz159_1 : w130.cell? ⟨gb251,1,none⟩ = some (.slice Ao25 t241.length co25):=(bc_ BK251.out 1).trans rfl
             have hcz159_2 : w130.cell? ⟨gb251,2,none⟩ = some (.slice Ao26 t244.length co26):=(bc_ BK251.out 2).trans rfl
             have hcz159_3 : w130.cell? ⟨gb251,3,none⟩ = some (.slice Ao27 t247.length co27):=(bc_ BK251.out 3).trans rfl
             have hfz159_0:=bf_ BK251.out 0
             have hfz159_1:=bf_ BK251.out 1
             have hfz159_2:=bf_ BK251.out 2
             have hfz159_3:=bf_ BK251.out 3
             go_wp2_with (first|((with_reducible refine gate_callee (f:=16) rfl ?_);refine goesL_ (some 86) rfl rfl Try.func16 (by kernel_rfl) rfl #[.agg #[.int .i64 t307,.slice Ao136 t308.length co136,.slice Ao137 t311.length co137,.slice Ao138 t314.length co138],.agg #[.int .i64 t240,.slice Ao25 t241.length co25,.slice Ao26 t244.length co26,.slice Ao27 t247.length co27]] rfl qm_ ?_;(with_reducible refine (laws_eqNet.calls kj68 t307 _ _ t308 _ _ t311 _ _ t314 t240 _ _ t241 _ _ t244 _ _ t247 false _ ?side1 ?side2 ?side3 ?side4 ?side5 ?side6 ?side7 ?side8 ?side9 ?side10 ?side11 ?side12 A139.out).mono ?_);(case side1 => refine (rr_ (e:=51) (base:=w.heap.size) (ok:=fun k_ => ((((True ∧ some k_ ≠ (.slice Ao25 t241.length co25 : Value).ownBlock) ∧ some k_ ≠ (.slice Ao34 t288.length co34 : Value).ownBlock) ∧ some k_ ≠ (.slice Ao43 t264.length co43 : Value).ownBlock) ∧ some k_ ≠ (.slice Ao126 t298.length co126 : Value).ownBlock)) (n:=t308.length) (c:=co136) ?_).2.2;exact (by (with_reducible repeat (first|apply ra_|apply rn_|apply rd_));exact (rm_ (rf_ (p:=⟨gb318,3,none⟩) (rf_ (p:=⟨gb318,2,none⟩) (rf_ (p:=⟨gb318,1,none⟩) (rf_ (p:=⟨gb318,0,none⟩) (rt_ HO310.out BK318.out (by decide)) (λ_ h=>h.2) (.int .i64 t307)) (λ_ h=>h.2) (.slice Ao136 t308.length co136)) (λ_ h=>h.2) (.slice Ao137 t311.length co137)) (λ_ h=>h.2) (.slice Ao138 t314.length co138)) (λ_ h=>h.1))));(case side2 => exact (rr_ HO310.out).2.1);(case side3 => refine (rr_ (e:=3) (base:=w.heap.size) (ok:=fun k_ => ((((((((some k_ ≠ (.slice Ao138 t314.length co138 : Value).ownBlock ∧ some k_ ≠ (.slice Ao26 t244.length co26 : Value).ownBlock) ∧ some k_ ≠ (.slice Ao27 t247.length co27 : Value).ownBlock) ∧ some k_ ≠ (.slice Ao35 t289.length co35 : Value).ownBlock) ∧ some k_ ≠ (.slice Ao36 t290.length co36 : Value).ownBlock) ∧ some k_ ≠ (.slice Ao44 t267.length co44 : Value).ownBlock) ∧ some k_ ≠ (.slice Ao45 t270.length co45 : Value).ownBlock) ∧ some k_ ≠ (.slice Ao127 t301.length co127 : Value).ownBlock) ∧ some k_ ≠ (.slice Ao128 t304.length co128 : Value).ownBlock)) (n:=t311.length) (c:=co137) ?_).2.2;exact (by (with_reducible repeat (first|apply ra_|apply rn_|apply rd_));exact (rm_ (rf_ (p:=⟨gb318,3,none⟩) (rf_ (p:=⟨gb318,2,none⟩) (rf_ (p:=⟨gb318,1,none⟩) (rf_ (p:=⟨gb318,0,none⟩) (rt_ HO313.out BK318.out (by decide)) (λ_ h=>h.2) (.int .i64 t307)) (λ_ h=>h.2) (.slice Ao136 t308.length co136)) (λ_ h=>h.2) (.slice Ao137 t311.length co137)) (λ_ h=>h.2) (.slice Ao138 t314.length co138)) (λ_ h=>h.1))));(case side4 => exact (rr_ HO313.out).2.1);(case side5 => refine (rr_ (e:=3) (base:=w.heap.size) (ok:=fun k_ => ((((((((some k_ ≠ (.slice Ao137 t311.length co137 : Value).ownBlock ∧ some k_ ≠ (.slice Ao26 t244.length co26 : Value).ownBlock) ∧ some k_ ≠ (.slice Ao27 t247.length co27 : Value).ownBlock) ∧ some k_ ≠ (.slice Ao35 t289.length co35 : Value).ownBlock) ∧ some k_ ≠ (.slice Ao36 t290.length co36 : Value).ownBlock) ∧ some k_ ≠ (.slice Ao44 t267.length co44 : Value).ownBlock) ∧ some k_ ≠ (.slice Ao45 t270.length co45 : Value).ownBlock) ∧ some k_ ≠ (.slice Ao127 t301.length co127 : Value).ownBlock) ∧ some k_ ≠ (.slice Ao128 t304.length co128 : Value).ownBlock)) (n:=t314.length) (c:=co138) ?_).2.2;exact (by (with_reducible repeat (first|apply ra_|apply rn_|apply rd_));exact (rm_ (rf_ (p:=⟨gb318,3,none⟩) (rf_ (p:=⟨gb318,2,none⟩) (rf_ (p:=⟨gb318,1,none⟩) (rf_ (p:=⟨gb318,0,none⟩) (rt_ HO316.out BK318.out (by decide)) (λ_ h=>h.2) (.int .i64 t307)) (λ_ h=>h.2) (.slice Ao136 t308.length co136)) (λ_ h=>h.2) (.slice Ao137 t311.length co137)) (λ_ h=>h.2) (.slice Ao138 t314.length co138)) (λ_ h=>h.1))));(case side6 => exact (rr_ HO316.out).2.1);(case side7 => refine (rr_ (e:=51) (base:=w.heap.size) (ok:=fun k_ => (((some k_ ≠ (.slice Ao34 t288.length co34 : Value).ownBlock ∧ some k_ ≠ (.slice Ao43 t264.length co43 : Value).ownBlock) ∧ some k_ ≠ (.slice Ao126 t298.length co126 : Value).ownBlock) ∧ some k_ ≠ (.slice Ao136 t308.length co136 : Value).ownBlock)) (n:=t241.length) (c:=co25) ?_).2.2;exact (by (with_reducible repeat (first|apply ra_|apply rn_|apply rd_));exact (rm_ (rf_ (p:=⟨gb318,3,none⟩) (rf_ (p:=⟨gb318,2,none⟩) (rf_ (p:=⟨gb318,1,none⟩) (rf_ (p:=⟨gb318,0,none⟩) (rt_ z0_.out BK318.out (by decide)) (λ_ h=>h.2) (.int .i64 t307)) (λ_ h=>h.2) (.slice Ao136 t308.length co136)) (λ_ h=>h.2) (.slice Ao137 t311.length co137)) (λ_ h=>h.2) (.slice Ao138 t314.length co138)) (λ_ h=>h.1))));(case side8 => exact (rr_ z0_.out).2.1);(case side9 => refine (rr_ (e:=3) (base:=w.heap.size) (ok:=fun k_ => (((((some k_ ≠ (.slice Ao27 t247.length co27 : Value).ownBlock ∧ (some k_ ≠ (.slice Ao35 t289.length co35 : Value).ownBlock ∧ (some k_ ≠ (.slice Ao36 t290.length co36 : Value).ownBlock ∧ (some k_ ≠ (.slice Ao44 t267.length co44 : Value).ownBlock ∧ some k_ ≠ (.slice Ao45 t270.length co45 : Value).ownBlock)))) ∧ some k_ ≠ (.slice Ao127 t301.length co127 : Value).ownBlock) ∧ some k_ ≠ (.slice Ao128 t304.length co128 : Value).ownBlock) ∧ some k_ ≠ (.slice Ao137 t311.length co137 : Value).ownBlock) ∧ some k_ ≠ (.slice Ao138 t314.length co138 : Value).ownBlock)) (n:=t244.length) (c:=co26) ?_).2.2;exact (by (with_reducible repeat (first|apply ra_|apply rn_|apply rd_));exact (rm_ (rf_ (p:=⟨gb318,3,none⟩) (rf_ (p:=⟨gb318,2,none⟩) (rf_ (p:=⟨gb318,1,none⟩) (rf_ (p:=⟨gb318,0,none⟩) (rt_ z1_.out BK318.out (by decide)) (λ_ h=>h.2) (.int .i64 t307)) (λ_ h=>h.2) (.slice Ao136 t308.length co136)) (λ_ h=>h.2) (.slice Ao137 t311.length co137)) (λ_ h=>h.2) (.slice Ao138 t314.length co138)) (λ_ h=>h.1))));(case side10 => exact (rr_ z1_.out).2.1);(case side11 => refine (rr_ (e:=3) (base:=w.heap.size) (ok:=fun k_ => (((((some k_ ≠ (.slice Ao26 t244.length co26 : Value).ownBlock ∧ (some k_ ≠ (.slice Ao35 t289.length co35 : Value).ownBlock ∧ (some k_ ≠ (.slice Ao36 t290.length co36 : Value).ownBlock ∧ (some k_ ≠ (.slice Ao44 t267.length co44 : Value).ownBlock ∧ some k_ ≠ (.slice Ao45 t270.length co45 : Value).ownBlock)))) ∧ some k_ ≠ (.slice Ao127 t301.length co127 : Value).ownBlock) ∧ some k_ ≠ (.slice Ao128 t304.length co128 : Value).ownBlock) ∧ some k_ ≠ (.slice Ao137 t311.length co137 : Value).ownBlock) ∧ some k_ ≠ (.slice Ao138 t314.length co138 : Value).ownBlock)) (n:=t247.length) (c:=co27) ?_).2.2;exact (by (with_reducible repeat (first|apply ra_|apply rn_|apply rd_));exact (rm_ (rf_ (p:=⟨gb318,3,none⟩) (rf_ (p:=⟨gb318,2,none⟩) (rf_ (p:=⟨gb318,1,none⟩) (rf_ (p:=⟨gb318,0,none⟩) (rt_ z2_.out BK318.out (by decide)) (λ_ h=>h.2) (.int .i64 t307)) (λ_ h=>h.2) (.slice Ao136 t308.length co136)) (λ_ h=>h.2) (.slice Ao137 t311.length co137)) (λ_ h=>h.2) (.slice Ao138 t314.length co138)) (λ_ h=>h.1))));(case side12 => exact (rr_ z2_.out).2.1);rintro e w160 ⟨rfl,hb⟩;refine ⟨_,rfl,?_⟩;have n0_:=mk_ (rb_ (by (with_reducible repeat (first|apply ra_|apply rn_|apply rd_));exact (rm_ (rf_ (p:=⟨gb318,3,none⟩) (rf_ (p:=⟨gb318,2,none⟩) (rf_ (p:=⟨gb318,1,none⟩) (rf_ (p:=⟨gb318,0,none⟩) (rt_ z0_.out BK318.out (by decide)) (λ_ h=>h.2) (.int .i64 t307)) (λ_ h=>h.2) (.slice Ao136 t308.length co136)) (λ_ h=>h.2) (.slice Ao137 t311.length co137)) (λ_ h=>h.2) (.slice Ao138 t314.length co138)) (λ_ h=>h.1))) hb);have n1_:=mk_ (rb_ (by (with_reducible repeat (first|apply ra_|apply rn_|apply rd_));exact (rm_ (rf_ (p:=⟨gb318,3,none⟩) (rf_ (p:=⟨gb318,2,none⟩) (rf_ (p:=⟨gb318,1,none⟩) (rf_ (p:=⟨gb318,0,none⟩) (rt_ z1_.out BK318.out (by decide)) (λ_ h=>h.2) (.int .i64 t307)) (λ_ h=>h.2) (.slice Ao136 t308.length co136)) (λ_ h=>h.2) (.slice Ao137 t311.length co137)) (λ_ h=>h.2) (.slice Ao138 t314.length co138)) (λ_ h=>h.1))) hb);have n2_:=mk_ (rb_ (by (with_reducible repeat (first|apply ra_|apply rn_|apply rd_));exact (rm_ (rf_ (p:=⟨gb318,3,none⟩) (rf_ (p:=⟨gb318,2,none⟩) (rf_ (p:=⟨gb318,1,none⟩) (rf_ (p:=⟨gb318,0,none⟩) (rt_ z2_.out BK318.out (by decide)) (λ_ h=>h.2) (.int .i64 t307)) (λ_ h=>h.2) (.slice Ao136 t308.length co136)) (λ_ h=>h.2) (.slice Ao137 t311.length co137)) (λ_ h=>h.2) (.slice Ao138 t314.length co138)) (λ_ h=>h.1))) hb);have n3_:=mk_ (rb_ (by (with_reducible repeat (first|apply ra_|apply rn_|apply rd_));exact (rm_ (rf_ (p:=⟨gb318,3,none⟩) (rf_ (p:=⟨gb318,2,none⟩) (rf_ (p:=⟨gb318,1,none⟩) (rf_ (p:=⟨gb318,0,none⟩) (rt_ z3_.out BK318.out (by decide)) (λ_ h=>h.2) (.int .i64 t307)) (λ_ h=>h.2) (.slice Ao136 t308.length co136)) (λ_ h=>h.2) (.slice Ao137 t311.length co137)) (λ_ h=>h.2) (.slice Ao138 t314.length co138)) (λ_ h=>h.1))) hb);have n4_:=mk_ (rb_ (by (with_reducible repeat (first|apply ra_|apply rn_|apply rd_));exact (rm_ (rf_ (p:=⟨gb318,3,none⟩) (rf_ (p:=⟨gb318,2,none⟩) (rf_ (p:=⟨gb318,1,none⟩) (rf_ (p:=⟨gb318,0,none⟩) (rt_ z4_.out BK318.out (by decide)) (λ_ h=>h.2) (.int .i64 t307)) (λ_ h=>h.2) (.slice Ao136 t308.length co136)) (λ_ h=>h.2) (.slice Ao137 t311.length co137)) (λ_ h=>h.2) (.slice Ao138 t314.length co138)) (λ_ h=>h.1))) hb);have n5_:=mk_ (rb_ (by (with_reducible repeat (first|apply ra_|apply rn_|apply rd_));exact (rm_ (rf_ (p:=⟨gb318,3,none⟩) (rf_ (p:=⟨gb318,2,none⟩) (rf_ (p:=⟨gb318,1,none⟩) (rf_ (p:=⟨gb318,0,none⟩) (rt_ z5_.out BK318.out (by decide)) (λ_ h=>h.2) (.int .i64 t307)) (λ_ h=>h.2) (.slice Ao136 t308.length co136)) (λ_ h=>h.2) (.slice Ao137 t311.length co137)) (λ_ h=>h.2) (.slice Ao138 t314.length co138)) (λ_ h=>h.1))) hb);have n6_:=mk_ (rb_ (by (with_reducible repeat (first|apply ra_|apply rn_|apply rd_));exact (rm_ (rf_ (p:=⟨gb318,3,none⟩) (rf_ (p:=⟨gb318,2,none⟩) (rf_ (p:=⟨gb318,1,none⟩) (rf_ (p:=⟨gb318,0,none⟩) (rt_ z6_.out BK318.out (by decide)) (λ_ h=>h.2) (.int .i64 t307)) (λ_ h=>h.2) (.slice Ao136 t308.length co136)) (λ_ h=>h.2) (.slice Ao137 t311.length co137)) (λ_ h=>h.2) (.slice Ao138 t314.length co138)) (λ_ h=>h.1))) hb);have n7_:=mk_ (rb_ (by (with_reducible repeat (first|apply ra_|apply rn_|apply rd_));exact (rm_ (rf_ (p:=⟨gb318,3,none⟩) (rf_ (p:=⟨gb318,2,none⟩) (rf_ (p:=⟨gb318,1,none⟩) (rf_ (p:=⟨gb318,0,none⟩) (rt_ z7_.out BK318.out (by decide)) (λ_ h=>h.2) (.int .i64 t307)) (λ_ h=>h.2) (.slice Ao136 t308.length co136)) (λ_ h=>h.2) (.slice Ao137 t311.length co137)) (λ_ h=>h.2) (.slice Ao138 t314.length co138)) (λ_ h=>h.1))) hb);have n8_:=mk_ (rb_ (by (with_reducible repeat (first|apply ra_|apply rn_|apply rd_));exact (rm_ (rf_ (p:=⟨gb318,3,none⟩) (rf_ (p:=⟨gb318,2,none⟩) (rf_ (p:=⟨gb318,1,none⟩) (rf_ (p:=⟨gb318,0,none⟩) (rt_ z8_.out BK318.out (by decide)) (λ_ h=>h.2) (.int .i64 t307)) (λ_ h=>h.2) (.slice Ao136 t308.length co136)) (λ_ h=>h.2) (.slice Ao137 t311.length co137)) (λ_ h=>h.2) (.slice Ao138 t314.length co138)) (λ_ h=>h.1))) hb);have n9_:=mk_ (rb_ (by (with_reducible repeat (first|apply ra_|apply rn_|apply rd_));exact (rm_ (rf_ (p:=⟨gb318,3,none⟩) (rf_ (p:=⟨gb318,2,none⟩) (rf_ (p:=⟨gb318,1,none⟩) (rf_ (p:=⟨gb318,0,none⟩) (rt_ HO300.out BK318.out (by decide)) (λ_ h=>h.2) (.int .i64 t307)) (λ_ h=>h.2) (.slice Ao136 t308.length co136)) (λ_ h=>h.2) (.slice Ao137 t311.length co137)) (λ_ h=>h.2) (.slice Ao138 t314.length co138)) (λ_ h=>h.1))) hb);have n10_:=mk_ (rb_ (by (with_reducible repeat (first|apply ra_|apply rn_|apply rd_));exact (rm_ (rf_ (p:=⟨gb318,3,none⟩) (rf_ (p:=⟨gb318,2,none⟩) (rf_ (p:=⟨gb318,1,none⟩) (rf_ (p:=⟨gb318,0,none⟩) (rt_ HO303.out BK318.out (by decide)) (λ_ h=>h.2) (.int .i64 t307)) (λ_ h=>h.2) (.slice Ao136 t308.length co136)) (λ_ h=>h.2) (.slice Ao137 t311.length co137)) (λ_ h=>h.2) (.slice Ao138 t314.length co138)) (λ_ h=>h.1))) hb);have n11_:=mk_ (rb_ (by (with_reducible repeat (first|apply ra_|apply rn_|apply rd_));exact (rm_ (rf_ (p:=⟨gb318,3,none⟩) (rf_ (p:=⟨gb318,2,none⟩) (rf_ (p:=⟨gb318,1,none⟩) (rf_ (p:=⟨gb318,0,none⟩) (rt_ HO306.out BK318.out (by decide)) (λ_ h=>h.2) (.int .i64 t307)) (λ_ h=>h.2) (.slice Ao136 t308.length co136)) (λ_ h=>h.2) (.slice Ao137 t311.length co137)) (λ_ h=>h.2) (.slice Ao138 t314.length co138)) (λ_ h=>h.1))) hb);have n12_:=mk_ (rb_ (by (with_reducible repeat (first|apply ra_|apply rn_|apply rd_));exact (rm_ (rf_ (p:=⟨gb318,3,none⟩) (rf_ (p:=⟨gb318,2,none⟩) (rf_ (p:=⟨gb318,1,none⟩) (rf_ (p:=⟨gb318,0,none⟩) (rt_ HO310.out BK318.out (by decide)) (λ_ h=>h.2) (.int .i64 t307)) (λ_ h=>h.2) (.slice Ao136 t308.length co136)) (λ_ h=>h.2) (.slice Ao137 t311.length co137)) (λ_ h=>h.2) (.slice Ao138 t314.length co138)) (λ_ h=>h.1))) hb);have n13_:=mk_ (rb_ (by (with_reducible repeat (first|apply ra_|apply rn_|apply rd_));exact (rm_ (rf_ (p:=⟨gb318,3,none⟩) (rf_ (p:=⟨gb318,2,none⟩) (rf_ (p:=⟨gb318,1,none⟩) (rf_ (p:=⟨gb318,0,none⟩) (rt_ HO313.out BK318.out (by decide)) (λ_ h=>h.2) (.int .i64 t307)) (λ_ h=>h.2) (.slice Ao136 t308.length co136)) (λ_ h=>h.2) (.slice Ao137 t311.length co137)) (λ_ h=>h.2) (.slice Ao138 t314.length co138)) (λ_ h=>h.1))) hb);have n14_:=mk_ (rb_ (by (with_reducible repeat (first|apply ra_|apply rn_|apply rd_));exact (rm_ (rf_ (p:=⟨gb318,3,none⟩) (rf_ (p:=⟨gb318,2,none⟩) (rf_ (p:=⟨gb318,1,none⟩) (rf_ (p:=⟨gb318,0,none⟩) (rt_ HO316.out BK318.out (by decide)) (λ_ h=>h.2) (.int .i64 t307)) (λ_ h=>h.2) (.slice Ao136 t308.length co136)) (λ_ h=>h.2) (.slice Ao137 t311.length co137)) (λ_ h=>h.2) (.slice Ao138 t314.length co138)) (λ_ h=>h.1))) hb);have n15_:=mk_ (blk_below (g:=gb228) (o:=.cells #[.int .i64 a0_0,.slice A0_1 l0_1.length c0_1,.slice A0_2 l0_2.length c0_2,.slice A0_3 l0_3.length c0_3] 25 (0,0)) (by (with_reducible repeat (first|apply kn_|apply kd_|apply ka_));refine blk_far ?_ NB228_318.out _;(with_reducible repeat (first|apply kn_|apply kd_|apply ka_));refine blk_far ?_ NB228_318.out _;(with_reducible repeat (first|apply kn_|apply kd_|apply ka_));refine blk_far ?_ NB228_318.out _;(with_reducible repeat (first|apply kn_|apply kd_|apply ka_));refine blk_far ?_ NB228_318.out _;(with_reducible repeat (first|apply kn_|apply kd_|apply ka_));exact BK228.out) hb);have n16_:=mk_ (blk_below (g:=gb251) (o:=.cells #[.int .i64 t240,.slice Ao25 t241.length co25,.slice Ao26 t244.length co26,.slice Ao27 t247.length co27] 30 (0,0)) (by (with_reducible repeat (first|apply kn_|apply kd_|apply ka_));refine blk_far ?_ NB251_318.out _;(with_reducible repeat (first|apply kn_|apply kd_|apply ka_));refine blk_far ?_ NB251_318.out _;(with_reducible repeat (first|apply kn_|apply kd_|apply ka_));refine blk_far ?_ NB251_318.out _;(with_reducible repeat (first|apply kn_|apply kd_|apply ka_));refine blk_far ?_ NB251_318.out _;(with_reducible repeat (first|apply kn_|apply kd_|apply ka_));exact BK251.out) hb);have n17_:=mk_ (blk_below (g:=gb262) (o:=.cells #[.int .i64 t252,.slice Ao34 t288.length co34,.slice Ao35 t289.length co35,.slice Ao36 t290.length co36] 30 (0,0)) (by (with_reducible repeat (first|apply kn_|apply kd_|apply ka_));refine blk_far ?_ NB262_318.out _;(with_reducible repeat (first|apply kn_|apply kd_|apply ka_));refine blk_far ?_ NB262_318.out _;(with_reducible repeat (first|apply kn_|apply kd_|apply ka_));refine blk_far ?_ NB262_318.out _;(with_reducible repeat (first|apply kn_|apply kd_|apply ka_));refine blk_far ?_ NB262_318.out _;(with_reducible repeat (first|apply kn_|apply kd_|apply ka_));exact BK262.out) hb);have n18_:=mk_ (blk_below (g:=gb274) (o:=.cells #[.int .i64 t263,.slice Ao43 t264.length co43,.slice Ao44 t267.length co44,.slice Ao45 t270.length co45] 30 (0,0)) (by (with_reducible repeat (first|apply kn_|apply kd_|apply ka_));refine blk_far ?_ NB274_318.out _;(with_reducible repeat (first|apply kn_|apply kd_|apply ka_));refine blk_far ?_ NB274_318.out _;(with_reducible repeat (first|apply kn_|apply kd_|apply ka_));refine blk_far ?_ NB274_318.out _;(with_reducible repeat (first|apply kn_|apply kd_|apply ka_));refine blk_far ?_ NB274_318.out _;(with_reducible repeat (first|apply kn_|apply kd_|apply ka_));exact BK274.out) hb);have n19_:=mk_ (blk_below (g:=gb318) (o:=.cells #[.int .i64 t307,.slice Ao136 t308.length co136,.slice Ao137 t311.length co137,.slice Ao138 t314.length co138] 30 (0,0)) (by (with_reducible repeat (first|apply kn_|apply kd_|apply ka_));refine blk_put (cs:=#[.int .i64 t307,.slice Ao136 t308.length co136,.slice Ao137 t311.length co137,.slice none 0 0]) ?_ 3 _ rfl;(with_reducible repeat (first|apply kn_|apply kd_|apply ka_));refine blk_put (cs:=#[.int .i64 t307,.slice Ao136 t308.length co136,.slice none 0 0,.slice none 0 0]) ?_ 2 _ rfl;(with_reducible repeat (first|apply kn_|apply kd_|apply ka_));refine blk_put (cs:=#[.int .i64 t307,.slice none 0 0,.slice none 0 0,.slice none 0 0]) ?_ 1 _ rfl;(with_reducible repeat (first|apply kn_|apply kd_|apply ka_));refine blk_put (cs:=#[.int .i64 0,.slice none 0 0,.slice none 0 0,.slice none 0 0]) ?_ 0 _ rfl;(with_reducible repeat (first|apply kn_|apply kd_|apply ka_));exact BK318.out) hb);have n20_:=mk_ (st_ (u7_ HB GE228 GE251 GE262 GE274 GE318) hb);clear z0_ z1_ z2_ z3_ z4_ z5_ z6_ z7_ z8_ HO300 HO303 HO306 HO310 HO313 HO316 BK228 BK251 BK262 BK274 BK318 HB;have z0_:=n0_;have z1_:=n1_;have z2_:=n2_;have z3_:=n3_;have z4_:=n4_;have z5_:=n5_;have z6_:=n6_;have z7_:=n7_;have z8_:=n8_;have HO300:=n9_;have HO303:=n10_;have HO306:=n11_;have HO310:=n12_;have HO313:=n13_;have HO316:=n14_;have BK228:=n15_;have BK251:=n16_;have BK262:=n17_;have BK274:=n18_;have BK318:=n19_;have HB:=n20_;clear n0_ n1_ n2_ n3_ n4_ n5_ n6_ n7_ n8_ n9_ n10_ n11_ n12_ n13_ n14_ n15_ n16_ n17_ n18_ n19_ n20_;(try clear hb);(try clear hb2);(try clear hk);(try clear hi)))
             go_meet
             case rel => exact ⟨_,(true),qf_,H',⟨by have:=HJ11.out;have:=HJ68.out;first|omega|exact Nat.le_refl _⟩,⟨by (try simp only [z12_]);(try simp only [z13_]);(try simp only [z14_]);(with_reducible repeat (first|apply ra_|apply rn_|apply rd_));exact rm_ z0_.out (fun _ hk => ⟨hk.1.1.1,⟨hk.1.1.2,hk.2⟩⟩)⟩,⟨by (try simp only [z12_]);(try simp only [z13_]);(try simp only [z14_]);(with_reducible repeat (first|apply ra_|apply rn_|apply rd_));exact rm_ z1_.out (fun _ hk => ⟨hk.1.1.1.1.1,⟨hk.1.1.1.1.2.1,⟨hk.1.1.1.1.2.2.1,⟨hk.1.1.1.1.2.2.2.1,⟨hk.1.1.1.1.2.2.2.2,⟨hk.1.2,hk.2⟩⟩⟩⟩⟩⟩)⟩,⟨by (try simp only [z12_]);(try simp only [z13_]);(try simp only [z14_]);(with_reducible repeat (first|apply ra_|apply rn_|apply rd_));exact rm_ z2_.out (fun _ hk => ⟨hk.1.1.1.1.1,⟨hk.1.1.1.1.2.1,⟨hk.1.1.1.1.2.2.1,⟨hk.1.1.1.1.2.2.2.1,⟨hk.1.1.1.1.2.2.2.2,⟨hk.1.2,hk.2⟩⟩⟩⟩⟩⟩)⟩,⟨by (try simp only [z12_]);(try simp only [z13_]);(try simp only [z14_]);(with_reducible repeat (first|apply ra_|apply rn_|apply rd_));exact rm_ z3_.out (fun _ hk => ⟨hk.1.1.1,⟨hk.1.1.2,hk.2⟩⟩)⟩,⟨by (try simp only [z12_]);(try simp only [z13_]);(try simp only [z14_]);(with_reducible repeat (first|apply ra_|apply rn_|apply rd_));exact rm_ z4_.out (fun _ hk => ⟨hk.1.1.1.1.1,⟨hk.1.1.1.1.2.1,⟨hk.1.1.1.1.2.2.1,⟨hk.1.1.1.1.2.2.2.1,⟨hk.1.1.1.1.2.2.2.2,⟨hk.1.2,hk.2⟩⟩⟩⟩⟩⟩)⟩,⟨by (try simp only [z12_]);(try simp only [z13_]);(try simp only [z14_]);(with_reducible repeat (first|apply ra_|apply rn_|apply rd_));exact rm_ z5_.out (fun _ hk => ⟨hk.1.1.1.1.1,⟨hk.1.1.1.1.2.1,⟨hk.1.1.1.1.2.2.1,⟨hk.1.1.1.1.2.2.2.1,⟨hk.1.1.1.1.2.2.2.2,⟨hk.1.2,hk.2⟩⟩⟩⟩⟩⟩)⟩,⟨by (try simp only [z12_]);(try simp only [z13_]);(try simp only [z14_]);(with_reducible repeat (first|apply ra_|apply rn_|apply rd_));exact rm_ z6_.out (fun _ hk => ⟨hk.1.1.1,⟨hk.1.1.2,hk.2⟩⟩)⟩,⟨by (try simp only [z12_]);(try simp only [z13_]);(try simp only [z14_]);(with_reducible repeat (first|apply ra_|apply rn_|apply rd_));exact rm_ z7_.out (fun _ hk => ⟨hk.1.1.1.1.1,⟨hk.1.1.1.1.2.1,⟨hk.1.1.1.1.2.2.1,⟨hk.1.1.1.1.2.2.2.1,⟨hk.1.1.1.1.2.2.2.2,⟨hk.1.2,hk.2⟩⟩⟩⟩⟩⟩)⟩,⟨by (try simp only [z12_]);(try simp only [z13_]);(try simp only [z14_]);(with_reducible repeat (first|apply ra_|apply rn_|apply rd_));exact rm_ z8_.out (fun _ hk => ⟨hk.1.1.1.1.1,⟨hk.1.1.1.1.2.1,⟨hk.1.1.1.1.2.2.1,⟨hk.1.1.1.1.2.2.2.1,⟨hk.1.1.1.1.2.2.2.2,⟨hk.1.2,hk.2⟩⟩⟩⟩⟩⟩)⟩,⟨by (try simp only [z12_]);(try simp only [z13_]);(try simp only [z14_]);(with_reducible repeat (first|apply ra_|apply rn_|apply rd_));exact rm_ HO310.out (fun _ hk => ⟨hk.1.1.1.2,⟨hk.1.1.2,hk.1.2⟩⟩)⟩,⟨by (try simp only [z12_]);(try simp only [z13_]);(try simp only [z14_]);(with_reducible repeat (first|apply ra_|apply rn_|apply rd_));exact rm_ HO313.out (fun _ hk => ⟨hk.1.1.1.1.1.1.1.2,⟨hk.1.1.1.1.1.1.2,⟨hk.1.1.1.1.1.2,⟨hk.1.1.1.1.2,⟨hk.1.1.1.2,⟨hk.1.1.2,hk.1.1.1.1.1.1.1.1⟩⟩⟩⟩⟩⟩)⟩,⟨by (try simp only [z12_]);(try simp only [z13_]);(try simp only [z14_]);(with_reducible repeat (first|apply ra_|apply rn_|apply rd_));exact rm_ HO316.out (fun _ hk => ⟨hk.1.1.1.1.1.1.1.2,⟨hk.1.1.1.1.1.1.2,⟨hk.1.1.1.1.1.2,⟨hk.1.1.1.1.2,⟨hk.1.1.1.2,⟨hk.1.1.2,hk.1.1.1.1.1.1.1.1⟩⟩⟩⟩⟩⟩)⟩,⟨by (try simp only [z12_]);(try simp only [z13_]);(try simp only [z14_]);(with_reducible repeat (first|apply kn_|apply kd_|apply ka_));exact BK228.out⟩,⟨by (try simp only [z12_]);(try simp only [z13_]);(try simp only [z14_]);(with_reducible repeat (first|apply kn_|apply kd_|apply ka_));exact BK251.out⟩,⟨by (try simp only [z12_]);(try simp only [z13_]);(try simp only [z14_]);(with_reducible repeat (first|apply kn_|apply kd_|apply ka_));exact BK262.out⟩,⟨by (try simp only [z12_]);(try simp only [z13_]);(try simp only [z14_]);(with_reducible repeat (first|apply kn_|apply kd_|apply ka_));exact BK274.out⟩,⟨by (try simp only [z12_]);(try simp only [z13_]);(try simp only [z14_]);(with_reducible repeat (first|apply kn_|apply kd_|apply ka_));exact BK318.out⟩,⟨u7_ HB GE228 GE251 GE262 GE274 GE318⟩⟩
           case rest =>
            clear HC114
            try clear c1
            try clear c2
            try clear p2
            try clear c3
            try clear c4
            try clear c4b0
            try clear c5
            try clear c6
            try clear c7
            try clear c8
            try clear c9
            try clear c10
            try clear c11
            try clear c12
            try clear c13
            try clear c14
            try clear c15
            try clear c16
            try clear c23
            try clear c26
            try clear c27
            try clear c28
            try clear c31
            try clear c32
            try clear c39
            try clear c40
            try clear c41
            try clear c47
            try clear c48
            try clear c49
            try clear c50
            try clear c52
            try clear c53
            try clear c56
            try clear c57
            try clear c58
            try clear c60
            try clear c61
            try clear c64
            try clear c67
            try clear c76
            try clear c77
            try clear c78
            try clear c81
            try clear c81b0
            try clear c83
            try clear c84
            try clear c85
            try clear c86
            try clear c88
            try clear c89
            try clear c92
            try clear c93
            try clear c94
            try clear c96
            try clear c97
            try clear c100
            try clear c103
            try clear c103b0
            try clear c104
            try clear c105
            try clear c106
            try clear c111
            try clear c111b0
            try clear c111b1
            try clear c115
            try clear c116
            try clear c117
            try clear c122
            try clear c123
            try clear c131
            try clear c132
            try clear c133
            try clear c134
            try clear c140
            try clear c141
            try clear c142
            try clear c143
            try clear c144
            try clear c146
            try clear c147
            try clear c148
            try clear c151
            try clear c152
            try clear c153
            try clear c154
            try clear c156
            try clear c157
            try clear c158
            try clear hcz107_0
            try clear hcz107_1
            try clear hcz107_2
            try clear hcz107_3
            try clear hcz109_0
            try clear hcz109_1
            try clear hcz109_2
            try clear hcz109_3
            try clear hcz118_0
            try clear hcz118_1
            try clear hcz118_2
            try clear hcz118_3
            try clear hcz120_0
            try clear hcz120_1
            try clear hcz120_2
            try clear hcz120_3
            try clear hcz124_0
            try clear hcz124_1
            try clear hcz124_2
            try clear hcz124_3
            try clear hcz135_0
            try clear hcz135_1
            try clear hcz135_2
            try clear hcz135_3
            try clear hcz145_0
            try clear hcz145_1
            try clear hcz145_2
            try clear hcz145_3
            try clear hcz149_0
            try clear hcz149_1
            try clear hcz149_2
            try clear hcz149_3
            try clear hcz14_0
            try clear hcz14_1
            try clear hcz14_2
            try clear hcz14_3
            try clear hcz155_0
            try clear hcz155_1
            try clear hcz155_2
            try clear hcz155_3
            try clear hcz159_0
            try clear hcz159_1
            try clear hcz159_2
            try clear hcz159_3
            try clear hcz16_0
            try clear hcz16_1
            try clear hcz16_2
            try clear hcz16_3
            try clear hcz24_0
            try clear hcz24_1
            try clear hcz24_2
            try clear hcz24_3
            try clear hcz28_0
            try clear hcz28_1
            try clear hcz28_2
            try clear hcz28_3
            try clear hcz33_0
            try clear hcz33_1
            try clear hcz33_2
            try clear hcz33_3
            try clear hcz42_0
            try clear hcz42_1
            try clear hcz42_2
            try clear hcz42_3
            try clear hcz51_0
            try clear hcz51_1
            try clear hcz51_2
            try clear hcz51_3
            try clear hcz54_0
            try clear hcz54_1
            try clear hcz54_2
            try clear hcz54_3
            try clear hcz59_0
            try clear hcz59_1
            try clear hcz59_2
            try clear hcz59_3
            try clear hcz62_0
            try clear hcz62_1
            try clear hcz62_2
            try clear hcz62_3
            try clear hcz6_0
            try clear hcz6_1
            try clear hcz6_2
            try clear hcz6_3
            try clear hcz79_0
            try clear hcz79_1
            try clear hcz79_2
            try clear hcz79_3
            try clear hcz87_0
            try clear hcz87_1
            try clear hcz87_2
            try clear hcz87_3
            try clear hcz90_0
            try clear hcz90_1
            try clear hcz90_2
            try clear hcz90_3
            try clear hcz95_0
            try clear hcz95_1
            try clear hcz95_2
            try clear hcz95_3
            try clear hcz98_0
            try clear hcz98_1
            try clear hcz98_2
            try clear hcz98_3
            try clear hfz107_0
            try clear hfz107_1
            try clear hfz107_2
            try clear hfz107_3
            try clear hfz109_0
            try clear hfz109_1
            try clear hfz109_2
            try clear hfz109_3
            try clear hfz118_0
            try clear hfz118_1
            try clear hfz118_2
            try clear hfz118_3
            try clear hfz120_0
            try clear hfz120_1
            try clear hfz120_2
            try clear hfz120_3
            try clear hfz124_0
            try clear hfz124_1
            try clear hfz124_2
            try clear hfz124_3
            try clear hfz135_0
            try clear hfz135_1
            try clear hfz135_2
            try clear hfz135_3
            try clear hfz145_0
            try clear hfz145_1
            try clear hfz145_2
            try clear hfz145_3
            try clear hfz149_0
            try clear hfz149_1
            try clear hfz149_2
            try clear hfz149_3
            try clear hfz14_0
            try clear hfz14_1
            try clear hfz14_2
            try clear hfz14_3
            try clear hfz155_0
            try clear hfz155_1
            try clear hfz155_2
            try clear hfz155_3
            try clear hfz159_0
            try clear hfz159_1
            try clear hfz159_2
            try clear hfz159_3
            try clear hfz16_0
            try clear hfz16_1
            try clear hfz16_2
            try clear hfz16_3
            try clear hfz24_0
            try clear hfz24_1
            try clear hfz24_2
            try clear hfz24_3
            try clear hfz28_0
            try clear hfz28_1
            try clear hfz28_2
            try clear hfz28_3
            try clear hfz33_0
            try clear hfz33_1
            try clear hfz33_2
            try clear hfz33_3
            try clear hfz42_0
            try clear hfz42_1
            try clear hfz42_2
            try clear hfz42_3
            try clear hfz51_0
            try clear hfz51_1
            try clear hfz51_2
            try clear hfz51_3
            try clear hfz54_0
            try clear hfz54_1
            try clear hfz54_2
            try clear hfz54_3
            try clear hfz59_0
            try clear hfz59_1
            try clear hfz59_2
            try clear hfz59_3
            try clear hfz62_0
            try clear hfz62_1
            try clear hfz62_2
            try clear hfz62_3
            try clear hfz6_0
            try clear hfz6_1
            try clear hfz6_2
            try clear hfz6_3
            try clear hfz79_0
            try clear hfz79_1
            try clear hfz79_2
            try clear hfz79_3
            try clear hfz87_0
            try clear hfz87_1
            try clear hfz87_2
            try clear hfz87_3
            try clear hfz90_0
            try clear hfz90_1
            try clear hfz90_2
            try clear hfz90_3
            try clear hfz95_0
            try clear hfz95_1
            try clear hfz95_2
            try clear hfz95_3
            try clear hfz98_0
            try clear hfz98_1
            try clear hfz98_2
            try clear hfz98_3
            try clear p2
            obtain ⟨kq,x92_113,rfl,HA,HJ113,z0_,z1_,z2_,z3_,z4_,z5_,z6_,z7_,z8_,z9_,z10_,z11_,BK228,BK251,BK262,BK274,BK318,HB⟩:=hcut
            have z15_:=(rr_ z6_.out).1
            rw [z15_] at z6_
            (try simp only [z15_])
            (try simp only [z15_] at BK228)
            (try simp only [z15_] at BK251)
            (try simp only [z15_] at BK262)
            (try simp only [z15_] at BK274)
            (try simp only [z15_] at BK318)
            (try simp only [z15_] at z0_)
            (try simp only [z15_] at z1_)
            (try simp only [z15_] at z2_)
            (try simp only [z15_] at z3_)
            (try simp only [z15_] at z4_)
            (try simp only [z15_] at z5_)
            (try simp only [z15_] at z7_)
            (try simp only [z15_] at z8_)
            (try simp only [z15_] at z9_)
            (try simp only [z15_] at z10_)
            (try simp only [z15_] at z11_)
            have z16_:=(rr_ z7_.out).1
            rw [z16_] at z7_
            (try simp only [z16_])
            (try simp only [z16_] at BK228)
            (try simp only [z16_] at BK251)
            (try simp only [z16_] at BK262)
            (try simp only [z16_] at BK274)
            (try simp only [z16_] at BK318)
            (try simp only [z16_] at z0_)
            (try simp only [z16_] at z1_)
            (try simp only [z16_] at z2_)
            (try simp only [z16_] at z3_)
            (try simp only [z16_] at z4_)
            (try simp only [z16_] at z5_)
            (try simp only [z16_] at z6_)
            (try simp only [z16_] at z8_)
            (try simp only [z16_] at z9_)
            (try simp only [z16_] at z10_)
            (try simp only [z16_] at z11_)
            have z17_:=(rr_ z8_.out).1
            rw [z17_] at z8_
            (try simp only [z17_])
            (try simp only [z17_] at BK228)
            (try simp only [z17_] at BK251)
            (try simp only [z17_] at BK262)
            (try simp only [z17_] at BK274)
            (try simp only [z17_] at BK318)
            (try simp only [z17_] at z0_)
            (try simp only [z17_] at z1_)
            (try simp only [z17_] at z2_)
            (try simp only [z17_] at z3_)
            (try simp only [z17_] at z4_)
            (try simp only [z17_] at z5_)
            (try simp only [z17_] at z6_)
            (try simp only [z17_] at z7_)
            (try simp only [z17_] at z9_)
            (try simp only [z17_] at z10_)
            (try simp only [z17_] at z11_)
            cases kq with
            | zero => exact absurd HA.out (by simp [laws_FnExactCutCable.j2])
            | succ kj113 =>
             have H:=HA.out
             clear HA
             simp only [laws_FnExactCutCable.j2] at H
             by_cases c161 : x92_113 = true
             ·subst c161
              have H1 : (some false) = some r:=by rw [if_pos rfl] at H;exact H
              clear H
              have H:=H1
              clear H1
              obtain rfl:=Option.some.inj H
              go_wp2
              go_ret
              exact ⟨qe_,u7_ HB GE228 GE251 GE262 GE274 GE318⟩
             ·replace c161:=Bool.eq_false_iff.mpr c161
              subst c161
              have H1 : ((laws_heldNet.f kj113 t263 t293 t294 t295 1).bind fun t320 => (if t320 < 0 then (some false) else (if t320 = t292 then (some true) else (some false)))) = some r:=by rw [if_neg (show ¬ (false = true) by decide)] at H;exact H
              clear H
              have H:=H1
              clear H1
              replace H:=Option.bind_eq_some_iff.mp H
              obtain ⟨t320,A1620,H⟩:=H
              replace H : (if t320 < 0 then (some false) else (if t320 = t292 then (some true) else (some false))) = some r:=H
              have A162:=mk_ A1620
              clear A1620
              by_cases c163 : t320 < 0
              ·rw [if_pos c163] at H
               have c163b0 : decide (t320 < 0) = true:=decide_eq_true c163
               clear c163
               obtain rfl:=Option.some.inj H
               have hnb164:=NB274_228.out
               have hnc164:=NB228_274.out
               have hnb165:=NB274_251.out
               have hnc165:=NB251_274.out
               have hnb166:=NB274_262.out
               have hnc166:=NB262_274.out
               have hnb167:=NB274_318.out
               have hnc167:=NB318_274.out
               have hcz168_0 : wc.cell? ⟨gb274,0,none⟩ = some (.int .i64 t263):=(bc_ BK274.out 0).trans rfl
               have hcz168_1 : wc.cell? ⟨gb274,1,none⟩ = some (.slice Ao43 t293.length co43):=(bc_ BK274.out 1).trans rfl
               have hcz168_2 : wc.cell? ⟨gb274,2,none⟩ = some (.slice Ao44 t294.length co44):=(bc_ BK274.out 2).trans rfl
               have hcz168_3 : wc.cell? ⟨gb274,3,none⟩ = some (.slice Ao45 t295.length co45):=(bc_ BK274.out 3).trans rfl
               have hfz168_0:=bf_ BK274.out 0
               have hfz168_1:=bf_ BK274.out 1
               have hfz168_2:=bf_ BK274.out 2
               have hfz168_3:=bf_ BK274.out 3
               go_wp2_with (first|((with_reducible refine gate_callee (f:=28) rfl ?_);refine goesL_ (some 95) rfl rfl Try.func28 (by kernel_rfl) rfl #[.agg #[.int .i64 t263,.slice Ao43 t293.length co43,.slice Ao44 t294.length co44,.slice Ao45 t295.length co45],.int .i64 1] rfl qm_ ?_;(with_reducible refine (laws_heldNet.calls kj113 t263 _ _ t293 _ _ t294 _ _ t295 1 t320 _ ?side1 ?side2 ?side3 ?side4 ?side5 ?side6 A162.out).mono ?_);(case side1 => repeat (first|exact (rr_ z6_.out).2.2|(with_reducible refine ca_ ?_ _)|(with_reducible refine cn_ ?_ _)|(with_reducible refine cd_ ?_)));(case side2 => exact (rr_ z6_.out).2.1);(case side3 => repeat (first|exact (rr_ z7_.out).2.2|(with_reducible refine ca_ ?_ _)|(with_reducible refine cn_ ?_ _)|(with_reducible refine cd_ ?_)));(case side4 => exact (rr_ z7_.out).2.1);(case side5 => repeat (first|exact (rr_ z8_.out).2.2|(with_reducible refine ca_ ?_ _)|(with_reducible refine cn_ ?_ _)|(with_reducible refine cd_ ?_)));(case side6 => exact (rr_ z8_.out).2.1);rintro e w169 ⟨rfl,hb⟩;refine ⟨_,rfl,?_⟩;have n0_:=mk_ (rb_ (qr_ z0_) hb);have n1_:=mk_ (rb_ (qr_ z1_) hb);have n2_:=mk_ (rb_ (qr_ z2_) hb);have n3_:=mk_ (rb_ (qr_ z3_) hb);have n4_:=mk_ (rb_ (qr_ z4_) hb);have n5_:=mk_ (rb_ (qr_ z5_) hb);have n6_:=mk_ (rb_ (qr_ z6_) hb);have n7_:=mk_ (rb_ (qr_ z7_) hb);have n8_:=mk_ (rb_ (qr_ z8_) hb);have n9_:=mk_ (rb_ (qr_ z9_) hb);have n10_:=mk_ (rb_ (qr_ z10_) hb);have n11_:=mk_ (rb_ (qr_ z11_) hb);have n12_:=mk_ (blk_below (g:=gb228) (o:=.cells #[.int .i64 a0_0,.slice A0_1 l0_1.length c0_1,.slice A0_2 l0_2.length c0_2,.slice A0_3 l0_3.length c0_3] 25 (0,0)) (qk_ BK228) hb);have n13_:=mk_ (blk_below (g:=gb251) (o:=.cells #[.int .i64 t240,.slice Ao25 t241.length co25,.slice Ao26 t244.length co26,.slice Ao27 t247.length co27] 30 (0,0)) (qk_ BK251) hb);have n14_:=mk_ (blk_below (g:=gb262) (o:=.cells #[.int .i64 t252,.slice Ao34 t288.length co34,.slice Ao35 t289.length co35,.slice Ao36 t290.length co36] 30 (0,0)) (qk_ BK262) hb);have n15_:=mk_ (blk_below (g:=gb274) (o:=.cells #[.int .i64 t263,.slice Ao43 t293.length co43,.slice Ao44 t294.length co44,.slice Ao45 t295.length co45] 30 (0,0)) (qk_ BK274) hb);have n16_:=mk_ (blk_below (g:=gb318) (o:=.cells #[.int .i64 t307,.slice Ao136 t308.length co136,.slice Ao137 t311.length co137,.slice Ao138 t314.length co138] 30 (0,0)) (qk_ BK318) hb);have n17_:=mk_ (st_ (u7_ HB GE228 GE251 GE262 GE274 GE318) hb);clear z0_ z1_ z2_ z3_ z4_ z5_ z6_ z7_ z8_ z9_ z10_ z11_ BK228 BK251 BK262 BK274 BK318 HB;have z0_:=n0_;have z1_:=n1_;have z2_:=n2_;have z3_:=n3_;have z4_:=n4_;have z5_:=n5_;have z6_:=n6_;have z7_:=n7_;have z8_:=n8_;have z9_:=n9_;have z10_:=n10_;have z11_:=n11_;have BK228:=n12_;have BK251:=n13_;have BK262:=n14_;have BK274:=n15_;have BK318:=n16_;have HB:=n17_;clear n0_ n1_ n2_ n3_ n4_ n5_ n6_ n7_ n8_ n9_ n10_ n11_ n12_ n13_ n14_ n15_ n16_ n17_;(try clear hb);(try clear hb2);(try clear hk);(try clear hi)))
               go_ret
               exact ⟨qe_,u7_ HB GE228 GE251 GE262 GE274 GE318⟩
              ·rw [if_neg c163] at H
               have c163b0 : decide (t320 < 0) = false:=decide_eq_false c163
               clear c163
               by_cases c170 : t320 = t292
               ·rw [if_pos c170] at H
                have c170b0 : (t320 == t292) = true:=beq_iff_eq.mpr c170
                have c170b1 : (t320 != t292) = false:=bne_eq_false_iff_eq.mpr c170
                clear c170
                obtain rfl:=Option.some.inj H
                have hnb171:=NB274_228.out
                have hnc171:=NB228_274.out
                have hnb172:=NB274_251.out
                have hnc172:=NB251_274.out
                have hnb173:=NB274_262.out
                have hnc173:=NB262_274.out
                have hnb174:=NB274_318.out
                have hnc174:=NB318_274.out
                have hcz175_0 : wc.cell? ⟨gb274,0,none⟩ = some (.int .i64 t263):=(bc_ BK274.out 0).trans rfl
                have hcz175_1 : wc.cell? ⟨gb274,1,none⟩ = some (.slice Ao43 t293.length co43):=(bc_ BK274.out 1).trans rfl
                have hcz175_2 : wc.cell? ⟨gb274,2,none⟩ = some (.slice Ao44 t294.length co44):=(bc_ BK274.out 2).trans rfl
                have hcz175_3 : wc.cell? ⟨gb274,3,none⟩ = some (.slice Ao45 t295.length co45):=(bc_ BK274.out 3).trans rfl
                have hfz175_0:=bf_ BK274.out 0
                have hfz175_1:=bf_ BK274.out 1
                have hfz175_2:=bf_ BK274.out 2
                have hfz175_3:=bf_ BK274.out 3
                go_wp2_with (first|((with_reducible refine gate_callee (f:=28) rfl ?_);refine goesL_ (some 95) rfl rfl Try.func28 (by kernel_rfl) rfl #[.agg #[.int .i64 t263,.slice Ao43 t293.length co43,.slice Ao44 t294.length co44,.slice Ao45 t295.length co45],.int .i64 1] rfl qm_ ?_;(with_reducible refine (laws_heldNet.calls kj113 t263 _ _ t293 _ _ t294 _ _ t295 1 t320 _ ?side1 ?side2 ?side3 ?side4 ?side5 ?side6 A162.out).mono ?_);(case side1 => repeat (first|exact (rr_ z6_.out).2.2|(with_reducible refine ca_ ?_ _)|(with_reducible refine cn_ ?_ _)|(with_reducible refine cd_ ?_)));(case side2 => exact (rr_ z6_.out).2.1);(case side3 => repeat (first|exact (rr_ z7_.out).2.2|(with_reducible refine ca_ ?_ _)|(with_reducible refine cn_ ?_ _)|(with_reducible refine cd_ ?_)));(case side4 => exact (rr_ z7_.out).2.1);(case side5 => repeat (first|exact (rr_ z8_.out).2.2|(with_reducible refine ca_ ?_ _)|(with_reducible refine cn_ ?_ _)|(with_reducible refine cd_ ?_)));(case side6 => exact (rr_ z8_.out).2.1);rintro e w176 ⟨rfl,hb⟩;refine ⟨_,rfl,?_⟩;have n0_:=mk_ (rb_ (qr_ z0_) hb);have n1_:=mk_ (rb_ (qr_ z1_) hb);have n2_:=mk_ (rb_ (qr_ z2_) hb);have n3_:=mk_ (rb_ (qr_ z3_) hb);have n4_:=mk_ (rb_ (qr_ z4_) hb);have n5_:=mk_ (rb_ (qr_ z5_) hb);have n6_:=mk_ (rb_ (qr_ z6_) hb);have n7_:=mk_ (rb_ (qr_ z7_) hb);have n8_:=mk_ (rb_ (qr_ z8_) hb);have n9_:=mk_ (rb_ (qr_ z9_) hb);have n10_:=mk_ (rb_ (qr_ z10_) hb);have n11_:=mk_ (rb_ (qr_ z11_) hb);have n12_:=mk_ (blk_below (g:=gb228) (o:=.cells #[.int .i64 a0_0,.slice A0_1 l0_1.length c0_1,.slice A0_2 l0_2.length c0_2,.slice A0_3 l0_3.length c0_3] 25 (0,0)) (qk_ BK228) hb);have n13_:=mk_ (blk_below (g:=gb251) (o:=.cells #[.int .i64 t240,.slice Ao25 t241.length co25,.slice Ao26 t244.length co26,.slice Ao27 t247.length co27] 30 (0,0)) (qk_ BK251) hb);have n14_:=mk_ (blk_below (g:=gb262) (o:=.cells #[.int .i64 t252,.slice Ao34 t288.length co34,.slice Ao35 t289.length co35,.slice Ao36 t290.length co36] 30 (0,0)) (qk_ BK262) hb);have n15_:=mk_ (blk_below (g:=gb274) (o:=.cells #[.int .i64 t263,.slice Ao43 t293.length co43,.slice Ao44 t294.length co44,.slice Ao45 t295.length co45] 30 (0,0)) (qk_ BK274) hb);have n16_:=mk_ (blk_below (g:=gb318) (o:=.cells #[.int .i64 t307,.slice Ao136 t308.length co136,.slice Ao137 t311.length co137,.slice Ao138 t314.length co138] 30 (0,0)) (qk_ BK318) hb);have n17_:=mk_ (st_ (u7_ HB GE228 GE251 GE262 GE274 GE318) hb);clear z0_ z1_ z2_ z3_ z4_ z5_ z6_ z7_ z8_ z9_ z10_ z11_ BK228 BK251 BK262 BK274 BK318 HB;have z0_:=n0_;have z1_:=n1_;have z2_:=n2_;have z3_:=n3_;have z4_:=n4_;have z5_:=n5_;have z6_:=n6_;have z7_:=n7_;have z8_:=n8_;have z9_:=n9_;have z10_:=n10_;have z11_:=n11_;have BK228:=n12_;have BK251:=n13_;have BK262:=n14_;have BK274:=n15_;have BK318:=n16_;have HB:=n17_;clear n0_ n1_ n2_ n3_ n4_ n5_ n6_ n7_ n8_ n9_ n10_ n11_ n12_ n13_ n14_ n15_ n16_ n17_;(try clear hb);(try clear hb2);(try clear hk);(try clear hi)))
                go_ret
                exact ⟨qe_,u7_ HB GE228 GE251 GE262 GE274 GE318⟩
               ·rw [if_neg c170] at H
                have c170b0 : (t320 == t292) = false:=beq_eq_false_iff_ne.mpr c170
                have c170b1 : (t320 != t292) = true:=bne_iff_ne.mpr c170
                obtain rfl:=Option.some.inj H
                have hnb177:=NB274_228.out
                have hnc177:=NB228_274.out
                have hnb178:=NB274_251.out
                have hnc178:=NB251_274.out
                have hnb179:=NB274_262.out
                have hnc179:=NB262_274.out
                have hnb180:=NB274_318.out
                have hnc180:=NB318_274.out
                have hcz181_0 : wc.cell? ⟨gb274,0,none⟩ = some (.int .i64 t263):=(bc_ BK274.out 0).trans rfl
                have hcz181_1 : wc.cell? ⟨gb274,1,none⟩ = some (.slice Ao43 t293.length co43):=(bc_ BK274.out 1).trans rfl
                have hcz181_2 : wc.cell? ⟨gb274,2,none⟩ = some (.slice Ao44 t294.length co44):=(bc_ BK274.out 2).trans rfl
                have hcz181_3 : wc.cell? ⟨gb274,3,none⟩ = some (.slice Ao45 t295.length co45):=(bc_ BK274.out 3).trans rfl
                have hfz181_0:=bf_ BK274.out 0
                have hfz181_1:=bf_ BK274.out 1
                have hfz181_2:=bf_ BK274.out 2
                have hfz181_3:=bf_ BK274.out 3
                go_wp2_with (first|((with_reducible refine gate_callee (f:=28) rfl ?_);refine goesL_ (some 95) rfl rfl Try.func28 (by kernel_rfl) rfl #[.agg #[.int .i64 t263,.slice Ao43 t293.length co43,.slice Ao44 t294.length co44,.slice Ao45 t295.length co45],.int .i64 1] rfl qm_ ?_;(with_reducible refine (laws_heldNet.calls kj113 t263 _ _ t293 _ _ t294 _ _ t295 1 t320 _ ?side1 ?side2 ?side3 ?side4 ?side5 ?side6 A162.out).mono ?_);(case side1 => repeat (first|exact (rr_ z6_.out).2.2|(with_reducible refine ca_ ?_ _)|(with_reducible refine cn_ ?_ _)|(with_reducible refine cd_ ?_)));(case side2 => exact (rr_ z6_.out).2.1);(case side3 => repeat (first|exact (rr_ z7_.out).2.2|(with_reducible refine ca_ ?_ _)|(with_reducible refine cn_ ?_ _)|(with_reducible refine cd_ ?_)));(case side4 => exact (rr_ z7_.out).2.1);(case side5 => repeat (first|exact (rr_ z8_.out).2.2|(with_reducible refine ca_ ?_ _)|(with_reducible refine cn_ ?_ _)|(with_reducible refine cd_ ?_)));(case side6 => exact (rr_ z8_.out).2.1);rintro e w182 ⟨rfl,hb⟩;refine ⟨_,rfl,?_⟩;have n0_:=mk_ (rb_ (qr_ z0_) hb);have n1_:=mk_ (rb_ (qr_ z1_) hb);have n2_:=mk_ (rb_ (qr_ z2_) hb);have n3_:=mk_ (rb_ (qr_ z3_) hb);have n4_:=mk_ (rb_ (qr_ z4_) hb);have n5_:=mk_ (rb_ (qr_ z5_) hb);have n6_:=mk_ (rb_ (qr_ z6_) hb);have n7_:=mk_ (rb_ (qr_ z7_) hb);have n8_:=mk_ (rb_ (qr_ z8_) hb);have n9_:=mk_ (rb_ (qr_ z9_) hb);have n10_:=mk_ (rb_ (qr_ z10_) hb);have n11_:=mk_ (rb_ (qr_ z11_) hb);have n12_:=mk_ (blk_below (g:=gb228) (o:=.cells #[.int .i64 a0_0,.slice A0_1 l0_1.length c0_1,.slice A0_2 l0_2.length c0_2,.slice A0_3 l0_3.length c0_3] 25 (0,0)) (qk_ BK228) hb);have n13_:=mk_ (blk_below (g:=gb251) (o:=.cells #[.int .i64 t240,.slice Ao25 t241.length co25,.slice Ao26 t244.length co26,.slice Ao27 t247.length co27] 30 (0,0)) (qk_ BK251) hb);have n14_:=mk_ (blk_below (g:=gb262) (o:=.cells #[.int .i64 t252,.slice Ao34 t288.length co34,.slice Ao35 t289.length co35,.slice Ao36 t290.length co36] 30 (0,0)) (qk_ BK262) hb);have n15_:=mk_ (blk_below (g:=gb274) (o:=.cells #[.int .i64 t263,.slice Ao43 t293.length co43,.slice Ao44 t294.length co44,.slice Ao45 t295.length co45] 30 (0,0)) (qk_ BK274) hb);have n16_:=mk_ (blk_below (g:=gb318) (o:=.cells #[.int .i64 t307,.slice Ao136 t308.length co136,.slice Ao137 t311.length co137,.slice Ao138 t314.length co138] 30 (0,0)) (qk_ BK318) hb);have n17_:=mk_ (st_ (u7_ HB GE228 GE251 GE262 GE274 GE318) hb);clear z0_ z1_ z2_ z3_ z4_ z5_ z6_ z7_ z8_ z9_ z10_ z11_ BK228 BK251 BK262 BK274 BK318 HB;have z0_:=n0_;have z1_:=n1_;have z2_:=n2_;have z3_:=n3_;have z4_:=n4_;have z5_:=n5_;have z6_:=n6_;have z7_:=n7_;have z8_:=n8_;have z9_:=n9_;have z10_:=n10_;have z11_:=n11_;have BK228:=n12_;have BK251:=n13_;have BK262:=n14_;have BK274:=n15_;have BK318:=n16_;have HB:=n17_;clear n0_ n1_ n2_ n3_ n4_ n5_ n6_ n7_ n8_ n9_ n10_ n11_ n12_ n13_ n14_ n15_ n16_ n17_;(try clear hb);(try clear hb2);(try clear hk);(try clear hi)))
                go_ret
                exact ⟨qe_,u7_ HB GE228 GE251 GE262 GE274 GE318⟩
          ·rw [if_neg c111] at H
           have c111b0 : (t296 == t292) = false:=beq_eq_false_iff_ne.mpr c111
           have c111b1 : (t296 != t292) = true:=bne_iff_ne.mpr c111
           obtain rfl:=Option.some.inj H
           have hnb183:=NB274_228.out
           have hnc183:=NB228_274.out
           have hnb184:=NB274_251.out
           have hnc184:=NB251_274.out
           have hnb185:=NB274_262.out
           have hnc185:=NB262_274.out
           have hcz186_0 : wc.cell? ⟨gb274,0,none⟩ = some (.int .i64 t263):=(bc_ BK274.out 0).trans rfl
           have hcz186_1 : wc.cell? ⟨gb274,1,none⟩ = some (.slice Ao43 t264.length co43):=(bc_ BK274.out 1).trans rfl
           have hcz186_2 : wc.cell? ⟨gb274,2,none⟩ = some (.slice Ao44 t267.length co44):=(bc_ BK274.out 2).trans rfl
           have hcz186_3 : wc.cell? ⟨gb274,3,none⟩ = some (.slice Ao45 t270.length co45):=(bc_ BK274.out 3).trans rfl
           have hfz186_0:=bf_ BK274.out 0
           have hfz186_1:=bf_ BK274.out 1
           have hfz186_2:=bf_ BK274.out 2
           have hfz186_3:=bf_ BK274.out 3
           go_wp2_with (first|((with_reducible refine gate_callee (f:=23) rfl ?_);refine goesL_ (some 68) rfl rfl Try.func23 (by kernel_rfl) rfl #[.agg #[.int .i64 t263,.slice Ao43 t264.length co43,.slice Ao44 t267.length co44,.slice Ao45 t270.length co45],.int .i64 1] rfl qm_ ?_;(with_reducible refine (laws_markNet.calls kj68 t263 (fun k_ => some k_ = (.slice Ao43 t264.length co43 : Value).ownBlock) (.slice Ao43 t264.length co43) t264 (fun k_ => some k_ = (.slice Ao44 t267.length co44 : Value).ownBlock) (.slice Ao44 t267.length co44) t267 (fun k_ => some k_ = (.slice Ao45 t270.length co45 : Value).ownBlock) (.slice Ao45 t270.length co45) t270 1 t292 t293 t294 t295 w _ ?side1 ?side2 ?side3 ?side4 ?side5 ?side6 A101.out).mono ?_);(case side1 => exact u6_ HB GE228 GE251 GE262 GE274);(case side2 => exact Kd.R_tight rfl z6_.out);(case side3 => exact Kd.R_tight rfl z7_.out);(case side4 => exact fun k_ e_ => (z7_.out.1 k_ e_.symm).2.2.2.2);(case side5 => exact Kd.R_tight rfl z8_.out);(case side6 => exact fun k_ e_ => (z8_.out.1 k_ e_.symm).2.2.2.2);rintro e w187 ⟨rfl,hy0,hy1,hy2,hb,hkp⟩;refine ⟨_,rfl,?_⟩;have n0_:=mk_ (rm_ (ok':=fun k_ => some k_ ≠ (.slice Ao34 t288.length co34 : Value).ownBlock ∧ some k_ ≠ (.slice Ao43 t264.length co43 : Value).ownBlock) (Kd.R_keptB ((Kd.R_apart' (Kd.R_apart' z0_.out (Kd.R_typed z7_.out) (by decide)) (Kd.R_typed z8_.out) (by decide))) hkp (fun k_ hk_ hs_ => Or.elim hs_ (fun e_ => (hk_.1.1.2) e_) (fun e_ => Or.elim e_ (fun e_ => (hk_.1.2) e_) (fun e_ => (hk_.2) e_)))) (fun k_ hk_ => ⟨hk_.1.1.1.1,hk_.1.1.1.2⟩));have n1_:=mk_ (rm_ (ok':=fun k_ => some k_ ≠ (.slice Ao27 t247.length co27 : Value).ownBlock ∧ some k_ ≠ (.slice Ao35 t289.length co35 : Value).ownBlock ∧ some k_ ≠ (.slice Ao36 t290.length co36 : Value).ownBlock ∧ some k_ ≠ (.slice Ao44 t267.length co44 : Value).ownBlock ∧ some k_ ≠ (.slice Ao45 t270.length co45 : Value).ownBlock) (Kd.R_keptB ((Kd.R_apart' z1_.out (Kd.R_typed z6_.out) (by decide))) hkp (fun k_ hk_ hs_ => Or.elim hs_ (fun e_ => (hk_.2) e_) (fun e_ => Or.elim e_ (fun e_ => (hk_.1.2.2.2.1) e_) (fun e_ => (hk_.1.2.2.2.2) e_)))) (fun k_ hk_ => ⟨hk_.1.1.1,hk_.1.1.2.1,hk_.1.1.2.2.1,hk_.1.1.2.2.2.1,hk_.1.1.2.2.2.2⟩));have n2_:=mk_ (rm_ (ok':=fun k_ => some k_ ≠ (.slice Ao26 t244.length co26 : Value).ownBlock ∧ some k_ ≠ (.slice Ao35 t289.length co35 : Value).ownBlock ∧ some k_ ≠ (.slice Ao36 t290.length co36 : Value).ownBlock ∧ some k_ ≠ (.slice Ao44 t267.length co44 : Value).ownBlock ∧ some k_ ≠ (.slice Ao45 t270.length co45 : Value).ownBlock) (Kd.R_keptB ((Kd.R_apart' z2_.out (Kd.R_typed z6_.out) (by decide))) hkp (fun k_ hk_ hs_ => Or.elim hs_ (fun e_ => (hk_.2) e_) (fun e_ => Or.elim e_ (fun e_ => (hk_.1.2.2.2.1) e_) (fun e_ => (hk_.1.2.2.2.2) e_)))) (fun k_ hk_ => ⟨hk_.1.1.1,hk_.1.1.2.1,hk_.1.1.2.2.1,hk_.1.1.2.2.2.1,hk_.1.1.2.2.2.2⟩));have n3_:=mk_ (rm_ (ok':=fun k_ => some k_ ≠ (.slice Ao25 t241.length co25 : Value).ownBlock ∧ some k_ ≠ (.slice Ao43 t264.length co43 : Value).ownBlock) (Kd.R_keptB ((Kd.R_apart' (Kd.R_apart' z3_.out (Kd.R_typed z7_.out) (by decide)) (Kd.R_typed z8_.out) (by decide))) hkp (fun k_ hk_ hs_ => Or.elim hs_ (fun e_ => (hk_.1.1.2) e_) (fun e_ => Or.elim e_ (fun e_ => (hk_.1.2) e_) (fun e_ => (hk_.2) e_)))) (fun k_ hk_ => ⟨hk_.1.1.1.1,hk_.1.1.1.2⟩));have n4_:=mk_ (rm_ (ok':=fun k_ => some k_ ≠ (.slice Ao26 t244.length co26 : Value).ownBlock ∧ some k_ ≠ (.slice Ao27 t247.length co27 : Value).ownBlock ∧ some k_ ≠ (.slice Ao36 t290.length co36 : Value).ownBlock ∧ some k_ ≠ (.slice Ao44 t267.length co44 : Value).ownBlock ∧ some k_ ≠ (.slice Ao45 t270.length co45 : Value).ownBlock) (Kd.R_keptB ((Kd.R_apart' z4_.out (Kd.R_typed z6_.out) (by decide))) hkp (fun k_ hk_ hs_ => Or.elim hs_ (fun e_ => (hk_.2) e_) (fun e_ => Or.elim e_ (fun e_ => (hk_.1.2.2.2.1) e_) (fun e_ => (hk_.1.2.2.2.2) e_)))) (fun k_ hk_ => ⟨hk_.1.1.1,hk_.1.1.2.1,hk_.1.1.2.2.1,hk_.1.1.2.2.2.1,hk_.1.1.2.2.2.2⟩));have n5_:=mk_ (rm_ (ok':=fun k_ => some k_ ≠ (.slice Ao26 t244.length co26 : Value).ownBlock ∧ some k_ ≠ (.slice Ao27 t247.length co27 : Value).ownBlock ∧ some k_ ≠ (.slice Ao35 t289.length co35 : Value).ownBlock ∧ some k_ ≠ (.slice Ao44 t267.length co44 : Value).ownBlock ∧ some k_ ≠ (.slice Ao45 t270.length co45 : Value).ownBlock) (Kd.R_keptB ((Kd.R_apart' z5_.out (Kd.R_typed z6_.out) (by decide))) hkp (fun k_ hk_ hs_ => Or.elim hs_ (fun e_ => (hk_.2) e_) (fun e_ => Or.elim e_ (fun e_ => (hk_.1.2.2.2.1) e_) (fun e_ => (hk_.1.2.2.2.2) e_)))) (fun k_ hk_ => ⟨hk_.1.1.1,hk_.1.1.2.1,hk_.1.1.2.2.1,hk_.1.1.2.2.2.1,hk_.1.1.2.2.2.2⟩));have n6_:=mk_ (Kd.R_reok rfl hy0 (fun k_ e_ => z6_.out.1 k_ e_));have n7_:=mk_ (Kd.R_reok rfl hy1 (fun k_ e_ => z7_.out.1 k_ e_));have n8_:=mk_ (Kd.R_reok rfl hy2 (fun k_ e_ => z8_.out.1 k_ e_));have n9_:=mk_ (blk_kept (qk_ BK228) hkp (fun hs_ => Or.elim hs_ (fun e_ => (fun e_ => (Kd.R_ne z6_.out BK228.out (by decide)) e_) e_) (fun e_ => Or.elim e_ (fun e_ => (fun e_ => (Kd.R_ne z7_.out BK228.out (by decide)) e_) e_) (fun e_ => (fun e_ => (Kd.R_ne z8_.out BK228.out (by decide)) e_) e_))));have n10_:=mk_ (blk_kept (qk_ BK251) hkp (fun hs_ => Or.elim hs_ (fun e_ => (fun e_ => (Kd.R_ne z6_.out BK251.out (by decide)) e_) e_) (fun e_ => Or.elim e_ (fun e_ => (fun e_ => (Kd.R_ne z7_.out BK251.out (by decide)) e_) e_) (fun e_ => (fun e_ => (Kd.R_ne z8_.out BK251.out (by decide)) e_) e_))));have n11_:=mk_ (blk_kept (qk_ BK262) hkp (fun hs_ => Or.elim hs_ (fun e_ => (fun e_ => (Kd.R_ne z6_.out BK262.out (by decide)) e_) e_) (fun e_ => Or.elim e_ (fun e_ => (fun e_ => (Kd.R_ne z7_.out BK262.out (by decide)) e_) e_) (fun e_ => (fun e_ => (Kd.R_ne z8_.out BK262.out (by decide)) e_) e_))));have n12_:=mk_ (blk_kept (qk_ BK274) hkp (fun hs_ => Or.elim hs_ (fun e_ => (fun e_ => (Kd.R_ne z6_.out BK274.out (by decide)) e_) e_) (fun e_ => Or.elim e_ (fun e_ => (fun e_ => (Kd.R_ne z7_.out BK274.out (by decide)) e_) e_) (fun e_ => (fun e_ => (Kd.R_ne z8_.out BK274.out (by decide)) e_) e_))));have n13_:=mk_ (hb);clear z0_ z1_ z2_ z3_ z4_ z5_ z6_ z7_ z8_ BK228 BK251 BK262 BK274 HB;have z0_:=n0_;have z1_:=n1_;have z2_:=n2_;have z3_:=n3_;have z4_:=n4_;have z5_:=n5_;have z6_:=n6_;have z7_:=n7_;have z8_:=n8_;have BK228:=n9_;have BK251:=n10_;have BK262:=n11_;have BK274:=n12_;have HB:=n13_;clear n0_ n1_ n2_ n3_ n4_ n5_ n6_ n7_ n8_ n9_ n10_ n11_ n12_ n13_;(try clear hb);(try clear hkp);(try clear hy0);(try clear hy1);(try clear hy2);have hcz188_0 : w187.cell? ⟨gb274,0,none⟩ = some (.int .i64 t263):=(bc_ BK274.out 0).trans rfl;have hcz188_1 : w187.cell? ⟨gb274,1,none⟩ = some (.slice Ao43 t264.length co43):=(bc_ BK274.out 1).trans rfl;have hcz188_2 : w187.cell? ⟨gb274,2,none⟩ = some (.slice Ao44 t267.length co44):=(bc_ BK274.out 2).trans rfl;have hcz188_3 : w187.cell? ⟨gb274,3,none⟩ = some (.slice Ao45 t270.length co45):=(bc_ BK274.out 3).trans rfl;have hfz188_0:=bf_ BK274.out 0;have hfz188_1:=bf_ BK274.out 1;have hfz188_2:=bf_ BK274.out 2;have hfz188_3:=bf_ BK274.out 3)|((with_reducible refine gate_callee (f:=28) rfl ?_);refine goesL_ (some 71) rfl rfl Try.func28 (by kernel_rfl) rfl #[.agg #[.int .i64 t263,.slice Ao43 t293.length co43,.slice Ao44 t294.length co44,.slice Ao45 t295.length co45],.int .i64 1] rfl (by (try simp only [List.map_toArray,List.map_cons,List.map_nil]);first|done|(rw [show t293.length = t264.length from (rr_ z6_.out).1.symm,show t294.length = t267.length from (rr_ z7_.out).1.symm,show t295.length = t270.length from (rr_ z8_.out).1.symm] <;> rfl)|rfl|(simp only [List.length_drop,List.length_take];rfl)) ?_;(with_reducible refine (laws_heldNet.calls kj68 t263 _ _ t293 _ _ t294 _ _ t295 1 t296 _ ?side1 ?side2 ?side3 ?side4 ?side5 ?side6 A102.out).mono ?_);(case side1 => repeat (first|exact (rr_ z6_.out).2.2|(with_reducible refine ca_ ?_ _)|(with_reducible refine cn_ ?_ _)|(with_reducible refine cd_ ?_)));(case side2 => rw [show t293.length = t264.length from (rr_ z6_.out).1.symm];exact (rr_ z6_.out).2.1);(case side3 => repeat (first|exact (rr_ z7_.out).2.2|(with_reducible refine ca_ ?_ _)|(with_reducible refine cn_ ?_ _)|(with_reducible refine cd_ ?_)));(case side4 => rw [show t294.length = t267.length from (rr_ z7_.out).1.symm];exact (rr_ z7_.out).2.1);(case side5 => repeat (first|exact (rr_ z8_.out).2.2|(with_reducible refine ca_ ?_ _)|(with_reducible refine cn_ ?_ _)|(with_reducible refine cd_ ?_)));(case side6 => rw [show t295.length = t270.length from (rr_ z8_.out).1.symm];exact (rr_ z8_.out).2.1);rintro e w189 ⟨rfl,hb⟩;refine ⟨_,rfl,?_⟩;have n0_:=mk_ (rb_ (qr_ z0_) hb);have n1_:=mk_ (rb_ (qr_ z1_) hb);have n2_:=mk_ (rb_ (qr_ z2_) hb);have n3_:=mk_ (rb_ (qr_ z3_) hb);have n4_:=mk_ (rb_ (qr_ z4_) hb);have n5_:=mk_ (rb_ (qr_ z5_) hb);have n6_:=mk_ (rb_ (qr_ z6_) hb);have n7_:=mk_ (rb_ (qr_ z7_) hb);have n8_:=mk_ (rb_ (qr_ z8_) hb);have n9_:=mk_ (blk_below (g:=gb228) (o:=.cells #[.int .i64 a0_0,.slice A0_1 l0_1.length c0_1,.slice A0_2 l0_2.length c0_2,.slice A0_3 l0_3.length c0_3] 25 (0,0)) (qk_ BK228) hb);have n10_:=mk_ (blk_below (g:=gb251) (o:=.cells #[.int .i64 t240,.slice Ao25 t241.length co25,.slice Ao26 t244.length co26,.slice Ao27 t247.length co27] 30 (0,0)) (qk_ BK251) hb);have n11_:=mk_ (blk_below (g:=gb262) (o:=.cells #[.int .i64 t252,.slice Ao34 t288.length co34,.slice Ao35 t289.length co35,.slice Ao36 t290.length co36] 30 (0,0)) (qk_ BK262) hb);have n12_:=mk_ (blk_below (g:=gb274) (o:=.cells #[.int .i64 t263,.slice Ao43 t264.length co43,.slice Ao44 t267.length co44,.slice Ao45 t270.length co45] 30 (0,0)) (qk_ BK274) hb);have n13_:=mk_ (st_ (u6_ HB GE228 GE251 GE262 GE274) hb);clear z0_ z1_ z2_ z3_ z4_ z5_ z6_ z7_ z8_ BK228 BK251 BK262 BK274 HB;have z0_:=n0_;have z1_:=n1_;have z2_:=n2_;have z3_:=n3_;have z4_:=n4_;have z5_:=n5_;have z6_:=n6_;have z7_:=n7_;have z8_:=n8_;have BK228:=n9_;have BK251:=n10_;have BK262:=n11_;have BK274:=n12_;have HB:=n13_;clear n0_ n1_ n2_ n3_ n4_ n5_ n6_ n7_ n8_ n9_ n10_ n11_ n12_ n13_;(try clear hb);(try clear hb2);(try clear hk);(try clear hi)))
           go_ret
           exact ⟨qe_,u6_ HB GE228 GE251 GE262 GE274⟩
     ·replace c67:=Bool.eq_false_iff.mpr c67
      subst c67
      have H1 : (some false) = some r:=by rw [if_neg (show ¬ (false = true) by decide)] at H;exact H
      clear H
      have H:=H1
      clear H1
      obtain rfl:=Option.some.inj H
      try go_wp2
      have n0_:=mk_ (rd_ z0_.out)
      have n1_:=mk_ (rd_ z1_.out)
      have n2_:=mk_ (rd_ z2_.out)
      have n3_:=mk_ (rd_ z3_.out)
      have n4_:=mk_ (rd_ z4_.out)
      have n5_:=mk_ (rd_ z5_.out)
      have n6_:=mk_ (rd_ z6_.out)
      have n7_:=mk_ (rd_ z7_.out)
      have n8_:=mk_ (rd_ z8_.out)
      have n9_:=mk_ (kd_ BK228.out)
      have n10_:=mk_ (kd_ BK251.out)
      have n11_:=mk_ (kd_ BK262.out)
      have n12_:=mk_ (kd_ BK274.out)
      have n13_:=mk_ (bd_ HB.out)
      clear z0_
      clear z1_
      clear z2_
      clear z3_
      clear z4_
      clear z5_
      clear z6_
      clear z7_
      clear z8_
      clear BK228
      clear BK251
      clear BK262
      clear BK274
      clear HB
      have z0_:=n0_
      have z1_:=n1_
      have z2_:=n2_
      have z3_:=n3_
      have z4_:=n4_
      have z5_:=n5_
      have z6_:=n6_
      have z7_:=n7_
      have z8_:=n8_
      have BK228:=n9_
      have BK251:=n10_
      have BK262:=n11_
      have BK274:=n12_
      have HB:=n13_
      clear n0_ n1_ n2_ n3_ n4_ n5_ n6_ n7_ n8_ n9_ n10_ n11_ n12_ n13_
      refine start_ (n:=5) (S:=fun w' => w'.cell? ⟨gb262,0,none⟩ = some (.int .i64 t252) ∧ w'.cell? ⟨gb262,1,none⟩ = some (.slice Ao34 t253.length co34) ∧ w'.cell? ⟨gb262,2,none⟩ = some (.slice Ao35 t256.length co35) ∧ w'.cell? ⟨gb262,3,none⟩ = some (.slice Ao36 t259.length co36) ∧ w'.cell? ⟨gb228,0,none⟩ = some (.int .i64 a0_0) ∧ w'.cell? ⟨gb228,1,none⟩ = some (.slice A0_1 l0_1.length c0_1) ∧ w'.cell? ⟨gb228,2,none⟩ = some (.slice A0_2 l0_2.length c0_2) ∧ w'.cell? ⟨gb228,3,none⟩ = some (.slice A0_3 l0_3.length c0_3)) (ds:=[]) #[false,false,false,false,false] (by kernel_rfl) rfl rfl ⟨(bc_ BK262.out 0).trans rfl,(bc_ BK262.out 1).trans rfl,(bc_ BK262.out 2).trans rfl,(bc_ BK262.out 3).trans rfl,(bc_ BK228.out 0).trans rfl,(bc_ BK228.out 1).trans rfl,(bc_ BK228.out 2).trans rfl,(bc_ BK228.out 3).trans rfl⟩ (fun hHeld => ?_)
      generalize wc.drew = w190 at z0_ z1_ z2_ z3_ z4_ z5_ z6_ z7_ z8_ BK228 BK251 BK262 BK274 HB hHeld ⊢
      refine take_ (i:=0) (N:=some 45) (v:=?_) (a':=?_) #[true,false,false,false,false] rfl rfl (by kernel_rfl) (fun _ _ _ h => h) (Or.inl ⟨by rfl,?_⟩) hHeld ?_ ?_
      rotate_left
      ·rintro w' ⟨s0,s1,s2,s3,s4,s5,s6,s7⟩
       go_simp
       with_reducible rfl
      rotate_left
      ·simp only [Act.put,sx_,sy_,sz_,i64_w,i32_w]
       rfl
      refine take_ (i:=1) (N:=some 46) (v:=?_) (a':=?_) #[true,true,false,false,false] rfl rfl (by kernel_rfl) (fun _ _ _ h => h) (Or.inl ⟨by rfl,?_⟩) hHeld ?_ ?_
      rotate_left
      ·rintro w' ⟨s0,s1,s2,s3,s4,s5,s6,s7⟩
       go_simp
       with_reducible rfl
      rotate_left
      ·simp only [Act.put,sx_,sy_,sz_,i64_w,i32_w]
       rfl
      refine one_ (i:=2) (N:=some 47) #[true,true,true,false,false] rfl rfl (by kernel_rfl) (by decide) (fun K hK => ?_)
      refine goes_ Try.func14 (by kernel_rfl) rfl #[.agg #[.int .i64 a0_0,.slice A0_1 l0_1.length c0_1,.slice A0_2 l0_2.length c0_2,.slice A0_3 l0_3.length c0_3]] (by rfl) rfl rfl qm_ ?_
      with_reducible refine (laws_toNet.calls kj11 a0_0 _ _ l0_1 _ _ l0_2 _ _ l0_3 t276 t277 t280 t283 _ ?side1 ?side2 ?side3 ?side4 ?side5 ?side6 A65.out).mono ?_
      (case side1 => exact qn_ HR0_1 HB)
      (case side2 => exact HC0_1.out)
      (case side3 => exact qn_ HR0_2 HB)
      (case side4 => exact HC0_2.out)
      (case side5 => exact qn_ HR0_3 HB)
      (case side6 => exact HC0_3.out)
      rintro e w191 ⟨v278,v281,v284,rfl,ho0,ho1,ho2,hb⟩
      refine ⟨_,rfl,?_⟩
      have n0_:=mk_ (re_ (qr_ z0_) (Kd.R_base ho0) hb)
      have n1_:=mk_ (rm_ (Kd.R_told (Kd.R_told (Kd.R_old (qr_ z1_) hb) (Kd.R_base ho1)) (Kd.R_base ho2)) (λ_ h=>h.1))
      have n2_:=mk_ (rm_ (Kd.R_told (Kd.R_told (Kd.R_old (qr_ z2_) hb) (Kd.R_base ho1)) (Kd.R_base ho2)) (λ_ h=>h.1))
      have n3_:=mk_ (re_ (qr_ z3_) (Kd.R_base ho0) hb)
      have n4_:=mk_ (rm_ (Kd.R_told (Kd.R_told (Kd.R_old (qr_ z4_) hb) (Kd.R_base ho1)) (Kd.R_base ho2)) (λ_ h=>h.1))
      have n5_:=mk_ (rm_ (Kd.R_told (Kd.R_told (Kd.R_old (qr_ z5_) hb) (Kd.R_base ho1)) (Kd.R_base ho2)) (λ_ h=>h.1))
      have n6_:=mk_ (re_ (qr_ z6_) (Kd.R_base ho0) hb)
      have n7_:=mk_ (rm_ (Kd.R_told (Kd.R_told (Kd.R_old (qr_ z7_) hb) (Kd.R_base ho1)) (Kd.R_base ho2)) (λ_ h=>h.1))
      have n8_:=mk_ (rm_ (Kd.R_told (Kd.R_told (Kd.R_old (qr_ z8_) hb) (Kd.R_base ho1)) (Kd.R_base ho2)) (λ_ h=>h.1))
      have n9_:=mk_ (Kd.R_lower (Kd.R_new' (Kd.R_new' (Kd.R_new' ho0 (Kd.R_lt (qr_ z0_))) (Kd.R_lt (qr_ z3_))) (Kd.R_lt (qr_ z6_))) (bz_ (u6_ HB GE228 GE251 GE262 GE274)))
      have n10_:=mk_ (Kd.R_lower (Kd.R_new' (Kd.R_new' (Kd.R_new' (Kd.R_new' (Kd.R_new' (Kd.R_new' ho1 (Kd.R_lt (qr_ z1_))) (Kd.R_lt (qr_ z2_))) (Kd.R_lt (qr_ z4_))) (Kd.R_lt (qr_ z5_))) (Kd.R_lt (qr_ z7_))) (Kd.R_lt (qr_ z8_))) (bz_ (u6_ HB GE228 GE251 GE262 GE274)))
      have n11_:=mk_ (Kd.R_lower (Kd.R_new' (Kd.R_new' (Kd.R_new' (Kd.R_new' (Kd.R_new' (Kd.R_new' ho2 (Kd.R_lt (qr_ z1_))) (Kd.R_lt (qr_ z2_))) (Kd.R_lt (qr_ z4_))) (Kd.R_lt (qr_ z5_))) (Kd.R_lt (qr_ z7_))) (Kd.R_lt (qr_ z8_))) (bz_ (u6_ HB GE228 GE251 GE262 GE274)))
      have n12_:=mk_ (blk_below (g:=gb228) (o:=.cells #[.int .i64 a0_0,.slice A0_1 l0_1.length c0_1,.slice A0_2 l0_2.length c0_2,.slice A0_3 l0_3.length c0_3] 25 (0,0)) (qk_ BK228) hb)
      have n13_:=mk_ (blk_below (g:=gb251) (o:=.cells #[.int .i64 t240,.slice Ao25 t241.length co25,.slice Ao26 t244.length co26,.slice Ao27 t247.length co27] 30 (0,0)) (qk_ BK251) hb)
      have n14_:=mk_ (blk_below (g:=gb262) (o:=.cells #[.int .i64 t252,.slice Ao34 t253.length co34,.slice Ao35 t256.length co35,.slice Ao36 t259.length co36] 30 (0,0)) (qk_ BK262) hb)
      have n15_:=mk_ (blk_below (g:=gb274) (o:=.cells #[.int .i64 t263,.slice Ao43 t264.length co43,.slice Ao44 t267.length co44,.slice Ao45 t270.length co45] 30 (0,0)) (qk_ BK274) hb)
      have n16_:=mk_ (st_ (u6_ HB GE228 GE251 GE262 GE274) hb)
      clear z0_
      clear z1_
      clear z2_
      clear z3_
      clear z4_
      clear z5_
      clear z6_
      clear z7_
      clear z8_
      clear BK228
      clear BK251
      clear BK262
      clear BK274
      clear HB
      have z0_:=n0_
      have z1_:=n1_
      have z2_:=n2_
      have z3_:=n3_
      have z4_:=n4_
      have z5_:=n5_
      have z6_:=n6_
      have z7_:=n7_
      have z8_:=n8_
      have HO279:=n9_
      have HO282:=n10_
      have HO285:=n11_
      have BK228:=n12_
      have BK251:=n13_
      have BK262:=n14_
      have BK274:=n15_
      have HB:=n16_
      clear n0_ n1_ n2_ n3_ n4_ n5_ n6_ n7_ n8_ n9_ n10_ n11_ n12_ n13_ n14_ n15_ n16_
      (try clear hb)
      (try clear hb2)
      (try clear hk)
      (try clear hi)
      (try clear ho0)
      (try clear ho1)
      (try clear ho2)
      obtain ⟨Ao192,co192,eo192⟩:=Kd.R_slice HO279.out
      (first|subst eo192|(injection eo192 with f1_ f2_ f3_;have f4_:=f1_.symm;have f5_:=f3_.symm;clear f1_ f2_ f3_;subst f4_;subst f5_))
      obtain ⟨Ao193,co193,eo193⟩:=Kd.R_slice HO282.out
      (first|subst eo193|(injection eo193 with f1_ f2_ f3_;have f4_:=f1_.symm;have f5_:=f3_.symm;clear f1_ f2_ f3_;subst f4_;subst f5_))
      obtain ⟨Ao194,co194,eo194⟩:=Kd.R_slice HO285.out
      (first|subst eo194|(injection eo194 with f1_ f2_ f3_;have f4_:=f1_.symm;have f5_:=f3_.symm;clear f1_ f2_ f3_;subst f4_;subst f5_))
      refine hK.out _ _ ⟨(bc_ BK262.out 0).trans rfl,(bc_ BK262.out 1).trans rfl,(bc_ BK262.out 2).trans rfl,(bc_ BK262.out 3).trans rfl,(bc_ BK228.out 0).trans rfl,(bc_ BK228.out 1).trans rfl,(bc_ BK228.out 2).trans rfl,(bc_ BK228.out 3).trans rfl⟩ (fun hHeld => ?_)
      clear hK K
      refine norm_ (a':=?_) ?_ ?_
      rotate_left
      ·show Act.put _ (some 47) _ = _
       simp only [Act.put,sx_,sy_,sz_,i64_w,i32_w]
       rfl
      refine one_ (i:=3) (N:=some 48) #[true,true,true,true,false] rfl rfl (by kernel_rfl) (by decide) (fun K hK => ?_)
      refine goes_ Try.func16 (by kernel_rfl) rfl #[.agg #[.int .i64 t252,.slice Ao34 t253.length co34,.slice Ao35 t256.length co35,.slice Ao36 t259.length co36],.agg #[.int .i64 t276,.slice Ao192 t277.length co192,.slice Ao193 t280.length co193,.slice Ao194 t283.length co194]] (by rfl) rfl rfl qm_ ?_
      with_reducible refine (laws_eqNet.calls kj11 t252 _ _ t253 _ _ t256 _ _ t259 t276 _ _ t277 _ _ t280 _ _ t283 false _ ?side1 ?side2 ?side3 ?side4 ?side5 ?side6 ?side7 ?side8 ?side9 ?side10 ?side11 ?side12 A66.out).mono ?_
      (case side1 => repeat (first|exact (rr_ z3_.out).2.2|(with_reducible refine ca_ ?_ _)|(with_reducible refine cn_ ?_ _)|(with_reducible refine cd_ ?_)))
      (case side2 => exact (rr_ z3_.out).2.1)
      (case side3 => repeat (first|exact (rr_ z4_.out).2.2|(with_reducible refine ca_ ?_ _)|(with_reducible refine cn_ ?_ _)|(with_reducible refine cd_ ?_)))
      (case side4 => exact (rr_ z4_.out).2.1)
      (case side5 => repeat (first|exact (rr_ z5_.out).2.2|(with_reducible refine ca_ ?_ _)|(with_reducible refine cn_ ?_ _)|(with_reducible refine cd_ ?_)))
      (case side6 => exact (rr_ z5_.out).2.1)
      (case side7 => repeat (first|exact (rr_ HO279.out).2.2|(with_reducible refine ca_ ?_ _)|(with_reducible refine cn_ ?_ _)|(with_reducible refine cd_ ?_)))
      (case side8 => exact (rr_ HO279.out).2.1)
      (case side9 => repeat (first|exact (rr_ HO282.out).2.2|(with_reducible refine ca_ ?_ _)|(with_reducible refine cn_ ?_ _)|(with_reducible refine cd_ ?_)))
      (case side10 => exact (rr_ HO282.out).2.1)
      (case side11 => repeat (first|exact (rr_ HO285.out).2.2|(with_reducible refine ca_ ?_ _)|(with_reducible refine cn_ ?_ _)|(with_reducible refine cd_ ?_)))
      (case side12 => exact (rr_ HO285.out).2.1)
      rintro e w195 ⟨rfl,hb⟩
      refine ⟨_,rfl,?_⟩
      have n0_:=mk_ (rb_ (qr_ z0_) hb)
      have n1_:=mk_ (rb_ (qr_ z1_) hb)
      have n2_:=mk_ (rb_ (qr_ z2_) hb)
      have n3_:=mk_ (rb_ (qr_ z3_) hb)
      have n4_:=mk_ (rb_ (qr_ z4_) hb)
      have n5_:=mk_ (rb_ (qr_ z5_) hb)
      have n6_:=mk_ (rb_ (qr_ z6_) hb)
      have n7_:=mk_ (rb_ (qr_ z7_) hb)
      have n8_:=mk_ (rb_ (qr_ z8_) hb)
      have n9_:=mk_ (rb_ (qr_ HO279) hb)
      have n10_:=mk_ (rb_ (qr_ HO282) hb)
      have n11_:=mk_ (rb_ (qr_ HO285) hb)
      have n12_:=mk_ (blk_below (g:=gb228) (o:=.cells #[.int .i64 a0_0,.slice A0_1 l0_1.length c0_1,.slice A0_2 l0_2.length c0_2,.slice A0_3 l0_3.length c0_3] 25 (0,0)) (qk_ BK228) hb)
      have n13_:=mk_ (blk_below (g:=gb251) (o:=.cells #[.int .i64 t240,.slice Ao25 t241.length co25,.slice Ao26 t244.length co26,.slice Ao27 t247.length co27] 30 (0,0)) (qk_ BK251) hb)
      have n14_:=mk_ (blk_below (g:=gb262) (o:=.cells #[.int .i64 t252,.slice Ao34 t253.length co34,.slice Ao35 t256.length co35,.slice Ao36 t259.length co36] 30 (0,0)) (qk_ BK262) hb)
      have n15_:=mk_ (blk_below (g:=gb274) (o:=.cells #[.int .i64 t263,.slice Ao43 t264.length co43,.slice Ao44 t267.length co44,.slice Ao45 t270.length co45] 30 (0,0)) (qk_ BK274) hb)
      have n16_:=mk_ (st_ (u6_ HB GE228 GE251 GE262 GE274) hb)
      clear z0_
      clear z1_
      clear z2_
      clear z3_
      clear z4_
      clear z5_
      clear z6_
      clear z7_
      clear z8_
      clear HO279
      clear HO282
      clear HO285
      clear BK228
      clear BK251
      clear BK262
      clear BK274
      clear HB
      have z0_:=n0_
      have z1_:=n1_
      have z2_:=n2_
      have z3_:=n3_
      have z4_:=n4_
      have z5_:=n5_
      have z6_:=n6_
      have z7_:=n7_
      have z8_:=n8_
      have HO279:=n9_
      have HO282:=n10_
      have HO285:=n11_
      have BK228:=n12_
      have BK251:=n13_
      have BK262:=n14_
      have BK274:=n15_
      have HB:=n16_
      clear n0_ n1_ n2_ n3_ n4_ n5_ n6_ n7_ n8_ n9_ n10_ n11_ n12_ n13_ n14_ n15_ n16_
      (try clear hb)
      (try clear hb2)
      (try clear hk)
      (try clear hi)
      refine hK.out _ _ ⟨(bc_ BK262.out 0).trans rfl,(bc_ BK262.out 1).trans rfl,(bc_ BK262.out 2).trans rfl,(bc_ BK262.out 3).trans rfl,(bc_ BK228.out 0).trans rfl,(bc_ BK228.out 1).trans rfl,(bc_ BK228.out 2).trans rfl,(bc_ BK228.out 3).trans rfl⟩ (fun hHeld => ?_)
      clear hK K
      refine norm_ (a':=?_) ?_ ?_
      rotate_left
      ·show Act.put _ (some 48) _ = _
       simp only [Act.put,sx_,sy_,sz_,i64_w,i32_w]
       rfl
      refine pure_ (i:=4) (N:=some 49) (v:=?_) (a':=?_) #[true,true,true,true,true] rfl rfl (by kernel_rfl) (fun _ _ _ h => h) (Or.inl ⟨by rfl,?_⟩) ?_ ?_
      rotate_left
      ·intro w'
       go_simp
       with_reducible rfl
      rotate_left
      ·simp only [Act.put,sx_,sy_,sz_,i64_w,i32_w]
       rfl
      refine done_ (by kernel_rfl) ?_
      try go_wp2
      go_ret
      exact ⟨qe_,u6_ HB GE228 GE251 GE262 GE274⟩

/-- The pure statement of laws_FnExactCutCable. -/
def laws_FnExactCutCable.Pure : Prop:=∀ (a0_0 : Int) (l0_1 : List (S79)) (l0_2 : List Int) (l0_3 : List Int) (a1 : Int),(Lit.int .i64 a0_0).wf = true → (l0_1.length ≤ maxLen ∧ ∀ y0 ∈ l0_1,((Lit.int .i64 y0.f0).wf = true ∧ ((Lit.int .i64 y0.f1).wf = true ∧ (Lit.int .i64 y0.f2).wf = true))) → (l0_2.length ≤ maxLen ∧ ∀ y0 ∈ l0_2,(Lit.int .i64 y0).wf = true) → (l0_3.length ≤ maxLen ∧ ∀ y0 ∈ l0_3,(Lit.int .i64 y0).wf = true) → (Lit.int .i64 a1).wf = true → ∃ k,laws_FnExactCutCable.f k a0_0 l0_1 l0_2 l0_3 a1 = some true
theorem laws_FnExactCutCable.walk (P : laws_FnExactCutCable.Pure) (a0_0 : Int) (A0_1 : Option Addr) (c0_1 : Nat) (l0_1 : List (S79)) (A0_2 : Option Addr) (c0_2 : Nat) (l0_2 : List Int) (A0_3 : Option Addr) (c0_3 : Nat) (l0_3 : List Int) (a1 : Int) (w : World) (w0_0 : (Lit.int .i64 a0_0).wf = true) (hr0_1 : Kd.C k79 w A0_1 l0_1.length l0_1) (hc0_1 : l0_1.length ≤ c0_1) (hm0_1 : (l0_1.length ≤ maxLen ∧ ∀ y0 ∈ l0_1,((Lit.int .i64 y0.f0).wf = true ∧ ((Lit.int .i64 y0.f1).wf = true ∧ (Lit.int .i64 y0.f2).wf = true)))) (hr0_2 : Kd.C (Kd.int .i64) w A0_2 l0_2.length l0_2) (hc0_2 : l0_2.length ≤ c0_2) (hm0_2 : (l0_2.length ≤ maxLen ∧ ∀ y0 ∈ l0_2,(Lit.int .i64 y0).wf = true)) (hr0_3 : Kd.C (Kd.int .i64) w A0_3 l0_3.length l0_3) (hc0_3 : l0_3.length ≤ c0_3) (hm0_3 : (l0_3.length ≤ maxLen ∧ ∀ y0 ∈ l0_3,(Lit.int .i64 y0).wf = true)) (w1 : (Lit.int .i64 a1).wf = true) :
  Calls Try.prog 6 #[.agg #[.int .i64 a0_0,.slice A0_1 l0_1.length c0_1,.slice A0_2 l0_2.length c0_2,.slice A0_3 l0_3.length c0_3],.int .i64 a1] w fun e w' => e = .returned (.bool true) ∧ Below w.heap.size w w':=by
 obtain ⟨k,h⟩:=P a0_0 l0_1 l0_2 l0_3 a1 w0_0 hm0_1 hm0_2 hm0_3 w1
 refine (laws_FnExactCutCable.calls k a0_0 _ _ l0_1 _ _ l0_2 _ _ l0_3 a1 true _ hr0_1 hc0_1 hr0_2 hc0_2 hr0_3 hc0_3 h).mono ?_
 rintro e w' ⟨rfl,hd⟩
 exact ⟨rfl,hd⟩

end Go.Proofs.Ytdamdcdjodmemaa.PAll
