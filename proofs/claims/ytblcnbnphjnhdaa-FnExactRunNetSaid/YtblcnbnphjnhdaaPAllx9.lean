/- Proved here: contracts of functions of the given program, or lemmas on them, for the laws of this seat. Written by xprint.py, a program of this session, on the ground of the kit's print; parts by hand: wip/x/ext. -/
import Derived.Test.YtblcnbnphjnhdaaPAllx0
import Derived.Test.YtblcnbnphjnhdaaPAllx1
import Derived.Test.YtblcnbnphjnhdaaPAllx5
import Derived.Test.YtblcnbnphjnhdaaPAllx6
import Derived.Test.YtblcnbnphjnhdaaPAllx8
namespace Go.Proofs.Ytblcnbnphjnhdaa.PAll
open Go.RowKit Go.Proofs.YtblcnbnphjnhdaaW.PrintWords Go.Proofs.YtblcnbnphjnhdaaW.PrintLast Go.Proofs.YtblcnbnphjnhdaaW.PrintMore
attribute [local go_sem] max2_int min2_int max_two min_two max_three min_three max_four min_four   -- for this text's walks alone
set_option linter.unusedVariables false
set_option linter.unusedSimpArgs false

/-! ### laws_eqNet: function 22 -/
def laws_eqNet.f (k : Nat) (a0_0 : Int) (l0_1 : List (S83)) (l0_2 : List Int) (l0_3 : List Int) (a1_0 : Int) (l1_1 : List (S83)) (l1_2 : List Int) (l1_3 : List Int) : Option (Bool):=if a0_0 = a1_0 then ((laws_eqCableS.f k l0_1 l1_1).bind fun t425 => (if t425 = true then ((laws_eqIntS.f k l0_2 l1_2).bind fun t426 => (if t426 = true then ((laws_eqIntS.f k l0_3 l1_3).bind fun t427 => (if t427 = true then (some true) else (some false))) else (some false))) else (some false))) else (some false)
theorem laws_eqNet.mono : ∀ a0 a1 a2 a3 a4 a5 a6 a7 k,LeO (laws_eqNet.f k a0 a1 a2 a3 a4 a5 a6 a7) (laws_eqNet.f (k + 1) a0 a1 a2 a3 a4 a5 a6 a7):=by
 intro a0 a1 a2 a3 a4 a5 a6 a7 k
 unfold laws_eqNet.f
 repeat' first
   | (with_reducible exact laws_eqCableS.mono _ _ _)
   | (with_reducible exact laws_eqIntS.mono _ _ _)
   | (with_reducible exact LeO.refl _)
   | (with_reducible exact LeO.none _)
   | (with_reducible refine LeO.ite ?_ ?_)
   | (with_reducible refine LeO.bind ?_ (fun _ => ?_))
   | exact laws_eqCableS.mono _ _ _
   | exact laws_eqIntS.mono _ _ _
   | exact LeO.none _
   | refine LeO.ite ?_ ?_
   | refine LeO.bind ?_ (fun _ => ?_)
set_option maxHeartbeats 8000000 in
set_option maxRecDepth 100000 in
theorem laws_eqNet.calls (k : Nat) (a0_0 : Int) (A0_1 : Option Addr) (c0_1 : Nat) (l0_1 : List (S83)) (A0_2 : Option Addr) (c0_2 : Nat) (l0_2 : List Int) (A0_3 : Option Addr) (c0_3 : Nat) (l0_3 : List Int) (a1_0 : Int) (A1_1 : Option Addr) (c1_1 : Nat) (l1_1 : List (S83)) (A1_2 : Option Addr) (c1_2 : Nat) (l1_2 : List Int) (A1_3 : Option Addr) (c1_3 : Nat) (l1_3 : List Int) (r : Bool) (w : World) (hr0_1 : Kd.C k83 w A0_1 l0_1.length l0_1) (hc0_1 : l0_1.length ≤ c0_1) (hr0_2 : Kd.C (Kd.int .i64) w A0_2 l0_2.length l0_2) (hc0_2 : l0_2.length ≤ c0_2) (hr0_3 : Kd.C (Kd.int .i64) w A0_3 l0_3.length l0_3) (hc0_3 : l0_3.length ≤ c0_3) (hr1_1 : Kd.C k83 w A1_1 l1_1.length l1_1) (hc1_1 : l1_1.length ≤ c1_1) (hr1_2 : Kd.C (Kd.int .i64) w A1_2 l1_2.length l1_2) (hc1_2 : l1_2.length ≤ c1_2) (hr1_3 : Kd.C (Kd.int .i64) w A1_3 l1_3.length l1_3) (hc1_3 : l1_3.length ≤ c1_3) (h : laws_eqNet.f k a0_0 l0_1 l0_2 l0_3 a1_0 l1_1 l1_2 l1_3 = some r) :
  Calls Try.prog 22 #[.agg #[.int .i64 a0_0,.slice A0_1 l0_1.length c0_1,.slice A0_2 l0_2.length c0_2,.slice A0_3 l0_3.length c0_3],.agg #[.int .i64 a1_0,.slice A1_1 l1_1.length c1_1,.slice A1_2 l1_2.length c1_2,.slice A1_3 l1_3.length c1_3]] w fun e w' => e = .returned (.bool r) ∧ Below w.heap.size w w':=by
 have hu26:=Try.underlying26
 have HR0_1:=mk_ hr0_1
 have HC0_1:=mk_ hc0_1
 clear hr0_1 hc0_1
 have HR0_2:=mk_ hr0_2
 have HC0_2:=mk_ hc0_2
 clear hr0_2 hc0_2
 have HR0_3:=mk_ hr0_3
 have HC0_3:=mk_ hc0_3
 clear hr0_3 hc0_3
 have HR1_1:=mk_ hr1_1
 have HC1_1:=mk_ hc1_1
 clear hr1_1 hc1_1
 have HR1_2:=mk_ hr1_2
 have HC1_2:=mk_ hc1_2
 clear hr1_2 hc1_2
 have HR1_3:=mk_ hr1_3
 have HC1_3:=mk_ hc1_3
 clear hr1_3 hc1_3
 have HB:=mk_ (Below.refl w.heap.size w)
 have H : (if a0_0 = a1_0 then ((laws_eqCableS.f k l0_1 l1_1).bind fun t425 => (if t425 = true then ((laws_eqIntS.f k l0_2 l1_2).bind fun t426 => (if t426 = true then ((laws_eqIntS.f k l0_3 l1_3).bind fun t427 => (if t427 = true then (some true) else (some false))) else (some false))) else (some false))) else (some false)) = some r:=h
 clear h
 by_cases c3 : a0_0 = a1_0
 ·rw [if_pos c3] at H
  have c3b0 : (a0_0 == a1_0) = true:=beq_iff_eq.mpr c3
  have c3b1 : (a0_0 != a1_0) = false:=bne_eq_false_iff_eq.mpr c3
  clear c3
  replace H:=Option.bind_eq_some_iff.mp H
  obtain ⟨t425,A40,H⟩:=H
  replace H : (if t425 = true then ((laws_eqIntS.f k l0_2 l1_2).bind fun t426 => (if t426 = true then ((laws_eqIntS.f k l0_3 l1_3).bind fun t427 => (if t427 = true then (some true) else (some false))) else (some false))) else (some false)) = some r:=H
  have A4:=mk_ A40
  clear A40
  by_cases c5 : t425 = true
  ·subst c5
   have H1 : ((laws_eqIntS.f k l0_2 l1_2).bind fun t426 => (if t426 = true then ((laws_eqIntS.f k l0_3 l1_3).bind fun t427 => (if t427 = true then (some true) else (some false))) else (some false))) = some r:=by rw [if_pos rfl] at H;exact H
   clear H
   have H:=H1
   clear H1
   replace H:=Option.bind_eq_some_iff.mp H
   obtain ⟨t426,A60,H⟩:=H
   replace H : (if t426 = true then ((laws_eqIntS.f k l0_3 l1_3).bind fun t427 => (if t427 = true then (some true) else (some false))) else (some false)) = some r:=H
   have A6:=mk_ A60
   clear A60
   by_cases c7 : t426 = true
   ·subst c7
    have H1 : ((laws_eqIntS.f k l0_3 l1_3).bind fun t427 => (if t427 = true then (some true) else (some false))) = some r:=by rw [if_pos rfl] at H;exact H
    clear H
    have H:=H1
    clear H1
    replace H:=Option.bind_eq_some_iff.mp H
    obtain ⟨t427,A80,H⟩:=H
    replace H : (if t427 = true then (some true) else (some false)) = some r:=H
    have A8:=mk_ A80
    clear A80
    by_cases c9 : t427 = true
    ·subst c9
     have H1 : (some true) = some r:=by rw [if_pos rfl] at H;exact H
     clear H
     have H:=H1
     clear H1
     obtain rfl:=Option.some.inj H
     go_enter Try.func22,Try.ntmps22
     go_wp2_with (first|((with_reducible refine gate_dst (N:=2) rfl ?_);refine box_event ?hg (N:=2) ?hd (cs:=#[.int .i64 a0_0,.slice A0_1 l0_1.length c0_1,.slice A0_2 l0_2.length c0_2,.slice A0_3 l0_3.length c0_3]) (t:=26) ?hr ?_;(case hd => rfl);(case hg => rfl);(case hr => first|(go_simp;done)|(go_simp;rfl));intro gb423 hg w10 hbox hb;have n0_:=mk_ (st_ (qb_ HB) hb);have n1_:=mk_ (hbox);have n2_:=mk_ ((by rw [hg];exact (bz_ (qb_ HB)) : w.heap.size ≤ gb423));have n3_:=mk_ ((by rw [hg];exact (bz_ (qb_ HB)) : w.heap.size ≤ gb423));clear HB;have HB:=n0_;have BK423:=n1_;have GW423:=n2_;have GE423:=n3_;clear n0_ n1_ n2_ n3_ hb hbox hg)|((with_reducible refine gate_dst (N:=3) rfl ?_);refine box_event ?hg (N:=3) ?hd (cs:=#[.int .i64 a1_0,.slice A1_1 l1_1.length c1_1,.slice A1_2 l1_2.length c1_2,.slice A1_3 l1_3.length c1_3]) (t:=26) ?hr ?_;(case hd => rfl);(case hg => rfl);(case hr => first|(go_simp;done)|(go_simp;rfl));intro gb424 hg w11 hbox hb;have n0_:=mk_ (blk_below (g:=gb423) (o:=.cells #[.int .i64 a0_0,.slice A0_1 l0_1.length c0_1,.slice A0_2 l0_2.length c0_2,.slice A0_3 l0_3.length c0_3] 26 (0,0)) (qk_ BK423) hb);have n1_:=mk_ (st_ (qc_ HB GE423) hb);have n2_:=mk_ (hbox);have n3_:=mk_ ((by rw [hg];exact (bz_ (qc_ HB GE423)) : w.heap.size ≤ gb424));have n4_:=mk_ ((by rw [hg];exact (bz_ (qc_ HB GE423)) : w.heap.size ≤ gb424));have n5_:=mk_ ((by rw [hg];exact Nat.ne_of_lt (blk_lt (g:=gb423) (o:=.cells #[.int .i64 a0_0,.slice A0_1 l0_1.length c0_1,.slice A0_2 l0_2.length c0_2,.slice A0_3 l0_3.length c0_3] 26 (0,0)) (qk_ BK423)) : gb423 ≠ gb424));have n6_:=mk_ ((by rw [hg];exact Nat.ne_of_gt (blk_lt (g:=gb423) (o:=.cells #[.int .i64 a0_0,.slice A0_1 l0_1.length c0_1,.slice A0_2 l0_2.length c0_2,.slice A0_3 l0_3.length c0_3] 26 (0,0)) (qk_ BK423)) : gb424 ≠ gb423));clear BK423 HB;have BK423:=n0_;have HB:=n1_;have BK424:=n2_;have GW424:=n3_;have GE424:=n4_;have NB423_424:=n5_;have NB424_423:=n6_;clear n0_ n1_ n2_ n3_ n4_ n5_ n6_ hb hbox hg;have hnb12:=NB423_424.out;have hnc12:=NB424_423.out;have hcz13_0 : w11.cell? ⟨gb423,0,none⟩ = some (.int .i64 a0_0):=(bc_ BK423.out 0).trans rfl;have hcz13_1 : w11.cell? ⟨gb423,1,none⟩ = some (.slice A0_1 l0_1.length c0_1):=(bc_ BK423.out 1).trans rfl;have hcz13_2 : w11.cell? ⟨gb423,2,none⟩ = some (.slice A0_2 l0_2.length c0_2):=(bc_ BK423.out 2).trans rfl;have hcz13_3 : w11.cell? ⟨gb423,3,none⟩ = some (.slice A0_3 l0_3.length c0_3):=(bc_ BK423.out 3).trans rfl;have hfz13_0:=bf_ BK423.out 0;have hfz13_1:=bf_ BK423.out 1;have hfz13_2:=bf_ BK423.out 2;have hfz13_3:=bf_ BK423.out 3;have hcz14_0 : w11.cell? ⟨gb424,0,none⟩ = some (.int .i64 a1_0):=(bc_ BK424.out 0).trans rfl;have hcz14_1 : w11.cell? ⟨gb424,1,none⟩ = some (.slice A1_1 l1_1.length c1_1):=(bc_ BK424.out 1).trans rfl;have hcz14_2 : w11.cell? ⟨gb424,2,none⟩ = some (.slice A1_2 l1_2.length c1_2):=(bc_ BK424.out 2).trans rfl;have hcz14_3 : w11.cell? ⟨gb424,3,none⟩ = some (.slice A1_3 l1_3.length c1_3):=(bc_ BK424.out 3).trans rfl;have hfz14_0:=bf_ BK424.out 0;have hfz14_1:=bf_ BK424.out 1;have hfz14_2:=bf_ BK424.out 2;have hfz14_3:=bf_ BK424.out 3)|((with_reducible refine gate_callee (f:=53) rfl ?_);refine goesL_ (some 14) rfl rfl Try.func53 (by kernel_rfl) rfl #[.slice A0_1 l0_1.length c0_1,.slice A1_1 l1_1.length c1_1] rfl qm_ ?_;(with_reducible refine (laws_eqCableS.calls k _ _ l0_1 _ _ l1_1 true _ ?side1 ?side2 ?side3 ?side4 A4.out).mono ?_);(case side1 => exact qn_ HR0_1 HB);(case side2 => exact HC0_1.out);(case side3 => exact qn_ HR1_1 HB);(case side4 => exact HC1_1.out);rintro e w15 ⟨rfl,hb⟩;refine ⟨_,rfl,?_⟩;have n0_:=mk_ (blk_below (g:=gb423) (o:=.cells #[.int .i64 a0_0,.slice A0_1 l0_1.length c0_1,.slice A0_2 l0_2.length c0_2,.slice A0_3 l0_3.length c0_3] 26 (0,0)) (qk_ BK423) hb);have n1_:=mk_ (blk_below (g:=gb424) (o:=.cells #[.int .i64 a1_0,.slice A1_1 l1_1.length c1_1,.slice A1_2 l1_2.length c1_2,.slice A1_3 l1_3.length c1_3] 26 (0,0)) (qk_ BK424) hb);have n2_:=mk_ (st_ (qd_ HB GE423 GE424) hb);clear BK423 BK424 HB;have BK423:=n0_;have BK424:=n1_;have HB:=n2_;clear n0_ n1_ n2_;(try clear hb);(try clear hb2);(try clear hk);(try clear hi);have hcz16_0 : w15.cell? ⟨gb423,0,none⟩ = some (.int .i64 a0_0):=(bc_ BK423.out 0).trans rfl;have hcz16_1 : w15.cell? ⟨gb423,1,none⟩ = some (.slice A0_1 l0_1.length c0_1):=(bc_ BK423.out 1).trans rfl;have hcz16_2 : w15.cell? ⟨gb423,2,none⟩ = some (.slice A0_2 l0_2.length c0_2):=(bc_ BK423.out 2).trans rfl;have hcz16_3 : w15.cell? ⟨gb423,3,none⟩ = some (.slice A0_3 l0_3.length c0_3):=(bc_ BK423.out 3).trans rfl;have hfz16_0:=bf_ BK423.out 0;have hfz16_1:=bf_ BK423.out 1;have hfz16_2:=bf_ BK423.out 2;have hfz16_3:=bf_ BK423.out 3;have hcz17_0 : w15.cell? ⟨gb424,0,none⟩ = some (.int .i64 a1_0):=(bc_ BK424.out 0).trans rfl;have hcz17_1 : w15.cell? ⟨gb424,1,none⟩ = some (.slice A1_1 l1_1.length c1_1):=(bc_ BK424.out 1).trans rfl;have hcz17_2 : w15.cell? ⟨gb424,2,none⟩ = some (.slice A1_2 l1_2.length c1_2):=(bc_ BK424.out 2).trans rfl;have hcz17_3 : w15.cell? ⟨gb424,3,none⟩ = some (.slice A1_3 l1_3.length c1_3):=(bc_ BK424.out 3).trans rfl;have hfz17_0:=bf_ BK424.out 0;have hfz17_1:=bf_ BK424.out 1;have hfz17_2:=bf_ BK424.out 2;have hfz17_3:=bf_ BK424.out 3)|((with_reducible refine gate_callee (f:=54) rfl ?_);refine goesL_ (some 20) rfl rfl Try.func54 (by kernel_rfl) rfl #[.slice A0_2 l0_2.length c0_2,.slice A1_2 l1_2.length c1_2] rfl qm_ ?_;(with_reducible refine (laws_eqIntS.calls k _ _ l0_2 _ _ l1_2 true _ ?side1 ?side2 ?side3 ?side4 A6.out).mono ?_);(case side1 => exact qn_ HR0_2 HB);(case side2 => exact HC0_2.out);(case side3 => exact qn_ HR1_2 HB);(case side4 => exact HC1_2.out);rintro e w' ⟨rfl,⟨nd,rfl⟩⟩;refine ⟨_,rfl,?_⟩)|((with_reducible refine gate_callee (f:=54) rfl ?_);refine goesL_ (some 26) rfl rfl Try.func54 (by kernel_rfl) rfl #[.slice A0_3 l0_3.length c0_3,.slice A1_3 l1_3.length c1_3] rfl qm_ ?_;(with_reducible refine (laws_eqIntS.calls k _ _ l0_3 _ _ l1_3 true _ ?side1 ?side2 ?side3 ?side4 A8.out).mono ?_);(case side1 => repeat (first|exact (cb_ HR0_3.out (qd_ HB GE423 GE424))|(with_reducible refine ca_ ?_ _)|(with_reducible refine cn_ ?_ _)|(with_reducible refine cd_ ?_)));(case side2 => exact HC0_3.out);(case side3 => repeat (first|exact (cb_ HR1_3.out (qd_ HB GE423 GE424))|(with_reducible refine ca_ ?_ _)|(with_reducible refine cn_ ?_ _)|(with_reducible refine cd_ ?_)));(case side4 => exact HC1_3.out);rintro e w' ⟨rfl,⟨nd,rfl⟩⟩;refine ⟨_,rfl,?_⟩))
     go_ret
     exact ⟨qe_,u2_ HB GE423 GE424⟩
    ·replace c9:=Bool.eq_false_iff.mpr c9
     subst c9
     have H1 : (some false) = some r:=by rw [if_neg (show ¬ (false = true) by decide)] at H;exact H
     clear H
     have H:=H1
     clear H1
     obtain rfl:=Option.some.inj H
     go_enter Try.func22,Try.ntmps22
     go_wp2_with (first|((with_reducible refine gate_dst (N:=2) rfl ?_);refine box_event ?hg (N:=2) ?hd (cs:=#[.int .i64 a0_0,.slice A0_1 l0_1.length c0_1,.slice A0_2 l0_2.length c0_2,.slice A0_3 l0_3.length c0_3]) (t:=26) ?hr ?_;(case hd => rfl);(case hg => rfl);(case hr => first|(go_simp;done)|(go_simp;rfl));intro gb423 hg w18 hbox hb;have n0_:=mk_ (st_ (qb_ HB) hb);have n1_:=mk_ (hbox);have n2_:=mk_ ((by rw [hg];exact (bz_ (qb_ HB)) : w.heap.size ≤ gb423));have n3_:=mk_ ((by rw [hg];exact (bz_ (qb_ HB)) : w.heap.size ≤ gb423));clear HB;have HB:=n0_;have BK423:=n1_;have GW423:=n2_;have GE423:=n3_;clear n0_ n1_ n2_ n3_ hb hbox hg)|((with_reducible refine gate_dst (N:=3) rfl ?_);refine box_event ?hg (N:=3) ?hd (cs:=#[.int .i64 a1_0,.slice A1_1 l1_1.length c1_1,.slice A1_2 l1_2.length c1_2,.slice A1_3 l1_3.length c1_3]) (t:=26) ?hr ?_;(case hd => rfl);(case hg => rfl);(case hr => first|(go_simp;done)|(go_simp;rfl));intro gb424 hg w19 hbox hb;have n0_:=mk_ (blk_below (g:=gb423) (o:=.cells #[.int .i64 a0_0,.slice A0_1 l0_1.length c0_1,.slice A0_2 l0_2.length c0_2,.slice A0_3 l0_3.length c0_3] 26 (0,0)) (qk_ BK423) hb);have n1_:=mk_ (st_ (qc_ HB GE423) hb);have n2_:=mk_ (hbox);have n3_:=mk_ ((by rw [hg];exact (bz_ (qc_ HB GE423)) : w.heap.size ≤ gb424));have n4_:=mk_ ((by rw [hg];exact (bz_ (qc_ HB GE423)) : w.heap.size ≤ gb424));have n5_:=mk_ ((by rw [hg];exact Nat.ne_of_lt (blk_lt (g:=gb423) (o:=.cells #[.int .i64 a0_0,.slice A0_1 l0_1.length c0_1,.slice A0_2 l0_2.length c0_2,.slice A0_3 l0_3.length c0_3] 26 (0,0)) (qk_ BK423)) : gb423 ≠ gb424));have n6_:=mk_ ((by rw [hg];exact Nat.ne_of_gt (blk_lt (g:=gb423) (o:=.cells #[.int .i64 a0_0,.slice A0_1 l0_1.length c0_1,.slice A0_2 l0_2.length c0_2,.slice A0_3 l0_3.length c0_3] 26 (0,0)) (qk_ BK423)) : gb424 ≠ gb423));clear BK423 HB;have BK423:=n0_;have HB:=n1_;have BK424:=n2_;have GW424:=n3_;have GE424:=n4_;have NB423_424:=n5_;have NB424_423:=n6_;clear n0_ n1_ n2_ n3_ n4_ n5_ n6_ hb hbox hg;have hnb20:=NB423_424.out;have hnc20:=NB424_423.out;have hcz21_0 : w19.cell? ⟨gb423,0,none⟩ = some (.int .i64 a0_0):=(bc_ BK423.out 0).trans rfl;have hcz21_1 : w19.cell? ⟨gb423,1,none⟩ = some (.slice A0_1 l0_1.length c0_1):=(bc_ BK423.out 1).trans rfl;have hcz21_2 : w19.cell? ⟨gb423,2,none⟩ = some (.slice A0_2 l0_2.length c0_2):=(bc_ BK423.out 2).trans rfl;have hcz21_3 : w19.cell? ⟨gb423,3,none⟩ = some (.slice A0_3 l0_3.length c0_3):=(bc_ BK423.out 3).trans rfl;have hfz21_0:=bf_ BK423.out 0;have hfz21_1:=bf_ BK423.out 1;have hfz21_2:=bf_ BK423.out 2;have hfz21_3:=bf_ BK423.out 3;have hcz22_0 : w19.cell? ⟨gb424,0,none⟩ = some (.int .i64 a1_0):=(bc_ BK424.out 0).trans rfl;have hcz22_1 : w19.cell? ⟨gb424,1,none⟩ = some (.slice A1_1 l1_1.length c1_1):=(bc_ BK424.out 1).trans rfl;have hcz22_2 : w19.cell? ⟨gb424,2,none⟩ = some (.slice A1_2 l1_2.length c1_2):=(bc_ BK424.out 2).trans rfl;have hcz22_3 : w19.cell? ⟨gb424,3,none⟩ = some (.slice A1_3 l1_3.length c1_3):=(bc_ BK424.out 3).trans rfl;have hfz22_0:=bf_ BK424.out 0;have hfz22_1:=bf_ BK424.out 1;have hfz22_2:=bf_ BK424.out 2;have hfz22_3:=bf_ BK424.out 3)|((with_reducible refine gate_callee (f:=53) rfl ?_);refine goesL_ (some 14) rfl rfl Try.func53 (by kernel_rfl) rfl #[.slice A0_1 l0_1.length c0_1,.slice A1_1 l1_1.length c1_1] rfl qm_ ?_;(with_reducible refine (laws_eqCableS.calls k _ _ l0_1 _ _ l1_1 true _ ?side1 ?side2 ?side3 ?side4 A4.out).mono ?_);(case side1 => exact qn_ HR0_1 HB);(case side2 => exact HC0_1.out);(case side3 => exact qn_ HR1_1 HB);(case side4 => exact HC1_1.out);rintro e w23 ⟨rfl,hb⟩;refine ⟨_,rfl,?_⟩;have n0_:=mk_ (blk_below (g:=gb423) (o:=.cells #[.int .i64 a0_0,.slice A0_1 l0_1.length c0_1,.slice A0_2 l0_2.length c0_2,.slice A0_3 l0_3.length c0_3] 26 (0,0)) (qk_ BK423) hb);have n1_:=mk_ (blk_below (g:=gb424) (o:=.cells #[.int .i64 a1_0,.slice A1_1 l1_1.length c1_1,.slice A1_2 l1_2.length c1_2,.slice A1_3 l1_3.length c1_3] 26 (0,0)) (qk_ BK424) hb);have n2_:=mk_ (st_ (qd_ HB GE423 GE424) hb);clear BK423 BK424 HB;have BK423:=n0_;have BK424:=n1_;have HB:=n2_;clear n0_ n1_ n2_;(try clear hb);(try clear hb2);(try clear hk);(try clear hi);have hcz24_0 : w23.cell? ⟨gb423,0,none⟩ = some (.int .i64 a0_0):=(bc_ BK423.out 0).trans rfl;have hcz24_1 : w23.cell? ⟨gb423,1,none⟩ = some (.slice A0_1 l0_1.length c0_1):=(bc_ BK423.out 1).trans rfl;have hcz24_2 : w23.cell? ⟨gb423,2,none⟩ = some (.slice A0_2 l0_2.length c0_2):=(bc_ BK423.out 2).trans rfl;have hcz24_3 : w23.cell? ⟨gb423,3,none⟩ = some (.slice A0_3 l0_3.length c0_3):=(bc_ BK423.out 3).trans rfl;have hfz24_0:=bf_ BK423.out 0;have hfz24_1:=bf_ BK423.out 1;have hfz24_2:=bf_ BK423.out 2;have hfz24_3:=bf_ BK423.out 3;have hcz25_0 : w23.cell? ⟨gb424,0,none⟩ = some (.int .i64 a1_0):=(bc_ BK424.out 0).trans rfl;have hcz25_1 : w23.cell? ⟨gb424,1,none⟩ = some (.slice A1_1 l1_1.length c1_1):=(bc_ BK424.out 1).trans rfl;have hcz25_2 : w23.cell? ⟨gb424,2,none⟩ = some (.slice A1_2 l1_2.length c1_2):=(bc_ BK424.out 2).trans rfl;have hcz25_3 : w23.cell? ⟨gb424,3,none⟩ = some (.slice A1_3 l1_3.length c1_3):=(bc_ BK424.out 3).trans rfl;have hfz25_0:=bf_ BK424.out 0;have hfz25_1:=bf_ BK424.out 1;have hfz25_2:=bf_ BK424.out 2;have hfz25_3:=bf_ BK424.out 3)|((with_reducible refine gate_callee (f:=54) rfl ?_);refine goesL_ (some 20) rfl rfl Try.func54 (by kernel_rfl) rfl #[.slice A0_2 l0_2.length c0_2,.slice A1_2 l1_2.length c1_2] rfl qm_ ?_;(with_reducible refine (laws_eqIntS.calls k _ _ l0_2 _ _ l1_2 true _ ?side1 ?side2 ?side3 ?side4 A6.out).mono ?_);(case side1 => exact qn_ HR0_2 HB);(case side2 => exact HC0_2.out);(case side3 => exact qn_ HR1_2 HB);(case side4 => exact HC1_2.out);rintro e w' ⟨rfl,⟨nd,rfl⟩⟩;refine ⟨_,rfl,?_⟩)|((with_reducible refine gate_callee (f:=54) rfl ?_);refine goesL_ (some 26) rfl rfl Try.func54 (by kernel_rfl) rfl #[.slice A0_3 l0_3.length c0_3,.slice A1_3 l1_3.length c1_3] rfl qm_ ?_;(with_reducible refine (laws_eqIntS.calls k _ _ l0_3 _ _ l1_3 false _ ?side1 ?side2 ?side3 ?side4 A8.out).mono ?_);(case side1 => repeat (first|exact (cb_ HR0_3.out (qd_ HB GE423 GE424))|(with_reducible refine ca_ ?_ _)|(with_reducible refine cn_ ?_ _)|(with_reducible refine cd_ ?_)));(case side2 => exact HC0_3.out);(case side3 => repeat (first|exact (cb_ HR1_3.out (qd_ HB GE423 GE424))|(with_reducible refine ca_ ?_ _)|(with_reducible refine cn_ ?_ _)|(with_reducible refine cd_ ?_)));(case side4 => exact HC1_3.out);rintro e w' ⟨rfl,⟨nd,rfl⟩⟩;refine ⟨_,rfl,?_⟩))
     go_ret
     exact ⟨qe_,u2_ HB GE423 GE424⟩
   ·replace c7:=Bool.eq_false_iff.mpr c7
    subst c7
    have H1 : (some false) = some r:=by rw [if_neg (show ¬ (false = true) by decide)] at H;exact H
    clear H
    have H:=H1
    clear H1
    obtain rfl:=Option.some.inj H
    go_enter Try.func22,Try.ntmps22
    go_wp2_with (first|((with_reducible refine gate_dst (N:=2) rfl ?_);refine box_event ?hg (N:=2) ?hd (cs:=#[.int .i64 a0_0,.slice A0_1 l0_1.length c0_1,.slice A0_2 l0_2.length c0_2,.slice A0_3 l0_3.length c0_3]) (t:=26) ?hr ?_;(case hd => rfl);(case hg => rfl);(case hr => first|(go_simp;done)|(go_simp;rfl));intro gb423 hg w26 hbox hb;have n0_:=mk_ (st_ (qb_ HB) hb);have n1_:=mk_ (hbox);have n2_:=mk_ ((by rw [hg];exact (bz_ (qb_ HB)) : w.heap.size ≤ gb423));have n3_:=mk_ ((by rw [hg];exact (bz_ (qb_ HB)) : w.heap.size ≤ gb423));clear HB;have HB:=n0_;have BK423:=n1_;have GW423:=n2_;have GE423:=n3_;clear n0_ n1_ n2_ n3_ hb hbox hg)|((with_reducible refine gate_dst (N:=3) rfl ?_);refine box_event ?hg (N:=3) ?hd (cs:=#[.int .i64 a1_0,.slice A1_1 l1_1.length c1_1,.slice A1_2 l1_2.length c1_2,.slice A1_3 l1_3.length c1_3]) (t:=26) ?hr ?_;(case hd => rfl);(case hg => rfl);(case hr => first|(go_simp;done)|(go_simp;rfl));intro gb424 hg w27 hbox hb;have n0_:=mk_ (blk_below (g:=gb423) (o:=.cells #[.int .i64 a0_0,.slice A0_1 l0_1.length c0_1,.slice A0_2 l0_2.length c0_2,.slice A0_3 l0_3.length c0_3] 26 (0,0)) (qk_ BK423) hb);have n1_:=mk_ (st_ (qc_ HB GE423) hb);have n2_:=mk_ (hbox);have n3_:=mk_ ((by rw [hg];exact (bz_ (qc_ HB GE423)) : w.heap.size ≤ gb424));have n4_:=mk_ ((by rw [hg];exact (bz_ (qc_ HB GE423)) : w.heap.size ≤ gb424));have n5_:=mk_ ((by rw [hg];exact Nat.ne_of_lt (blk_lt (g:=gb423) (o:=.cells #[.int .i64 a0_0,.slice A0_1 l0_1.length c0_1,.slice A0_2 l0_2.length c0_2,.slice A0_3 l0_3.length c0_3] 26 (0,0)) (qk_ BK423)) : gb423 ≠ gb424));have n6_:=mk_ ((by rw [hg];exact Nat.ne_of_gt (blk_lt (g:=gb423) (o:=.cells #[.int .i64 a0_0,.slice A0_1 l0_1.length c0_1,.slice A0_2 l0_2.length c0_2,.slice A0_3 l0_3.length c0_3] 26 (0,0)) (qk_ BK423)) : gb424 ≠ gb423));clear BK423 HB;have BK423:=n0_;have HB:=n1_;have BK424:=n2_;have GW424:=n3_;have GE424:=n4_;have NB423_424:=n5_;have NB424_423:=n6_;clear n0_ n1_ n2_ n3_ n4_ n5_ n6_ hb hbox hg;have hnb28:=NB423_424.out;have hnc28:=NB424_423.out;have hcz29_0 : w27.cell? ⟨gb423,0,none⟩ = some (.int .i64 a0_0):=(bc_ BK423.out 0).trans rfl;have hcz29_1 : w27.cell? ⟨gb423,1,none⟩ = some (.slice A0_1 l0_1.length c0_1):=(bc_ BK423.out 1).trans rfl;have hcz29_2 : w27.cell? ⟨gb423,2,none⟩ = some (.slice A0_2 l0_2.length c0_2):=(bc_ BK423.out 2).trans rfl;have hcz29_3 : w27.cell? ⟨gb423,3,none⟩ = some (.slice A0_3 l0_3.length c0_3):=(bc_ BK423.out 3).trans rfl;have hfz29_0:=bf_ BK423.out 0;have hfz29_1:=bf_ BK423.out 1;have hfz29_2:=bf_ BK423.out 2;have hfz29_3:=bf_ BK423.out 3;have hcz30_0 : w27.cell? ⟨gb424,0,none⟩ = some (.int .i64 a1_0):=(bc_ BK424.out 0).trans rfl;have hcz30_1 : w27.cell? ⟨gb424,1,none⟩ = some (.slice A1_1 l1_1.length c1_1):=(bc_ BK424.out 1).trans rfl;have hcz30_2 : w27.cell? ⟨gb424,2,none⟩ = some (.slice A1_2 l1_2.length c1_2):=(bc_ BK424.out 2).trans rfl;have hcz30_3 : w27.cell? ⟨gb424,3,none⟩ = some (.slice A1_3 l1_3.length c1_3):=(bc_ BK424.out 3).trans rfl;have hfz30_0:=bf_ BK424.out 0;have hfz30_1:=bf_ BK424.out 1;have hfz30_2:=bf_ BK424.out 2;have hfz30_3:=bf_ BK424.out 3)|((with_reducible refine gate_callee (f:=53) rfl ?_);refine goesL_ (some 14) rfl rfl Try.func53 (by kernel_rfl) rfl #[.slice A0_1 l0_1.length c0_1,.slice A1_1 l1_1.length c1_1] rfl qm_ ?_;(with_reducible refine (laws_eqCableS.calls k _ _ l0_1 _ _ l1_1 true _ ?side1 ?side2 ?side3 ?side4 A4.out).mono ?_);(case side1 => exact qn_ HR0_1 HB);(case side2 => exact HC0_1.out);(case side3 => exact qn_ HR1_1 HB);(case side4 => exact HC1_1.out);rintro e w31 ⟨rfl,hb⟩;refine ⟨_,rfl,?_⟩;have n0_:=mk_ (blk_below (g:=gb423) (o:=.cells #[.int .i64 a0_0,.slice A0_1 l0_1.length c0_1,.slice A0_2 l0_2.length c0_2,.slice A0_3 l0_3.length c0_3] 26 (0,0)) (qk_ BK423) hb);have n1_:=mk_ (blk_below (g:=gb424) (o:=.cells #[.int .i64 a1_0,.slice A1_1 l1_1.length c1_1,.slice A1_2 l1_2.length c1_2,.slice A1_3 l1_3.length c1_3] 26 (0,0)) (qk_ BK424) hb);have n2_:=mk_ (st_ (qd_ HB GE423 GE424) hb);clear BK423 BK424 HB;have BK423:=n0_;have BK424:=n1_;have HB:=n2_;clear n0_ n1_ n2_;(try clear hb);(try clear hb2);(try clear hk);(try clear hi);have hcz32_0 : w31.cell? ⟨gb423,0,none⟩ = some (.int .i64 a0_0):=(bc_ BK423.out 0).trans rfl;have hcz32_1 : w31.cell? ⟨gb423,1,none⟩ = some (.slice A0_1 l0_1.length c0_1):=(bc_ BK423.out 1).trans rfl;have hcz32_2 : w31.cell? ⟨gb423,2,none⟩ = some (.slice A0_2 l0_2.length c0_2):=(bc_ BK423.out 2).trans rfl;have hcz32_3 : w31.cell? ⟨gb423,3,none⟩ = some (.slice A0_3 l0_3.length c0_3):=(bc_ BK423.out 3).trans rfl;have hfz32_0:=bf_ BK423.out 0;have hfz32_1:=bf_ BK423.out 1;have hfz32_2:=bf_ BK423.out 2;have hfz32_3:=bf_ BK423.out 3;have hcz33_0 : w31.cell? ⟨gb424,0,none⟩ = some (.int .i64 a1_0):=(bc_ BK424.out 0).trans rfl;have hcz33_1 : w31.cell? ⟨gb424,1,none⟩ = some (.slice A1_1 l1_1.length c1_1):=(bc_ BK424.out 1).trans rfl;have hcz33_2 : w31.cell? ⟨gb424,2,none⟩ = some (.slice A1_2 l1_2.length c1_2):=(bc_ BK424.out 2).trans rfl;have hcz33_3 : w31.cell? ⟨gb424,3,none⟩ = some (.slice A1_3 l1_3.length c1_3):=(bc_ BK424.out 3).trans rfl;have hfz33_0:=bf_ BK424.out 0;have hfz33_1:=bf_ BK424.out 1;have hfz33_2:=bf_ BK424.out 2;have hfz33_3:=bf_ BK424.out 3)|((with_reducible refine gate_callee (f:=54) rfl ?_);refine goesL_ (some 20) rfl rfl Try.func54 (by kernel_rfl) rfl #[.slice A0_2 l0_2.length c0_2,.slice A1_2 l1_2.length c1_2] rfl qm_ ?_;(with_reducible refine (laws_eqIntS.calls k _ _ l0_2 _ _ l1_2 false _ ?side1 ?side2 ?side3 ?side4 A6.out).mono ?_);(case side1 => exact qn_ HR0_2 HB);(case side2 => exact HC0_2.out);(case side3 => exact qn_ HR1_2 HB);(case side4 => exact HC1_2.out);rintro e w' ⟨rfl,⟨nd,rfl⟩⟩;refine ⟨_,rfl,?_⟩))
    go_ret
    exact ⟨qe_,u2_ HB GE423 GE424⟩
  ·replace c5:=Bool.eq_false_iff.mpr c5
   subst c5
   have H1 : (some false) = some r:=by rw [if_neg (show ¬ (false = true) by decide)] at H;exact H
   clear H
   have H:=H1
   clear H1
   obtain rfl:=Option.some.inj H
   go_enter Try.func22,Try.ntmps22
   go_wp2_with (first|((with_reducible refine gate_dst (N:=2) rfl ?_);refine box_event ?hg (N:=2) ?hd (cs:=#[.int .i64 a0_0,.slice A0_1 l0_1.length c0_1,.slice A0_2 l0_2.length c0_2,.slice A0_3 l0_3.length c0_3]) (t:=26) ?hr ?_;(case hd => rfl);(case hg => rfl);(case hr => first|(go_simp;done)|(go_simp;rfl));intro gb423 hg w34 hbox hb;have n0_:=mk_ (st_ (qb_ HB) hb);have n1_:=mk_ (hbox);have n2_:=mk_ ((by rw [hg];exact (bz_ (qb_ HB)) : w.heap.size ≤ gb423));have n3_:=mk_ ((by rw [hg];exact (bz_ (qb_ HB)) : w.heap.size ≤ gb423));clear HB;have HB:=n0_;have BK423:=n1_;have GW423:=n2_;have GE423:=n3_;clear n0_ n1_ n2_ n3_ hb hbox hg)|((with_reducible refine gate_dst (N:=3) rfl ?_);refine box_event ?hg (N:=3) ?hd (cs:=#[.int .i64 a1_0,.slice A1_1 l1_1.length c1_1,.slice A1_2 l1_2.length c1_2,.slice A1_3 l1_3.length c1_3]) (t:=26) ?hr ?_;(case hd => rfl);(case hg => rfl);(case hr => first|(go_simp;done)|(go_simp;rfl));intro gb424 hg w35 hbox hb;have n0_:=mk_ (blk_below (g:=gb423) (o:=.cells #[.int .i64 a0_0,.slice A0_1 l0_1.length c0_1,.slice A0_2 l0_2.length c0_2,.slice A0_3 l0_3.length c0_3] 26 (0,0)) (qk_ BK423) hb);have n1_:=mk_ (st_ (qc_ HB GE423) hb);have n2_:=mk_ (hbox);have n3_:=mk_ ((by rw [hg];exact (bz_ (qc_ HB GE423)) : w.heap.size ≤ gb424));have n4_:=mk_ ((by rw [hg];exact (bz_ (qc_ HB GE423)) : w.heap.size ≤ gb424));have n5_:=mk_ ((by rw [hg];exact Nat.ne_of_lt (blk_lt (g:=gb423) (o:=.cells #[.int .i64 a0_0,.slice A0_1 l0_1.length c0_1,.slice A0_2 l0_2.length c0_2,.slice A0_3 l0_3.length c0_3] 26 (0,0)) (qk_ BK423)) : gb423 ≠ gb424));have n6_:=mk_ ((by rw [hg];exact Nat.ne_of_gt (blk_lt (g:=gb423) (o:=.cells #[.int .i64 a0_0,.slice A0_1 l0_1.length c0_1,.slice A0_2 l0_2.length c0_2,.slice A0_3 l0_3.length c0_3] 26 (0,0)) (qk_ BK423)) : gb424 ≠ gb423));clear BK423 HB;have BK423:=n0_;have HB:=n1_;have BK424:=n2_;have GW424:=n3_;have GE424:=n4_;have NB423_424:=n5_;have NB424_423:=n6_;clear n0_ n1_ n2_ n3_ n4_ n5_ n6_ hb hbox hg;have hnb36:=NB423_424.out;have hnc36:=NB424_423.out;have hcz37_0 : w35.cell? ⟨gb423,0,none⟩ = some (.int .i64 a0_0):=(bc_ BK423.out 0).trans rfl;have hcz37_1 : w35.cell? ⟨gb423,1,none⟩ = some (.slice A0_1 l0_1.length c0_1):=(bc_ BK423.out 1).trans rfl;have hcz37_2 : w35.cell? ⟨gb423,2,none⟩ = some (.slice A0_2 l0_2.length c0_2):=(bc_ BK423.out 2).trans rfl;have hcz37_3 : w35.cell? ⟨gb423,3,none⟩ = some (.slice A0_3 l0_3.length c0_3):=(bc_ BK423.out 3).trans rfl;have hfz37_0:=bf_ BK423.out 0;have hfz37_1:=bf_ BK423.out 1;have hfz37_2:=bf_ BK423.out 2;have hfz37_3:=bf_ BK423.out 3;have hcz38_0 : w35.cell? ⟨gb424,0,none⟩ = some (.int .i64 a1_0):=(bc_ BK424.out 0).trans rfl;have hcz38_1 : w35.cell? ⟨gb424,1,none⟩ = some (.slice A1_1 l1_1.length c1_1):=(bc_ BK424.out 1).trans rfl;have hcz38_2 : w35.cell? ⟨gb424,2,none⟩ = some (.slice A1_2 l1_2.length c1_2):=(bc_ BK424.out 2).trans rfl;have hcz38_3 : w35.cell? ⟨gb424,3,none⟩ = some (.slice A1_3 l1_3.length c1_3):=(bc_ BK424.out 3).trans rfl;have hfz38_0:=bf_ BK424.out 0;have hfz38_1:=bf_ BK424.out 1;have hfz38_2:=bf_ BK424.out 2;have hfz38_3:=bf_ BK424.out 3)|((with_reducible refine gate_callee (f:=53) rfl ?_);refine goesL_ (some 14) rfl rfl Try.func53 (by kernel_rfl) rfl #[.slice A0_1 l0_1.length c0_1,.slice A1_1 l1_1.length c1_1] rfl qm_ ?_;(with_reducible refine (laws_eqCableS.calls k _ _ l0_1 _ _ l1_1 false _ ?side1 ?side2 ?side3 ?side4 A4.out).mono ?_);(case side1 => exact qn_ HR0_1 HB);(case side2 => exact HC0_1.out);(case side3 => exact qn_ HR1_1 HB);(case side4 => exact HC1_1.out);rintro e w39 ⟨rfl,hb⟩;refine ⟨_,rfl,?_⟩;have n0_:=mk_ (blk_below (g:=gb423) (o:=.cells #[.int .i64 a0_0,.slice A0_1 l0_1.length c0_1,.slice A0_2 l0_2.length c0_2,.slice A0_3 l0_3.length c0_3] 26 (0,0)) (qk_ BK423) hb);have n1_:=mk_ (blk_below (g:=gb424) (o:=.cells #[.int .i64 a1_0,.slice A1_1 l1_1.length c1_1,.slice A1_2 l1_2.length c1_2,.slice A1_3 l1_3.length c1_3] 26 (0,0)) (qk_ BK424) hb);have n2_:=mk_ (st_ (qd_ HB GE423 GE424) hb);clear BK423 BK424 HB;have BK423:=n0_;have BK424:=n1_;have HB:=n2_;clear n0_ n1_ n2_;(try clear hb);(try clear hb2);(try clear hk);(try clear hi)))
   go_ret
   exact ⟨qe_,u2_ HB GE423 GE424⟩
 ·rw [if_neg c3] at H
  have c3b0 : (a0_0 == a1_0) = false:=beq_eq_false_iff_ne.mpr c3
  have c3b1 : (a0_0 != a1_0) = true:=bne_iff_ne.mpr c3
  obtain rfl:=Option.some.inj H
  go_enter Try.func22,Try.ntmps22
  go_wp2_with (first|((with_reducible refine gate_dst (N:=2) rfl ?_);refine box_event ?hg (N:=2) ?hd (cs:=#[.int .i64 a0_0,.slice A0_1 l0_1.length c0_1,.slice A0_2 l0_2.length c0_2,.slice A0_3 l0_3.length c0_3]) (t:=26) ?hr ?_;(case hd => rfl);(case hg => rfl);(case hr => first|(go_simp;done)|(go_simp;rfl));intro gb423 hg w40 hbox hb;have n0_:=mk_ (st_ (qb_ HB) hb);have n1_:=mk_ (hbox);have n2_:=mk_ ((by rw [hg];exact (bz_ (qb_ HB)) : w.heap.size ≤ gb423));have n3_:=mk_ ((by rw [hg];exact (bz_ (qb_ HB)) : w.heap.size ≤ gb423));clear HB;have HB:=n0_;have BK423:=n1_;have GW423:=n2_;have GE423:=n3_;clear n0_ n1_ n2_ n3_ hb hbox hg)|((with_reducible refine gate_dst (N:=3) rfl ?_);refine box_event ?hg (N:=3) ?hd (cs:=#[.int .i64 a1_0,.slice A1_1 l1_1.length c1_1,.slice A1_2 l1_2.length c1_2,.slice A1_3 l1_3.length c1_3]) (t:=26) ?hr ?_;(case hd => rfl);(case hg => rfl);(case hr => first|(go_simp;done)|(go_simp;rfl));intro gb424 hg w41 hbox hb;have n0_:=mk_ (blk_below (g:=gb423) (o:=.cells #[.int .i64 a0_0,.slice A0_1 l0_1.length c0_1,.slice A0_2 l0_2.length c0_2,.slice A0_3 l0_3.length c0_3] 26 (0,0)) (qk_ BK423) hb);have n1_:=mk_ (st_ (qc_ HB GE423) hb);have n2_:=mk_ (hbox);have n3_:=mk_ ((by rw [hg];exact (bz_ (qc_ HB GE423)) : w.heap.size ≤ gb424));have n4_:=mk_ ((by rw [hg];exact (bz_ (qc_ HB GE423)) : w.heap.size ≤ gb424));have n5_:=mk_ ((by rw [hg];exact Nat.ne_of_lt (blk_lt (g:=gb423) (o:=.cells #[.int .i64 a0_0,.slice A0_1 l0_1.length c0_1,.slice A0_2 l0_2.length c0_2,.slice A0_3 l0_3.length c0_3] 26 (0,0)) (qk_ BK423)) : gb423 ≠ gb424));have n6_:=mk_ ((by rw [hg];exact Nat.ne_of_gt (blk_lt (g:=gb423) (o:=.cells #[.int .i64 a0_0,.slice A0_1 l0_1.length c0_1,.slice A0_2 l0_2.length c0_2,.slice A0_3 l0_3.length c0_3] 26 (0,0)) (qk_ BK423)) : gb424 ≠ gb423));clear BK423 HB;have BK423:=n0_;have HB:=n1_;have BK424:=n2_;have GW424:=n3_;have GE424:=n4_;have NB423_424:=n5_;have NB424_423:=n6_;clear n0_ n1_ n2_ n3_ n4_ n5_ n6_ hb hbox hg;have hnb42:=NB423_424.out;have hnc42:=NB424_423.out;have hcz43_0 : w41.cell? ⟨gb423,0,none⟩ = some (.int .i64 a0_0):=(bc_ BK423.out 0).trans rfl;have hcz43_1 : w41.cell? ⟨gb423,1,none⟩ = some (.slice A0_1 l0_1.length c0_1):=(bc_ BK423.out 1).trans rfl;have hcz43_2 : w41.cell? ⟨gb423,2,none⟩ = some (.slice A0_2 l0_2.length c0_2):=(bc_ BK423.out 2).trans rfl;have hcz43_3 : w41.cell? ⟨gb423,3,none⟩ = some (.slice A0_3 l0_3.length c0_3):=(bc_ BK423.out 3).trans rfl;have hfz43_0:=bf_ BK423.out 0;have hfz43_1:=bf_ BK423.out 1;have hfz43_2:=bf_ BK423.out 2;have hfz43_3:=bf_ BK423.out 3;have hcz44_0 : w41.cell? ⟨gb424,0,none⟩ = some (.int .i64 a1_0):=(bc_ BK424.out 0).trans rfl;have hcz44_1 : w41.cell? ⟨gb424,1,none⟩ = some (.slice A1_1 l1_1.length c1_1):=(bc_ BK424.out 1).trans rfl;have hcz44_2 : w41.cell? ⟨gb424,2,none⟩ = some (.slice A1_2 l1_2.length c1_2):=(bc_ BK424.out 2).trans rfl;have hcz44_3 : w41.cell? ⟨gb424,3,none⟩ = some (.slice A1_3 l1_3.length c1_3):=(bc_ BK424.out 3).trans rfl;have hfz44_0:=bf_ BK424.out 0;have hfz44_1:=bf_ BK424.out 1;have hfz44_2:=bf_ BK424.out 2;have hfz44_3:=bf_ BK424.out 3))
  go_ret
  exact ⟨qe_,u2_ HB GE423 GE424⟩

/-! ### laws_eqHop: function 55 -/
def laws_eqHop.f (a0_0 : Int) (a0_1 : Int) (a0_2 : Int) (a1_0 : Int) (a1_1 : Int) (a1_2 : Int) : Option (Bool):=if a0_0 = a1_0 then (if a0_1 = a1_1 then (if a0_2 = a1_2 then (some true) else (some false)) else (some false)) else (some false)
set_option maxHeartbeats 8000000 in
set_option maxRecDepth 100000 in
theorem laws_eqHop.calls (a0_0 : Int) (a0_1 : Int) (a0_2 : Int) (a1_0 : Int) (a1_1 : Int) (a1_2 : Int) (r : Bool) (w : World) (h : laws_eqHop.f a0_0 a0_1 a0_2 a1_0 a1_1 a1_2 = some r) :
  Calls Try.prog 55 #[.agg #[.int .i64 a0_0,.int .i64 a0_1,.int .i64 a0_2],.agg #[.int .i64 a1_0,.int .i64 a1_1,.int .i64 a1_2]] w fun e w' => e = .returned (.bool r) ∧ Below w.heap.size w w':=by
 have hu37:=Try.underlying37
 have HB:=mk_ (Below.refl w.heap.size w)
 have H : (if a0_0 = a1_0 then (if a0_1 = a1_1 then (if a0_2 = a1_2 then (some true) else (some false)) else (some false)) else (some false)) = some r:=h
 clear h
 by_cases c3 : a0_0 = a1_0
 ·rw [if_pos c3] at H
  have c3b0 : (a0_0 == a1_0) = true:=beq_iff_eq.mpr c3
  have c3b1 : (a0_0 != a1_0) = false:=bne_eq_false_iff_eq.mpr c3
  clear c3
  by_cases c4 : a0_1 = a1_1
  ·rw [if_pos c4] at H
   have c4b0 : (a0_1 == a1_1) = true:=beq_iff_eq.mpr c4
   have c4b1 : (a0_1 != a1_1) = false:=bne_eq_false_iff_eq.mpr c4
   clear c4
   by_cases c5 : a0_2 = a1_2
   ·rw [if_pos c5] at H
    have c5b0 : (a0_2 == a1_2) = true:=beq_iff_eq.mpr c5
    have c5b1 : (a0_2 != a1_2) = false:=bne_eq_false_iff_eq.mpr c5
    clear c5
    obtain rfl:=Option.some.inj H
    go_enter Try.func55,Try.ntmps55
    go_wp2_with (first|((with_reducible refine gate_dst (N:=2) rfl ?_);refine box_event ?hg (N:=2) ?hd (cs:=#[.int .i64 a0_0,.int .i64 a0_1,.int .i64 a0_2]) (t:=37) ?hr ?_;(case hd => rfl);(case hg => rfl);(case hr => first|(go_simp;done)|(go_simp;rfl));intro gb428 hg w6 hbox hb;have n0_:=mk_ (st_ (qb_ HB) hb);have n1_:=mk_ (hbox);have n2_:=mk_ ((by rw [hg];exact (bz_ (qb_ HB)) : w.heap.size ≤ gb428));have n3_:=mk_ ((by rw [hg];exact (bz_ (qb_ HB)) : w.heap.size ≤ gb428));clear HB;have HB:=n0_;have BK428:=n1_;have GW428:=n2_;have GE428:=n3_;clear n0_ n1_ n2_ n3_ hb hbox hg)|((with_reducible refine gate_dst (N:=3) rfl ?_);refine box_event ?hg (N:=3) ?hd (cs:=#[.int .i64 a1_0,.int .i64 a1_1,.int .i64 a1_2]) (t:=37) ?hr ?_;(case hd => rfl);(case hg => rfl);(case hr => first|(go_simp;done)|(go_simp;rfl));intro gb429 hg w7 hbox hb;have n0_:=mk_ (blk_below (g:=gb428) (o:=.cells #[.int .i64 a0_0,.int .i64 a0_1,.int .i64 a0_2] 37 (0,0)) (qk_ BK428) hb);have n1_:=mk_ (st_ (qc_ HB GE428) hb);have n2_:=mk_ (hbox);have n3_:=mk_ ((by rw [hg];exact (bz_ (qc_ HB GE428)) : w.heap.size ≤ gb429));have n4_:=mk_ ((by rw [hg];exact (bz_ (qc_ HB GE428)) : w.heap.size ≤ gb429));have n5_:=mk_ ((by rw [hg];exact Nat.ne_of_lt (blk_lt (g:=gb428) (o:=.cells #[.int .i64 a0_0,.int .i64 a0_1,.int .i64 a0_2] 37 (0,0)) (qk_ BK428)) : gb428 ≠ gb429));have n6_:=mk_ ((by rw [hg];exact Nat.ne_of_gt (blk_lt (g:=gb428) (o:=.cells #[.int .i64 a0_0,.int .i64 a0_1,.int .i64 a0_2] 37 (0,0)) (qk_ BK428)) : gb429 ≠ gb428));clear BK428 HB;have BK428:=n0_;have HB:=n1_;have BK429:=n2_;have GW429:=n3_;have GE429:=n4_;have NB428_429:=n5_;have NB429_428:=n6_;clear n0_ n1_ n2_ n3_ n4_ n5_ n6_ hb hbox hg;have hnb8:=NB428_429.out;have hnc8:=NB429_428.out;have hcz9_0 : w7.cell? ⟨gb428,0,none⟩ = some (.int .i64 a0_0):=(bc_ BK428.out 0).trans rfl;have hcz9_1 : w7.cell? ⟨gb428,1,none⟩ = some (.int .i64 a0_1):=(bc_ BK428.out 1).trans rfl;have hcz9_2 : w7.cell? ⟨gb428,2,none⟩ = some (.int .i64 a0_2):=(bc_ BK428.out 2).trans rfl;have hfz9_0:=bf_ BK428.out 0;have hfz9_1:=bf_ BK428.out 1;have hfz9_2:=bf_ BK428.out 2;have hcz10_0 : w7.cell? ⟨gb429,0,none⟩ = some (.int .i64 a1_0):=(bc_ BK429.out 0).trans rfl;have hcz10_1 : w7.cell? ⟨gb429,1,none⟩ = some (.int .i64 a1_1):=(bc_ BK429.out 1).trans rfl;have hcz10_2 : w7.cell? ⟨gb429,2,none⟩ = some (.int .i64 a1_2):=(bc_ BK429.out 2).trans rfl;have hfz10_0:=bf_ BK429.out 0;have hfz10_1:=bf_ BK429.out 1;have hfz10_2:=bf_ BK429.out 2))
    go_ret
    exact ⟨qe_,u2_ HB GE428 GE429⟩
   ·rw [if_neg c5] at H
    have c5b0 : (a0_2 == a1_2) = false:=beq_eq_false_iff_ne.mpr c5
    have c5b1 : (a0_2 != a1_2) = true:=bne_iff_ne.mpr c5
    obtain rfl:=Option.some.inj H
    go_enter Try.func55,Try.ntmps55
    go_wp2_with (first|((with_reducible refine gate_dst (N:=2) rfl ?_);refine box_event ?hg (N:=2) ?hd (cs:=#[.int .i64 a0_0,.int .i64 a0_1,.int .i64 a0_2]) (t:=37) ?hr ?_;(case hd => rfl);(case hg => rfl);(case hr => first|(go_simp;done)|(go_simp;rfl));intro gb428 hg w11 hbox hb;have n0_:=mk_ (st_ (qb_ HB) hb);have n1_:=mk_ (hbox);have n2_:=mk_ ((by rw [hg];exact (bz_ (qb_ HB)) : w.heap.size ≤ gb428));have n3_:=mk_ ((by rw [hg];exact (bz_ (qb_ HB)) : w.heap.size ≤ gb428));clear HB;have HB:=n0_;have BK428:=n1_;have GW428:=n2_;have GE428:=n3_;clear n0_ n1_ n2_ n3_ hb hbox hg)|((with_reducible refine gate_dst (N:=3) rfl ?_);refine box_event ?hg (N:=3) ?hd (cs:=#[.int .i64 a1_0,.int .i64 a1_1,.int .i64 a1_2]) (t:=37) ?hr ?_;(case hd => rfl);(case hg => rfl);(case hr => first|(go_simp;done)|(go_simp;rfl));intro gb429 hg w12 hbox hb;have n0_:=mk_ (blk_below (g:=gb428) (o:=.cells #[.int .i64 a0_0,.int .i64 a0_1,.int .i64 a0_2] 37 (0,0)) (qk_ BK428) hb);have n1_:=mk_ (st_ (qc_ HB GE428) hb);have n2_:=mk_ (hbox);have n3_:=mk_ ((by rw [hg];exact (bz_ (qc_ HB GE428)) : w.heap.size ≤ gb429));have n4_:=mk_ ((by rw [hg];exact (bz_ (qc_ HB GE428)) : w.heap.size ≤ gb429));have n5_:=mk_ ((by rw [hg];exact Nat.ne_of_lt (blk_lt (g:=gb428) (o:=.cells #[.int .i64 a0_0,.int .i64 a0_1,.int .i64 a0_2] 37 (0,0)) (qk_ BK428)) : gb428 ≠ gb429));have n6_:=mk_ ((by rw [hg];exact Nat.ne_of_gt (blk_lt (g:=gb428) (o:=.cells #[.int .i64 a0_0,.int .i64 a0_1,.int .i64 a0_2] 37 (0,0)) (qk_ BK428)) : gb429 ≠ gb428));clear BK428 HB;have BK428:=n0_;have HB:=n1_;have BK429:=n2_;have GW429:=n3_;have GE429:=n4_;have NB428_429:=n5_;have NB429_428:=n6_;clear n0_ n1_ n2_ n3_ n4_ n5_ n6_ hb hbox hg;have hnb13:=NB428_429.out;have hnc13:=NB429_428.out;have hcz14_0 : w12.cell? ⟨gb428,0,none⟩ = some (.int .i64 a0_0):=(bc_ BK428.out 0).trans rfl;have hcz14_1 : w12.cell? ⟨gb428,1,none⟩ = some (.int .i64 a0_1):=(bc_ BK428.out 1).trans rfl;have hcz14_2 : w12.cell? ⟨gb428,2,none⟩ = some (.int .i64 a0_2):=(bc_ BK428.out 2).trans rfl;have hfz14_0:=bf_ BK428.out 0;have hfz14_1:=bf_ BK428.out 1;have hfz14_2:=bf_ BK428.out 2;have hcz15_0 : w12.cell? ⟨gb429,0,none⟩ = some (.int .i64 a1_0):=(bc_ BK429.out 0).trans rfl;have hcz15_1 : w12.cell? ⟨gb429,1,none⟩ = some (.int .i64 a1_1):=(bc_ BK429.out 1).trans rfl;have hcz15_2 : w12.cell? ⟨gb429,2,none⟩ = some (.int .i64 a1_2):=(bc_ BK429.out 2).trans rfl;have hfz15_0:=bf_ BK429.out 0;have hfz15_1:=bf_ BK429.out 1;have hfz15_2:=bf_ BK429.out 2))
    go_ret
    exact ⟨qe_,u2_ HB GE428 GE429⟩
  ·rw [if_neg c4] at H
   have c4b0 : (a0_1 == a1_1) = false:=beq_eq_false_iff_ne.mpr c4
   have c4b1 : (a0_1 != a1_1) = true:=bne_iff_ne.mpr c4
   obtain rfl:=Option.some.inj H
   go_enter Try.func55,Try.ntmps55
   go_wp2_with (first|((with_reducible refine gate_dst (N:=2) rfl ?_);refine box_event ?hg (N:=2) ?hd (cs:=#[.int .i64 a0_0,.int .i64 a0_1,.int .i64 a0_2]) (t:=37) ?hr ?_;(case hd => rfl);(case hg => rfl);(case hr => first|(go_simp;done)|(go_simp;rfl));intro gb428 hg w16 hbox hb;have n0_:=mk_ (st_ (qb_ HB) hb);have n1_:=mk_ (hbox);have n2_:=mk_ ((by rw [hg];exact (bz_ (qb_ HB)) : w.heap.size ≤ gb428));have n3_:=mk_ ((by rw [hg];exact (bz_ (qb_ HB)) : w.heap.size ≤ gb428));clear HB;have HB:=n0_;have BK428:=n1_;have GW428:=n2_;have GE428:=n3_;clear n0_ n1_ n2_ n3_ hb hbox hg)|((with_reducible refine gate_dst (N:=3) rfl ?_);refine box_event ?hg (N:=3) ?hd (cs:=#[.int .i64 a1_0,.int .i64 a1_1,.int .i64 a1_2]) (t:=37) ?hr ?_;(case hd => rfl);(case hg => rfl);(case hr => first|(go_simp;done)|(go_simp;rfl));intro gb429 hg w17 hbox hb;have n0_:=mk_ (blk_below (g:=gb428) (o:=.cells #[.int .i64 a0_0,.int .i64 a0_1,.int .i64 a0_2] 37 (0,0)) (qk_ BK428) hb);have n1_:=mk_ (st_ (qc_ HB GE428) hb);have n2_:=mk_ (hbox);have n3_:=mk_ ((by rw [hg];exact (bz_ (qc_ HB GE428)) : w.heap.size ≤ gb429));have n4_:=mk_ ((by rw [hg];exact (bz_ (qc_ HB GE428)) : w.heap.size ≤ gb429));have n5_:=mk_ ((by rw [hg];exact Nat.ne_of_lt (blk_lt (g:=gb428) (o:=.cells #[.int .i64 a0_0,.int .i64 a0_1,.int .i64 a0_2] 37 (0,0)) (qk_ BK428)) : gb428 ≠ gb429));have n6_:=mk_ ((by rw [hg];exact Nat.ne_of_gt (blk_lt (g:=gb428) (o:=.cells #[.int .i64 a0_0,.int .i64 a0_1,.int .i64 a0_2] 37 (0,0)) (qk_ BK428)) : gb429 ≠ gb428));clear BK428 HB;have BK428:=n0_;have HB:=n1_;have BK429:=n2_;have GW429:=n3_;have GE429:=n4_;have NB428_429:=n5_;have NB429_428:=n6_;clear n0_ n1_ n2_ n3_ n4_ n5_ n6_ hb hbox hg;have hnb18:=NB428_429.out;have hnc18:=NB429_428.out;have hcz19_0 : w17.cell? ⟨gb428,0,none⟩ = some (.int .i64 a0_0):=(bc_ BK428.out 0).trans rfl;have hcz19_1 : w17.cell? ⟨gb428,1,none⟩ = some (.int .i64 a0_1):=(bc_ BK428.out 1).trans rfl;have hcz19_2 : w17.cell? ⟨gb428,2,none⟩ = some (.int .i64 a0_2):=(bc_ BK428.out 2).trans rfl;have hfz19_0:=bf_ BK428.out 0;have hfz19_1:=bf_ BK428.out 1;have hfz19_2:=bf_ BK428.out 2;have hcz20_0 : w17.cell? ⟨gb429,0,none⟩ = some (.int .i64 a1_0):=(bc_ BK429.out 0).trans rfl;have hcz20_1 : w17.cell? ⟨gb429,1,none⟩ = some (.int .i64 a1_1):=(bc_ BK429.out 1).trans rfl;have hcz20_2 : w17.cell? ⟨gb429,2,none⟩ = some (.int .i64 a1_2):=(bc_ BK429.out 2).trans rfl;have hfz20_0:=bf_ BK429.out 0;have hfz20_1:=bf_ BK429.out 1;have hfz20_2:=bf_ BK429.out 2))
   go_ret
   exact ⟨qe_,u2_ HB GE428 GE429⟩
 ·rw [if_neg c3] at H
  have c3b0 : (a0_0 == a1_0) = false:=beq_eq_false_iff_ne.mpr c3
  have c3b1 : (a0_0 != a1_0) = true:=bne_iff_ne.mpr c3
  obtain rfl:=Option.some.inj H
  go_enter Try.func55,Try.ntmps55
  go_wp2_with (first|((with_reducible refine gate_dst (N:=2) rfl ?_);refine box_event ?hg (N:=2) ?hd (cs:=#[.int .i64 a0_0,.int .i64 a0_1,.int .i64 a0_2]) (t:=37) ?hr ?_;(case hd => rfl);(case hg => rfl);(case hr => first|(go_simp;done)|(go_simp;rfl));intro gb428 hg w21 hbox hb;have n0_:=mk_ (st_ (qb_ HB) hb);have n1_:=mk_ (hbox);have n2_:=mk_ ((by rw [hg];exact (bz_ (qb_ HB)) : w.heap.size ≤ gb428));have n3_:=mk_ ((by rw [hg];exact (bz_ (qb_ HB)) : w.heap.size ≤ gb428));clear HB;have HB:=n0_;have BK428:=n1_;have GW428:=n2_;have GE428:=n3_;clear n0_ n1_ n2_ n3_ hb hbox hg)|((with_reducible refine gate_dst (N:=3) rfl ?_);refine box_event ?hg (N:=3) ?hd (cs:=#[.int .i64 a1_0,.int .i64 a1_1,.int .i64 a1_2]) (t:=37) ?hr ?_;(case hd => rfl);(case hg => rfl);(case hr => first|(go_simp;done)|(go_simp;rfl));intro gb429 hg w22 hbox hb;have n0_:=mk_ (blk_below (g:=gb428) (o:=.cells #[.int .i64 a0_0,.int .i64 a0_1,.int .i64 a0_2] 37 (0,0)) (qk_ BK428) hb);have n1_:=mk_ (st_ (qc_ HB GE428) hb);have n2_:=mk_ (hbox);have n3_:=mk_ ((by rw [hg];exact (bz_ (qc_ HB GE428)) : w.heap.size ≤ gb429));have n4_:=mk_ ((by rw [hg];exact (bz_ (qc_ HB GE428)) : w.heap.size ≤ gb429));have n5_:=mk_ ((by rw [hg];exact Nat.ne_of_lt (blk_lt (g:=gb428) (o:=.cells #[.int .i64 a0_0,.int .i64 a0_1,.int .i64 a0_2] 37 (0,0)) (qk_ BK428)) : gb428 ≠ gb429));have n6_:=mk_ ((by rw [hg];exact Nat.ne_of_gt (blk_lt (g:=gb428) (o:=.cells #[.int .i64 a0_0,.int .i64 a0_1,.int .i64 a0_2] 37 (0,0)) (qk_ BK428)) : gb429 ≠ gb428));clear BK428 HB;have BK428:=n0_;have HB:=n1_;have BK429:=n2_;have GW429:=n3_;have GE429:=n4_;have NB428_429:=n5_;have NB429_428:=n6_;clear n0_ n1_ n2_ n3_ n4_ n5_ n6_ hb hbox hg;have hnb23:=NB428_429.out;have hnc23:=NB429_428.out;have hcz24_0 : w22.cell? ⟨gb428,0,none⟩ = some (.int .i64 a0_0):=(bc_ BK428.out 0).trans rfl;have hcz24_1 : w22.cell? ⟨gb428,1,none⟩ = some (.int .i64 a0_1):=(bc_ BK428.out 1).trans rfl;have hcz24_2 : w22.cell? ⟨gb428,2,none⟩ = some (.int .i64 a0_2):=(bc_ BK428.out 2).trans rfl;have hfz24_0:=bf_ BK428.out 0;have hfz24_1:=bf_ BK428.out 1;have hfz24_2:=bf_ BK428.out 2;have hcz25_0 : w22.cell? ⟨gb429,0,none⟩ = some (.int .i64 a1_0):=(bc_ BK429.out 0).trans rfl;have hcz25_1 : w22.cell? ⟨gb429,1,none⟩ = some (.int .i64 a1_1):=(bc_ BK429.out 1).trans rfl;have hcz25_2 : w22.cell? ⟨gb429,2,none⟩ = some (.int .i64 a1_2):=(bc_ BK429.out 2).trans rfl;have hfz25_0:=bf_ BK429.out 0;have hfz25_1:=bf_ BK429.out 1;have hfz25_2:=bf_ BK429.out 2))
  go_ret
  exact ⟨qe_,u2_ HB GE428 GE429⟩

/-! ### laws_eqHopS: function 23 -/
def laws_eqHopS.l0 : Nat → List (S37) → List (S37) → Int → Option (Bool)
 | 0,_,_,_ => none
 | k + 1,x0,x1,x5 => if x5 < (x0.length : Int) then (if 0 ≤ x5 then (if x5 < (x1.length : Int) then ((laws_eqHop.f ((rd_T37 x0 x5).f0) ((rd_T37 x0 x5).f1) ((rd_T37 x0 x5).f2) ((rd_T37 x1 x5).f0) ((rd_T37 x1 x5).f1) ((rd_T37 x1 x5).f2)).bind fun t432 => (if t432 = true then (laws_eqHopS.l0 k x0 x1 (wrap64 (x5 + 1))) else (some false))) else (none)) else (none)) else (some true)
def laws_eqHopS.f (k : Nat) (l0 : List (S37)) (l1 : List (S37)) : Option (Bool):=if (l0.length : Int) = (l1.length : Int) then (laws_eqHopS.l0 k l0 l1 0) else (some false)
theorem laws_eqHopS.mono_l : ∀ k,(∀ y0 y1 y2,LeO (laws_eqHopS.l0 k y0 y1 y2) (laws_eqHopS.l0 (k + 1) y0 y1 y2))
 | 0 => fun _ _ _ r h => by simp [laws_eqHopS.l0] at h
 | k + 1 => by
  have ih0:=laws_eqHopS.mono_l k
  ·intro y0 y1 y2
   unfold laws_eqHopS.l0
   repeat' first
   | (with_reducible exact ih0 _ _ _)
   | (with_reducible exact LeO.refl _)
   | (with_reducible exact LeO.none _)
   | (with_reducible refine LeO.ite ?_ ?_)
   | (with_reducible refine LeO.bind ?_ (fun _ => ?_))
   | exact ih0 _ _ _
   | exact LeO.none _
   | refine LeO.ite ?_ ?_
   | refine LeO.bind ?_ (fun _ => ?_)
theorem laws_eqHopS.mono : ∀ a0 a1 k,LeO (laws_eqHopS.f k a0 a1) (laws_eqHopS.f (k + 1) a0 a1):=by
 intro a0 a1 k
 have ih0:=laws_eqHopS.mono_l k
 unfold laws_eqHopS.f
 repeat' first
   | (with_reducible exact ih0 _ _ _)
   | (with_reducible exact LeO.refl _)
   | (with_reducible exact LeO.none _)
   | (with_reducible refine LeO.ite ?_ ?_)
   | (with_reducible refine LeO.bind ?_ (fun _ => ?_))
   | exact ih0 _ _ _
   | exact LeO.none _
   | refine LeO.ite ?_ ?_
   | refine LeO.bind ?_ (fun _ => ?_)
def laws_eqHopS.T6 : Bool × List (List Nat × List Nat):=(true,[([],[]),([],[]),([0,1],[0,1]),([2],[2]),([],[]),([],[]),([4,5],[4,5]),([6],[6]),([3,7],[3,7]),([8],[8])])
def laws_eqHopS.B6 : List Nat:=[0,0,3,7,0,0,48,112,255,511]
theorem laws_eqHopS.tab6 : rtab .any (opsOf Try.f23 6) = laws_eqHopS.T6:=by kernel_rfl
theorem laws_eqHopS.bits6 : waitsOk laws_eqHopS.T6.2 laws_eqHopS.B6 = true:=by kernel_rfl
set_option maxHeartbeats 8000000 in
set_option maxRecDepth 100000 in
theorem laws_eqHopS.calls (k : Nat) (A0 : Option Addr) (c0 : Nat) (l0 : List (S37)) (A1 : Option Addr) (c1 : Nat) (l1 : List (S37)) (r : Bool) (w : World) (hr0 : Kd.C k37 w A0 l0.length l0) (hc0 : l0.length ≤ c0) (hr1 : Kd.C k37 w A1 l1.length l1) (hc1 : l1.length ≤ c1) (h : laws_eqHopS.f k l0 l1 = some r) :
  Calls Try.prog 23 #[.slice A0 l0.length c0,.slice A1 l1.length c1] w fun e w' => e = .returned (.bool r) ∧ Below w.heap.size w w':=by
 have hu37:=Try.underlying37
 have HR0:=mk_ hr0
 have HC0:=mk_ hc0
 clear hr0 hc0
 have HR1:=mk_ hr1
 have HC1:=mk_ hc1
 clear hr1 hc1
 have HB:=mk_ (Below.refl w.heap.size w)
 have H : (if (l0.length : Int) = (l1.length : Int) then (laws_eqHopS.l0 k l0 l1 0) else (some false)) = some r:=h
 clear h
 by_cases c3 : (l0.length : Int) = (l1.length : Int)
 ·rw [if_pos c3] at H
  have c3b0 : ((l0.length : Int) == (l1.length : Int)) = true:=beq_iff_eq.mpr c3
  have c3b1 : ((l0.length : Int) != (l1.length : Int)) = false:=bne_eq_false_iff_eq.mpr c3
  have c3b2 : (l0.length == l1.length) = true:=by first|simpa using c3|(simp at c3 ⊢;omega)
  clear c3
  have H':=mk_ H
  clear H
  go_enter Try.func23,Try.ntmps23
  go_wp2
  go_loopg [5] k (fun kq v5 w' => ∃ (x5_1 : Int),v5 = .int .i64 x5_1 ∧ Aside0 (laws_eqHopS.l0 kq l0 l1 x5_1 = some r) ∧ Aside0 (kq ≤ k) ∧ Aside0 (Below w.heap.size w w'))
  case atStart => exact ⟨(0),qf_,H',⟨Nat.le_refl _⟩,⟨u1_ HB⟩⟩
  case round =>
   clear H'
   try clear c1
   try clear c2
   try clear p2
   try clear c3
   try clear c3b0
   try clear c3b1
   try clear c3b2
   obtain ⟨x5_1,rfl,HA,HK1,HB⟩:=hrel
   cases gk with
   | zero => exact absurd HA.out (by simp [laws_eqHopS.l0])
   | succ k1 =>
    have H:=HA.out
    clear HA
    simp only [laws_eqHopS.l0] at H
    by_cases c4 : x5_1 < (l0.length : Int)
    ·rw [if_pos c4] at H
     have c4b0 : decide (x5_1 < (l0.length : Int)) = true:=decide_eq_true c4
     clear c4
     by_cases c5 : 0 ≤ x5_1
     ·rw [if_pos c5] at H
      have c5b0 : decide (0 ≤ x5_1) = true:=decide_eq_true c5
      clear c5
      by_cases c6 : x5_1 < (l1.length : Int)
      ·rw [if_pos c6] at H
       have c6b0 : decide (x5_1 < (l1.length : Int)) = true:=decide_eq_true c6
       clear c6
       replace H:=Option.bind_eq_some_iff.mp H
       obtain ⟨t432,A70,H⟩:=H
       replace H : (if t432 = true then (laws_eqHopS.l0 k1 l0 l1 (wrap64 (x5_1 + 1))) else (some false)) = some r:=H
       have A7:=mk_ A70
       clear A70
       by_cases c8 : t432 = true
       ·subst c8
        have H1 : (laws_eqHopS.l0 k1 l0 l1 (wrap64 (x5_1 + 1))) = some r:=by rw [if_pos rfl] at H;exact H
        clear H
        have H:=H1
        clear H1
        have H':=mk_ H
        clear H
        try go_wp2
        have n0_:=mk_ (bd_ HB.out)
        clear HB
        have HB:=n0_
        clear n0_
        have p430 : 0 ≤ (x5_1 : Int):=od_ qa_
        have q430 : x5_1 < (l0.length : Int):=od_ qa_
        obtain ⟨ad430,e430,hx430_0,hx430_1,hx430_2⟩:=at_T37 HR0.out x5_1 p430 q430
        have hw430_2:=hx430_2
        have hw430_1:=hx430_1
        have hw430_0:=hx430_0
        cases e430
        replace hx430_0:=(HB.out.cell (wl_ w _ hx430_0)).trans hx430_0
        replace hx430_1:=(HB.out.cell (wl_ w _ hx430_1)).trans hx430_1
        replace hx430_2:=(HB.out.cell (wl_ w _ hx430_2)).trans hx430_2
        replace p430:=eq_true p430
        replace q430:=eq_true q430
        have p431 : 0 ≤ (x5_1 : Int):=od_ qa_
        have q431 : x5_1 < (l1.length : Int):=od_ qa_
        obtain ⟨ad431,e431,hx431_0,hx431_1,hx431_2⟩:=at_T37 HR1.out x5_1 p431 q431
        have hw431_2:=hx431_2
        have hw431_1:=hx431_1
        have hw431_0:=hx431_0
        cases e431
        replace hx431_0:=(HB.out.cell (wl_ w _ hx431_0)).trans hx431_0
        replace hx431_1:=(HB.out.cell (wl_ w _ hx431_1)).trans hx431_1
        replace hx431_2:=(HB.out.cell (wl_ w _ hx431_2)).trans hx431_2
        replace p431:=eq_true p431
        replace q431:=eq_true q431
        refine start_ (n:=10) (S:=fun w' => w'.cell? (ad430.add ((x5_1).toNat * 3)) = some (.int .i64 ((rd_T37 l0 x5_1).f0)) ∧ w'.cell? ⟨(ad430.add ((x5_1).toNat * 3)).block,(ad430.add ((x5_1).toNat * 3)).off + 1,none⟩ = some (.int .i64 ((rd_T37 l0 x5_1).f1)) ∧ w'.cell? ⟨(ad430.add ((x5_1).toNat * 3)).block,(ad430.add ((x5_1).toNat * 3)).off + 2,none⟩ = some (.int .i64 ((rd_T37 l0 x5_1).f2)) ∧ w'.cell? (ad431.add ((x5_1).toNat * 3)) = some (.int .i64 ((rd_T37 l1 x5_1).f0)) ∧ w'.cell? ⟨(ad431.add ((x5_1).toNat * 3)).block,(ad431.add ((x5_1).toNat * 3)).off + 1,none⟩ = some (.int .i64 ((rd_T37 l1 x5_1).f1)) ∧ w'.cell? ⟨(ad431.add ((x5_1).toNat * 3)).block,(ad431.add ((x5_1).toNat * 3)).off + 2,none⟩ = some (.int .i64 ((rd_T37 l1 x5_1).f2))) (ds:=[]) #[false,false,false,false,false,false,false,false,false,false] (by kernel_rfl) rfl rfl ⟨((HB.out.cell (wl_ w _ hw430_0)).trans hw430_0),((HB.out.cell (wl_ w _ hw430_1)).trans hw430_1),((HB.out.cell (wl_ w _ hw430_2)).trans hw430_2),((HB.out.cell (wl_ w _ hw431_0)).trans hw431_0),((HB.out.cell (wl_ w _ hw431_1)).trans hw431_1),((HB.out.cell (wl_ w _ hw431_2)).trans hw431_2)⟩ (fun hHeld => ?_);refine with_tabW laws_eqHopS.tab6 laws_eqHopS.bits6 (fun HT_ HW_ => ?_)
        generalize wr.drew = w9 at HB hx430_0 hx430_1 hx430_2 hx431_0 hx431_1 hx431_2 hHeld ⊢
        refine pure_ (i:=0) (N:=some 17) (v:=?_) (a':=?_) #[true,false,false,false,false,false,false,false,false,false] rfl rfl (any_of HT_.out (by kernel_rfl)) (fun _ _ _ h => h) (Or.inl ⟨by rfl,?_⟩) ?_ ?_
        rotate_left
        ·intro w'
         go_simp
         with_reducible rfl
        rotate_left
        ·simp only [Act.put,sx_,sy_,sz_,i64_w,i32_w]
         rfl
        refine pure_ (i:=1) (N:=some 18) (v:=?_) (a':=?_) #[true,true,false,false,false,false,false,false,false,false] rfl rfl (any_of HT_.out (by kernel_rfl)) (fun _ _ _ h => h) (Or.inl ⟨by rfl,?_⟩) ?_ ?_
        rotate_left
        ·intro w'
         go_simp
         with_reducible rfl
        rotate_left
        ·simp only [Act.put,sx_,sy_,sz_,i64_w,i32_w]
         rfl
        refine pure_ (i:=2) (N:=some 19) (v:=?_) (a':=?_) #[true,true,true,false,false,false,false,false,false,false] rfl rfl (any_of HT_.out (by kernel_rfl)) (fun _ _ _ h => h) (Or.inl ⟨by rfl,?_⟩) ?_ ?_
        rotate_left
        ·intro w'
         go_simp
         with_reducible rfl
        rotate_left
        ·simp only [Act.put,sx_,sy_,sz_,i64_w,i32_w]
         rfl
        refine pure_ (i:=4) (N:=some 21) (v:=?_) (a':=?_) #[true,true,true,false,true,false,false,false,false,false] rfl rfl (any_of HT_.out (by kernel_rfl)) (fun _ _ _ h => h) (Or.inl ⟨by rfl,?_⟩) ?_ ?_
        rotate_left
        ·intro w'
         go_simp
         with_reducible rfl
        rotate_left
        ·simp only [Act.put,sx_,sy_,sz_,i64_w,i32_w]
         rfl
        refine pure_ (i:=5) (N:=some 22) (v:=?_) (a':=?_) #[true,true,true,false,true,true,false,false,false,false] rfl rfl (any_of HT_.out (by kernel_rfl)) (fun _ _ _ h => h) (Or.inl ⟨by rfl,?_⟩) ?_ ?_
        rotate_left
        ·intro w'
         go_simp
         with_reducible rfl
        rotate_left
        ·simp only [Act.put,sx_,sy_,sz_,i64_w,i32_w]
         rfl
        refine pure_ (i:=6) (N:=some 23) (v:=?_) (a':=?_) #[true,true,true,false,true,true,true,false,false,false] rfl rfl (any_of HT_.out (by kernel_rfl)) (fun _ _ _ h => h) (Or.inl ⟨by rfl,?_⟩) ?_ ?_
        rotate_left
        ·intro w'
         go_simp
         with_reducible rfl
        rotate_left
        ·simp only [Act.put,sx_,sy_,sz_,i64_w,i32_w]
         rfl
        refine take_ (i:=3) (N:=some 20) (v:=?_) (a':=?_) #[true,true,true,true,true,true,true,false,false,false] rfl rfl (take_ofW HT_.out HW_.out (by kernel_rfl)) (fun _ _ _ h => h) (Or.inl ⟨by rfl,?_⟩) hHeld ?_ ?_
        rotate_left
        ·rintro w' ⟨s0,s1,s2,s3,s4,s5⟩
         go_simp
         with_reducible rfl
        rotate_left
        ·simp only [Act.put,sx_,sy_,sz_,i64_w,i32_w]
         rfl
        refine take_ (i:=7) (N:=some 24) (v:=?_) (a':=?_) #[true,true,true,true,true,true,true,true,false,false] rfl rfl (take_ofW HT_.out HW_.out (by kernel_rfl)) (fun _ _ _ h => h) (Or.inl ⟨by rfl,?_⟩) hHeld ?_ ?_
        rotate_left
        ·rintro w' ⟨s0,s1,s2,s3,s4,s5⟩
         go_simp
         with_reducible rfl
        rotate_left
        ·simp only [Act.put,sx_,sy_,sz_,i64_w,i32_w]
         rfl
        refine one_ (i:=8) (N:=some 25) #[true,true,true,true,true,true,true,true,true,false] rfl rfl (one_of HT_.out (by kernel_rfl)) (by decide) (fun K hK => ?_)
        refine goes_ Try.func55 (by kernel_rfl) rfl #[.agg #[.int .i64 ((rd_T37 l0 x5_1).f0),.int .i64 ((rd_T37 l0 x5_1).f1),.int .i64 ((rd_T37 l0 x5_1).f2)],.agg #[.int .i64 ((rd_T37 l1 x5_1).f0),.int .i64 ((rd_T37 l1 x5_1).f1),.int .i64 ((rd_T37 l1 x5_1).f2)]] (by rfl) rfl rfl qm_ ?_
        with_reducible refine (laws_eqHop.calls ((rd_T37 l0 x5_1).f0) ((rd_T37 l0 x5_1).f1) ((rd_T37 l0 x5_1).f2) ((rd_T37 l1 x5_1).f0) ((rd_T37 l1 x5_1).f1) ((rd_T37 l1 x5_1).f2) true _ A7.out).mono ?_
        rintro e w10 ⟨rfl,hb⟩
        refine ⟨_,rfl,?_⟩
        have n0_:=mk_ (st_ (qb_ HB) hb)
        clear HB
        have HB:=n0_
        clear n0_
        (try clear hb)
        (try clear hb2)
        (try clear hk)
        (try clear hi)
        refine hK.out _ _ ⟨((HB.out.cell (wl_ w _ hw430_0)).trans hw430_0),((HB.out.cell (wl_ w _ hw430_1)).trans hw430_1),((HB.out.cell (wl_ w _ hw430_2)).trans hw430_2),((HB.out.cell (wl_ w _ hw431_0)).trans hw431_0),((HB.out.cell (wl_ w _ hw431_1)).trans hw431_1),((HB.out.cell (wl_ w _ hw431_2)).trans hw431_2)⟩ (fun hHeld => ?_)
        clear hK K
        refine norm_ (a':=?_) ?_ ?_
        rotate_left
        ·show Act.put _ (some 25) _ = _
         simp only [Act.put,sx_,sy_,sz_,i64_w,i32_w]
         rfl
        refine pure_ (i:=9) (N:=some 26) (v:=?_) (a':=?_) #[true,true,true,true,true,true,true,true,true,true] rfl rfl (any_of HT_.out (by kernel_rfl)) (fun _ _ _ h => h) (Or.inl ⟨by rfl,?_⟩) ?_ ?_
        rotate_left
        ·intro w'
         go_simp
         with_reducible rfl
        rotate_left
        ·simp only [Act.put,sx_,sy_,sz_,i64_w,i32_w]
         rfl
        refine done_ (done_of HT_.out (by kernel_rfl)) ?_
        try go_wp2
        go_roundg k1
        case measure => have:=HK1.out;omega
        case rel => exact ⟨(wrap64 (x5_1 + 1)),qf_,H',⟨by have:=HK1.out;omega⟩,⟨u1_ HB⟩⟩
       ·replace c8:=Bool.eq_false_iff.mpr c8
        subst c8
        have H1 : (some false) = some r:=by rw [if_neg (show ¬ (false = true) by decide)] at H;exact H
        clear H
        have H:=H1
        clear H1
        obtain rfl:=Option.some.inj H
        try go_wp2
        have n0_:=mk_ (bd_ HB.out)
        clear HB
        have HB:=n0_
        clear n0_
        have p430 : 0 ≤ (x5_1 : Int):=od_ qa_
        have q430 : x5_1 < (l0.length : Int):=od_ qa_
        obtain ⟨ad430,e430,hx430_0,hx430_1,hx430_2⟩:=at_T37 HR0.out x5_1 p430 q430
        have hw430_2:=hx430_2
        have hw430_1:=hx430_1
        have hw430_0:=hx430_0
        cases e430
        replace hx430_0:=(HB.out.cell (wl_ w _ hx430_0)).trans hx430_0
        replace hx430_1:=(HB.out.cell (wl_ w _ hx430_1)).trans hx430_1
        replace hx430_2:=(HB.out.cell (wl_ w _ hx430_2)).trans hx430_2
        replace p430:=eq_true p430
        replace q430:=eq_true q430
        have p431 : 0 ≤ (x5_1 : Int):=od_ qa_
        have q431 : x5_1 < (l1.length : Int):=od_ qa_
        obtain ⟨ad431,e431,hx431_0,hx431_1,hx431_2⟩:=at_T37 HR1.out x5_1 p431 q431
        have hw431_2:=hx431_2
        have hw431_1:=hx431_1
        have hw431_0:=hx431_0
        cases e431
        replace hx431_0:=(HB.out.cell (wl_ w _ hx431_0)).trans hx431_0
        replace hx431_1:=(HB.out.cell (wl_ w _ hx431_1)).trans hx431_1
        replace hx431_2:=(HB.out.cell (wl_ w _ hx431_2)).trans hx431_2
        replace p431:=eq_true p431
        replace q431:=eq_true q431
        refine start_ (n:=10) (S:=fun w' => w'.cell? (ad430.add ((x5_1).toNat * 3)) = some (.int .i64 ((rd_T37 l0 x5_1).f0)) ∧ w'.cell? ⟨(ad430.add ((x5_1).toNat * 3)).block,(ad430.add ((x5_1).toNat * 3)).off + 1,none⟩ = some (.int .i64 ((rd_T37 l0 x5_1).f1)) ∧ w'.cell? ⟨(ad430.add ((x5_1).toNat * 3)).block,(ad430.add ((x5_1).toNat * 3)).off + 2,none⟩ = some (.int .i64 ((rd_T37 l0 x5_1).f2)) ∧ w'.cell? (ad431.add ((x5_1).toNat * 3)) = some (.int .i64 ((rd_T37 l1 x5_1).f0)) ∧ w'.cell? ⟨(ad431.add ((x5_1).toNat * 3)).block,(ad431.add ((x5_1).toNat * 3)).off + 1,none⟩ = some (.int .i64 ((rd_T37 l1 x5_1).f1)) ∧ w'.cell? ⟨(ad431.add ((x5_1).toNat * 3)).block,(ad431.add ((x5_1).toNat * 3)).off + 2,none⟩ = some (.int .i64 ((rd_T37 l1 x5_1).f2))) (ds:=[]) #[false,false,false,false,false,false,false,false,false,false] (by kernel_rfl) rfl rfl ⟨((HB.out.cell (wl_ w _ hw430_0)).trans hw430_0),((HB.out.cell (wl_ w _ hw430_1)).trans hw430_1),((HB.out.cell (wl_ w _ hw430_2)).trans hw430_2),((HB.out.cell (wl_ w _ hw431_0)).trans hw431_0),((HB.out.cell (wl_ w _ hw431_1)).trans hw431_1),((HB.out.cell (wl_ w _ hw431_2)).trans hw431_2)⟩ (fun hHeld => ?_);refine with_tabW laws_eqHopS.tab6 laws_eqHopS.bits6 (fun HT_ HW_ => ?_)
        generalize wr.drew = w11 at HB hx430_0 hx430_1 hx430_2 hx431_0 hx431_1 hx431_2 hHeld ⊢
        refine pure_ (i:=0) (N:=some 17) (v:=?_) (a':=?_) #[true,false,false,false,false,false,false,false,false,false] rfl rfl (any_of HT_.out (by kernel_rfl)) (fun _ _ _ h => h) (Or.inl ⟨by rfl,?_⟩) ?_ ?_
        rotate_left
        ·intro w'
         go_simp
         with_reducible rfl
        rotate_left
        ·simp only [Act.put,sx_,sy_,sz_,i64_w,i32_w]
         rfl
        refine pure_ (i:=1) (N:=some 18) (v:=?_) (a':=?_) #[true,true,false,false,false,false,false,false,false,false] rfl rfl (any_of HT_.out (by kernel_rfl)) (fun _ _ _ h => h) (Or.inl ⟨by rfl,?_⟩) ?_ ?_
        rotate_left
        ·intro w'
         go_simp
         with_reducible rfl
        rotate_left
        ·simp only [Act.put,sx_,sy_,sz_,i64_w,i32_w]
         rfl
        refine pure_ (i:=2) (N:=some 19) (v:=?_) (a':=?_) #[true,true,true,false,false,false,false,false,false,false] rfl rfl (any_of HT_.out (by kernel_rfl)) (fun _ _ _ h => h) (Or.inl ⟨by rfl,?_⟩) ?_ ?_
        rotate_left
        ·intro w'
         go_simp
         with_reducible rfl
        rotate_left
        ·simp only [Act.put,sx_,sy_,sz_,i64_w,i32_w]
         rfl
        refine pure_ (i:=4) (N:=some 21) (v:=?_) (a':=?_) #[true,true,true,false,true,false,false,false,false,false] rfl rfl (any_of HT_.out (by kernel_rfl)) (fun _ _ _ h => h) (Or.inl ⟨by rfl,?_⟩) ?_ ?_
        rotate_left
        ·intro w'
         go_simp
         with_reducible rfl
        rotate_left
        ·simp only [Act.put,sx_,sy_,sz_,i64_w,i32_w]
         rfl
        refine pure_ (i:=5) (N:=some 22) (v:=?_) (a':=?_) #[true,true,true,false,true,true,false,false,false,false] rfl rfl (any_of HT_.out (by kernel_rfl)) (fun _ _ _ h => h) (Or.inl ⟨by rfl,?_⟩) ?_ ?_
        rotate_left
        ·intro w'
         go_simp
         with_reducible rfl
        rotate_left
        ·simp only [Act.put,sx_,sy_,sz_,i64_w,i32_w]
         rfl
        refine pure_ (i:=6) (N:=some 23) (v:=?_) (a':=?_) #[true,true,true,false,true,true,true,false,false,false] rfl rfl (any_of HT_.out (by kernel_rfl)) (fun _ _ _ h => h) (Or.inl ⟨by rfl,?_⟩) ?_ ?_
        rotate_left
        ·intro w'
         go_simp
         with_reducible rfl
        rotate_left
        ·simp only [Act.put,sx_,sy_,sz_,i64_w,i32_w]
         rfl
        refine take_ (i:=3) (N:=some 20) (v:=?_) (a':=?_) #[true,true,true,true,true,true,true,false,false,false] rfl rfl (take_ofW HT_.out HW_.out (by kernel_rfl)) (fun _ _ _ h => h) (Or.inl ⟨by rfl,?_⟩) hHeld ?_ ?_
        rotate_left
        ·rintro w' ⟨s0,s1,s2,s3,s4,s5⟩
         go_simp
         with_reducible rfl
        rotate_left
        ·simp only [Act.put,sx_,sy_,sz_,i64_w,i32_w]
         rfl
        refine take_ (i:=7) (N:=some 24) (v:=?_) (a':=?_) #[true,true,true,true,true,true,true,true,false,false] rfl rfl (take_ofW HT_.out HW_.out (by kernel_rfl)) (fun _ _ _ h => h) (Or.inl ⟨by rfl,?_⟩) hHeld ?_ ?_
        rotate_left
        ·rintro w' ⟨s0,s1,s2,s3,s4,s5⟩
         go_simp
         with_reducible rfl
        rotate_left
        ·simp only [Act.put,sx_,sy_,sz_,i64_w,i32_w]
         rfl
        refine one_ (i:=8) (N:=some 25) #[true,true,true,true,true,true,true,true,true,false] rfl rfl (one_of HT_.out (by kernel_rfl)) (by decide) (fun K hK => ?_)
        refine goes_ Try.func55 (by kernel_rfl) rfl #[.agg #[.int .i64 ((rd_T37 l0 x5_1).f0),.int .i64 ((rd_T37 l0 x5_1).f1),.int .i64 ((rd_T37 l0 x5_1).f2)],.agg #[.int .i64 ((rd_T37 l1 x5_1).f0),.int .i64 ((rd_T37 l1 x5_1).f1),.int .i64 ((rd_T37 l1 x5_1).f2)]] (by rfl) rfl rfl qm_ ?_
        with_reducible refine (laws_eqHop.calls ((rd_T37 l0 x5_1).f0) ((rd_T37 l0 x5_1).f1) ((rd_T37 l0 x5_1).f2) ((rd_T37 l1 x5_1).f0) ((rd_T37 l1 x5_1).f1) ((rd_T37 l1 x5_1).f2) false _ A7.out).mono ?_
        rintro e w12 ⟨rfl,hb⟩
        refine ⟨_,rfl,?_⟩
        have n0_:=mk_ (st_ (qb_ HB) hb)
        clear HB
        have HB:=n0_
        clear n0_
        (try clear hb)
        (try clear hb2)
        (try clear hk)
        (try clear hi)
        refine hK.out _ _ ⟨((HB.out.cell (wl_ w _ hw430_0)).trans hw430_0),((HB.out.cell (wl_ w _ hw430_1)).trans hw430_1),((HB.out.cell (wl_ w _ hw430_2)).trans hw430_2),((HB.out.cell (wl_ w _ hw431_0)).trans hw431_0),((HB.out.cell (wl_ w _ hw431_1)).trans hw431_1),((HB.out.cell (wl_ w _ hw431_2)).trans hw431_2)⟩ (fun hHeld => ?_)
        clear hK K
        refine norm_ (a':=?_) ?_ ?_
        rotate_left
        ·show Act.put _ (some 25) _ = _
         simp only [Act.put,sx_,sy_,sz_,i64_w,i32_w]
         rfl
        refine pure_ (i:=9) (N:=some 26) (v:=?_) (a':=?_) #[true,true,true,true,true,true,true,true,true,true] rfl rfl (any_of HT_.out (by kernel_rfl)) (fun _ _ _ h => h) (Or.inl ⟨by rfl,?_⟩) ?_ ?_
        rotate_left
        ·intro w'
         go_simp
         with_reducible rfl
        rotate_left
        ·simp only [Act.put,sx_,sy_,sz_,i64_w,i32_w]
         rfl
        refine done_ (done_of HT_.out (by kernel_rfl)) ?_
        try go_wp2
        go_ret
        exact ⟨qe_,u1_ HB⟩
      ·rw [if_neg c6] at H
       exact absurd H (by simp)
     ·rw [if_neg c5] at H
      exact absurd H (by simp)
    ·rw [if_neg c4] at H
     have c4b0 : decide (x5_1 < (l0.length : Int)) = false:=decide_eq_false c4
     clear c4
     obtain rfl:=Option.some.inj H
     go_wp2
     go_ret
     exact ⟨qe_,u1_ HB⟩
 ·rw [if_neg c3] at H
  have c3b0 : ((l0.length : Int) == (l1.length : Int)) = false:=beq_eq_false_iff_ne.mpr c3
  have c3b1 : ((l0.length : Int) != (l1.length : Int)) = true:=bne_iff_ne.mpr c3
  have c3b2 : (l0.length == l1.length) = false:=by first|simpa using c3|(simp at c3 ⊢;omega)
  obtain rfl:=Option.some.inj H
  go_enter Try.func23,Try.ntmps23
  go_wp2
  go_ret
  exact ⟨qe_,u1_ HB⟩

/-! ### laws_markCableS: function 56 -/
def laws_markCableS.l0 : Nat → List (S83) → Int → Int → Option (Int × (List (S83)))
 | 0,_,_,_ => none
 | k + 1,x0,x1,x5 => if x5 < (x0.length : Int) then (if 0 ≤ x5 then ((some (x0.set (x5 : Int).toNat (⟨x1,(rd_T83 x0 x5).f1,(rd_T83 x0 x5).f2⟩ : S83) : List (S83))).bind fun y433 => ((some (y433.set (x5 : Int).toNat (⟨(rd_T83 y433 x5).f0,wrap64 (x1 + 1),(rd_T83 y433 x5).f2⟩ : S83) : List (S83))).bind fun y434 => (laws_markCableS.l0 k (y434.set (x5 : Int).toNat (⟨(rd_T83 y434 x5).f0,(rd_T83 y434 x5).f1,wrap64 ((wrap64 (x1 + 1)) + 1)⟩ : S83)) (wrap64 ((wrap64 ((wrap64 (x1 + 1)) + 1)) + 1)) (wrap64 (x5 + 1))))) else (none)) else (some (x1,x0))
def laws_markCableS.f (k : Nat) (l0 : List (S83)) (a1 : Int) : Option (Int × (List (S83))):=laws_markCableS.l0 k l0 a1 0
theorem laws_markCableS.mono_l : ∀ k,(∀ y0 y1 y2,LeO (laws_markCableS.l0 k y0 y1 y2) (laws_markCableS.l0 (k + 1) y0 y1 y2))
 | 0 => fun _ _ _ r h => by simp [laws_markCableS.l0] at h
 | k + 1 => by
  have ih0:=laws_markCableS.mono_l k
  ·intro y0 y1 y2
   unfold laws_markCableS.l0
   repeat' first
   | (with_reducible exact ih0 _ _ _)
   | (with_reducible exact LeO.refl _)
   | (with_reducible exact LeO.none _)
   | (with_reducible refine LeO.ite ?_ ?_)
   | (with_reducible refine LeO.bind ?_ (fun _ => ?_))
   | exact ih0 _ _ _
   | exact LeO.none _
   | refine LeO.ite ?_ ?_
   | refine LeO.bind ?_ (fun _ => ?_)
theorem laws_markCableS.mono : ∀ a0 a1 k,LeO (laws_markCableS.f k a0 a1) (laws_markCableS.f (k + 1) a0 a1):=by
 intro a0 a1 k
 have ih0:=laws_markCableS.mono_l k
 unfold laws_markCableS.f
 repeat' first
   | (with_reducible exact ih0 _ _ _)
   | (with_reducible exact LeO.refl _)
   | (with_reducible exact LeO.none _)
   | (with_reducible refine LeO.ite ?_ ?_)
   | (with_reducible refine LeO.bind ?_ (fun _ => ?_))
   | exact ih0 _ _ _
   | exact LeO.none _
   | refine LeO.ite ?_ ?_
   | refine LeO.bind ?_ (fun _ => ?_)
set_option maxHeartbeats 8000000 in
set_option maxRecDepth 100000 in
theorem laws_markCableS.calls (k : Nat) (P0_ : Nat → Prop) (u9000_ : Value) (l0 : List (S83)) (a1 : Int) (r1 : Int) (r2 : List (S83)) (w0 w : World) (hB : Below w0.heap.size w0 w) (ho0 : Kd.R k83 83 w w0.heap.size P0_ u9000_ l0) (h : laws_markCableS.f k l0 a1 = some (r1,r2)) :
  Calls Try.prog 56 #[u9000_,.int .i64 a1] w fun e w' => e = .returned (.int .i64 r1) ∧ Kd.R k83 83 w' w0.heap.size (fun k_ => (P0_ k_ ∨ w.heap.size ≤ k_)) u9000_ r2 ∧ Below w0.heap.size w0 w' ∧ Kept w w' (fun k_ => P0_ k_):=by
 have HO0:=mk_ (show Kd.R k83 83 w w0.heap.size (fun k_ => (P0_ k_ ∨ w.heap.size ≤ k_)) u9000_ l0 from rm_ ho0 (fun k_ hk => (.inl hk)))
 have HK:=mk_ (Kept.refl w (fun k_ => P0_ k_))
 have HW0:=mk_ hB.size
 have HB:=mk_ hB
 clear hB
 have H : (laws_markCableS.l0 k l0 a1 0) = some (r1,r2):=h
 clear h
 have H':=mk_ H
 clear H
 go_enter Try.func56,Try.ntmps56
 go_wp2
 go_loopg [1,5] k (fun kq v1 v5 w' => ∃ (x0_1 : List (S83)) (x1_1 : Int) (x5_1 : Int),v1 = .int .i64 x1_1 ∧ v5 = .int .i64 x5_1 ∧ Aside0 (laws_markCableS.l0 kq x0_1 x1_1 x5_1 = some (r1,r2)) ∧ Aside0 (kq ≤ k) ∧ Aside0 (Kd.R k83 83 w' w0.heap.size (fun k_ => (P0_ k_ ∨ w.heap.size ≤ k_)) u9000_ x0_1) ∧ Aside0 (Kept w w' (fun k_ => P0_ k_)) ∧ Aside0 (Below w0.heap.size w0 w'))
 case atStart => exact ⟨(l0),(a1),(0),qf_,qf_,H',⟨Nat.le_refl _⟩,⟨qr_ HO0⟩,⟨u4_ HK⟩,⟨u1_ HB⟩⟩
 case round =>
  clear H'
  try clear p2
  obtain ⟨x0_1,x1_1,x5_1,rfl,rfl,HA,HK1,HO_0,HK,HB⟩:=hrel
  cases gk with
  | zero => exact absurd HA.out (by simp [laws_markCableS.l0])
  | succ k1 =>
   have H:=HA.out
   clear HA
   simp only [laws_markCableS.l0] at H
   by_cases c3 : x5_1 < (x0_1.length : Int)
   ·rw [if_pos c3] at H
    have c3b0 : decide (x5_1 < (x0_1.length : Int)) = true:=decide_eq_true c3
    clear c3
    by_cases c4 : 0 ≤ x5_1
    ·rw [if_pos c4] at H
     have c4b0 : decide (0 ≤ x5_1) = true:=decide_eq_true c4
     clear c4
     obtain ⟨y433,hy433⟩ : ∃ y_ : List (S83),y_ = (x0_1.set (x5_1 : Int).toNat (⟨x1_1,(rd_T83 x0_1 x5_1).f1,(rd_T83 x0_1 x5_1).f2⟩ : S83)):=⟨_,rfl⟩
     replace H : ((some (y433.set (x5_1 : Int).toNat (⟨(rd_T83 y433 x5_1).f0,wrap64 (x1_1 + 1),(rd_T83 y433 x5_1).f2⟩ : S83) : List (S83))).bind fun y434 => (laws_markCableS.l0 k1 (y434.set (x5_1 : Int).toNat (⟨(rd_T83 y434 x5_1).f0,(rd_T83 y434 x5_1).f1,wrap64 ((wrap64 (x1_1 + 1)) + 1)⟩ : S83)) (wrap64 ((wrap64 ((wrap64 (x1_1 + 1)) + 1)) + 1)) (wrap64 (x5_1 + 1)))) = some (r1,r2):=by first|(rw [hy433];with_reducible exact H)|(have H2_:=(Option.bind_some _ _).symm.trans H;rw [hy433];with_reducible exact H2_)|(have H2_:=(Option.bind_some _ _).symm.trans H;with_reducible exact H2_)|with_reducible exact H|(rw [hy433];exact H)|exact H
     have Ny433:=mk_ hy433
     clear hy433
     obtain ⟨y434,hy434⟩ : ∃ y_ : List (S83),y_ = (y433.set (x5_1 : Int).toNat (⟨(rd_T83 y433 x5_1).f0,wrap64 (x1_1 + 1),(rd_T83 y433 x5_1).f2⟩ : S83)):=⟨_,rfl⟩
     replace H : (laws_markCableS.l0 k1 (y434.set (x5_1 : Int).toNat (⟨(rd_T83 y434 x5_1).f0,(rd_T83 y434 x5_1).f1,wrap64 ((wrap64 (x1_1 + 1)) + 1)⟩ : S83)) (wrap64 ((wrap64 ((wrap64 (x1_1 + 1)) + 1)) + 1)) (wrap64 (x5_1 + 1))) = some (r1,r2):=by first|(rw [hy434];with_reducible exact H)|(have H2_:=(Option.bind_some _ _).symm.trans H;rw [hy434];with_reducible exact H2_)|(have H2_:=(Option.bind_some _ _).symm.trans H;with_reducible exact H2_)|with_reducible exact H|(rw [hy434];exact H)|exact H
     have Ny434:=mk_ hy434
     clear hy434
     obtain ⟨y435,hy435⟩ : ∃ y_ : List (S83),y_ = (y434.set (x5_1 : Int).toNat (⟨(rd_T83 y434 x5_1).f0,(rd_T83 y434 x5_1).f1,wrap64 ((wrap64 (x1_1 + 1)) + 1)⟩ : S83)):=⟨_,rfl⟩
     replace H : (laws_markCableS.l0 k1 y435 (wrap64 ((wrap64 ((wrap64 (x1_1 + 1)) + 1)) + 1)) (wrap64 (x5_1 + 1))) = some (r1,r2):=by first|(rw [hy435];with_reducible exact H)|(have H2_:=(Option.bind_some _ _).symm.trans H;rw [hy435];with_reducible exact H2_)|(have H2_:=(Option.bind_some _ _).symm.trans H;with_reducible exact H2_)|with_reducible exact H|(rw [hy435];exact H)|exact H
     have Ny435:=mk_ hy435
     clear hy435
     have H':=mk_ H
     clear H
     obtain ⟨Ao8,co8,eo8⟩:=Kd.R_slice HO_0.out
     subst eo8
     have p5 : 0 ≤ (x5_1 : Int):=od_ qa_
     have q5 : (x5_1 : Int) < ((x0_1.length : Int) : Int):=od_ qa_
     obtain ⟨go5,co5,eo5,gb5,gl5,cl5,HG5⟩:=Kd.R_form HO_0.out (by omega)
     (first|cases eo5|(injection eo5 with ea_ en_ ec_;(first|subst ea_|(injection ea_ with ea_;subst ea_));subst ec_;clear en_))
     have GB5:=mk_ gb5
     have GG5:=mk_ HG5
     clear gb5 gl5 HG5
     have HMgo5:=mk_ (show (P0_ go5 ∨ w.heap.size ≤ go5) from (HO_0.out.1 _ rfl))
     obtain ⟨ce5,hcl5,hM5,hcc5,hfr5⟩:=Kd.R_elem HO_0.out z83 (x5_1 : Int) p5 q5
     obtain rfl:=k83_openM hM5
     have hx5_0 : wr.cell? ⟨go5,(x5_1 : Int).toNat * 3,none⟩ = some (.int .i64 ((rd_T83 x0_1 x5_1).f0)):=hcc5 0 _ rfl
     have hx5_1 : wr.cell? ⟨go5,(x5_1 : Int).toNat * 3 + 1,none⟩ = some (.int .i64 ((rd_T83 x0_1 x5_1).f1)):=hcc5 1 _ rfl
     have hx5_2 : wr.cell? ⟨go5,(x5_1 : Int).toNat * 3 + 2,none⟩ = some (.int .i64 ((rd_T83 x0_1 x5_1).f2)):=hcc5 2 _ rfl
     have hf5_0 : wr.frozen? ⟨go5,(x5_1 : Int).toNat * 3,none⟩ = false:=hfr5 0
     have hf5_1 : wr.frozen? ⟨go5,(x5_1 : Int).toNat * 3 + 1,none⟩ = false:=hfr5 1
     have hf5_2 : wr.frozen? ⟨go5,(x5_1 : Int).toNat * 3 + 2,none⟩ = false:=hfr5 2
     clear hcl5 hcc5 hfr5 hM5
     replace p5:=eq_true p5
     replace q5:=eq_true q5
     have HX9:=mk_ (show Kd.R k83 83 wr w0.heap.size (fun k_ => (P0_ k_ ∨ w.heap.size ≤ k_)) (.slice (some ⟨go5,0,none⟩) x0_1.length co8) x0_1 from (qr_ HO_0))
     obtain ⟨ce9,hcl9,hM9,hcc9,hfr9⟩:=Kd.R_elem HX9.out z83 (x5_1 : Int) (od_ qa_) (by have h_ : (x5_1 : Int) < ((x0_1.length : Int) : Int):=od_ qa_;first|exact h_|(have e_:=(rr_ HO_0.out).1;omega)|simpa using h_)
     obtain rfl:=k83_openM hM9
     have HP9:=Kd.R_seg HX9.out (x5_1 : Int) (od_ qa_) (by have h_ : (x5_1 : Int) < ((x0_1.length : Int) : Int):=od_ qa_;first|exact h_|(have e_:=(rr_ HO_0.out).1;omega)|simpa using h_) (seg:=[.int .i64 x1_1]) (j:=0) hcl9 hcc9 (show 1 ≤ 3 from by decide) (x':=(⟨x1_1,(rd_T83 x0_1 x5_1).f1,(rd_T83 x0_1 x5_1).f2⟩ : S83)) (k83_mkM _ _ _ (⟨x1_1,(rd_T83 x0_1 x5_1).f1,(rd_T83 x0_1 x5_1).f2⟩ : S83) ) (fun _ hk => hk)
     have hx9_0:=hcc9 0 _ rfl
     (try simp only [show (k83).sz = 3 from rfl,Nat.mul_one,Nat.add_zero] at hx9_0)
     have hf9_0:=hfr9 0
     (try simp only [show (k83).sz = 3 from rfl,Nat.mul_one,Nat.add_zero] at hf9_0)
     clear hcl9 hcc9 hfr9 hM9
     go_wp2_with (first|((with_reducible refine gate_store (t:=3) (p:=16) rfl ?_);refine store_event (t:=3) (p:=16) (v:=?vo_w10) (w1:=(wr.setCell ⟨go5,(x5_1 : Int).toNat * 3,none⟩ (.int .i64 x1_1))) ?hg ?ho ?hn ?hr ?_;(case ho => rfl);(case hg => rfl);(case hn => rfl);(case hr => first|(go_simp;done)|(go_simp;rfl));intro w10 hw;have hg : wr.grownBy w10 (some go5):=(by rw [hw];exact HP9.2);have hp_ : Kd.R k83 83 w10 w0.heap.size (fun k_ => (P0_ k_ ∨ w.heap.size ≤ k_)) (.slice (some ⟨go5,0,none⟩) x0_1.length co8) y433:=(by rw [hw,Ny433.out];exact HP9.1);clear HP9;have n0_:=mk_ (hp_);have n1_:=mk_ ((by rw [hw];exact bs_ (HB.out) GB5.out : Below w0.heap.size w0 w10));have n2_:=mk_ (Kept.of_grown (S:=(fun k_ => P0_ k_)) hg (u4_ HK) (fun k_ e_ => (HO_0.out.1 k_ e_)));clear HO_0 HB HK;have HO_0:=n0_;have HB:=n1_;have HK:=n2_;clear n0_ n1_ n2_ hg hw hp_;have p6 : 0 ≤ (x5_1 : Int):=od_ qa_;have q6 : (x5_1 : Int) < ((x0_1.length : Int) : Int):=od_ qa_;obtain ⟨ce6,hcl6,hM6,hcc6,hfr6⟩:=Kd.R_elem HO_0.out z83 (x5_1 : Int) p6 q6;obtain rfl:=k83_openM hM6;have hx6_0 : w10.cell? ⟨go5,(x5_1 : Int).toNat * 3,none⟩ = some (.int .i64 ((rd_T83 y433 x5_1).f0)):=hcc6 0 _ rfl;have hx6_1 : w10.cell? ⟨go5,(x5_1 : Int).toNat * 3 + 1,none⟩ = some (.int .i64 ((rd_T83 y433 x5_1).f1)):=hcc6 1 _ rfl;have hx6_2 : w10.cell? ⟨go5,(x5_1 : Int).toNat * 3 + 2,none⟩ = some (.int .i64 ((rd_T83 y433 x5_1).f2)):=hcc6 2 _ rfl;have hf6_0 : w10.frozen? ⟨go5,(x5_1 : Int).toNat * 3,none⟩ = false:=hfr6 0;have hf6_1 : w10.frozen? ⟨go5,(x5_1 : Int).toNat * 3 + 1,none⟩ = false:=hfr6 1;have hf6_2 : w10.frozen? ⟨go5,(x5_1 : Int).toNat * 3 + 2,none⟩ = false:=hfr6 2;clear hcl6 hcc6 hfr6 hM6;replace p6:=eq_true p6;replace q6:=eq_true q6;have HX11:=mk_ (show Kd.R k83 83 w10 w0.heap.size (fun k_ => (P0_ k_ ∨ w.heap.size ≤ k_)) (.slice (some ⟨go5,0,none⟩) x0_1.length co8) y433 from (qr_ HO_0));obtain ⟨ce11,hcl11,hM11,hcc11,hfr11⟩:=Kd.R_elem HX11.out z83 (x5_1 : Int) (od_ qa_) (by have h_ : (x5_1 : Int) < ((x0_1.length : Int) : Int):=od_ qa_;first|exact h_|(have e_:=(rr_ HO_0.out).1;omega)|simpa using h_);obtain rfl:=k83_openM hM11;have HP11:=Kd.R_seg HX11.out (x5_1 : Int) (od_ qa_) (by have h_ : (x5_1 : Int) < ((x0_1.length : Int) : Int):=od_ qa_;first|exact h_|(have e_:=(rr_ HO_0.out).1;omega)|simpa using h_) (seg:=[.int .i64 (wrap64 (x1_1 + 1))]) (j:=1) hcl11 hcc11 (show 2 ≤ 3 from by decide) (x':=(⟨(rd_T83 y433 x5_1).f0,wrap64 (x1_1 + 1),(rd_T83 y433 x5_1).f2⟩ : S83)) (k83_mkM _ _ _ (⟨(rd_T83 y433 x5_1).f0,wrap64 (x1_1 + 1),(rd_T83 y433 x5_1).f2⟩ : S83) ) (fun _ hk => hk);have hx11_1:=hcc11 1 _ rfl;(try simp only [show (k83).sz = 3 from rfl,Nat.mul_one,Nat.add_zero] at hx11_1);have hf11_1:=hfr11 1;(try simp only [show (k83).sz = 3 from rfl,Nat.mul_one,Nat.add_zero] at hf11_1);clear hcl11 hcc11 hfr11 hM11)|((with_reducible refine gate_store (t:=3) (p:=23) rfl ?_);refine store_event (t:=3) (p:=23) (v:=?vo_w12) (w1:=(w10.setCell ⟨go5,(x5_1 : Int).toNat * 3 + 1,none⟩ (.int .i64 (wrap64 (x1_1 + 1))))) ?hg ?ho ?hn ?hr ?_;(case ho => rfl);(case hg => rfl);(case hn => rfl);(case hr => first|(go_simp;done)|(go_simp;rfl));intro w12 hw;have hg : w10.grownBy w12 (some go5):=(by rw [hw];exact HP11.2);have hp_ : Kd.R k83 83 w12 w0.heap.size (fun k_ => (P0_ k_ ∨ w.heap.size ≤ k_)) (.slice (some ⟨go5,0,none⟩) x0_1.length co8) y434:=(by rw [hw,Ny434.out];exact HP11.1);clear HP11;have n0_:=mk_ (hp_);have n1_:=mk_ ((by rw [hw];exact bs_ (HB.out) GB5.out : Below w0.heap.size w0 w12));have n2_:=mk_ (Kept.of_grown (S:=(fun k_ => P0_ k_)) hg (u4_ HK) (fun k_ e_ => (HO_0.out.1 k_ e_)));clear HO_0 HB HK;have HO_0:=n0_;have HB:=n1_;have HK:=n2_;clear n0_ n1_ n2_ hg hw hp_;have p7 : 0 ≤ (x5_1 : Int):=od_ qa_;have q7 : (x5_1 : Int) < ((x0_1.length : Int) : Int):=od_ qa_;obtain ⟨ce7,hcl7,hM7,hcc7,hfr7⟩:=Kd.R_elem HO_0.out z83 (x5_1 : Int) p7 q7;obtain rfl:=k83_openM hM7;have hx7_0 : w12.cell? ⟨go5,(x5_1 : Int).toNat * 3,none⟩ = some (.int .i64 ((rd_T83 y434 x5_1).f0)):=hcc7 0 _ rfl;have hx7_1 : w12.cell? ⟨go5,(x5_1 : Int).toNat * 3 + 1,none⟩ = some (.int .i64 ((rd_T83 y434 x5_1).f1)):=hcc7 1 _ rfl;have hx7_2 : w12.cell? ⟨go5,(x5_1 : Int).toNat * 3 + 2,none⟩ = some (.int .i64 ((rd_T83 y434 x5_1).f2)):=hcc7 2 _ rfl;have hf7_0 : w12.frozen? ⟨go5,(x5_1 : Int).toNat * 3,none⟩ = false:=hfr7 0;have hf7_1 : w12.frozen? ⟨go5,(x5_1 : Int).toNat * 3 + 1,none⟩ = false:=hfr7 1;have hf7_2 : w12.frozen? ⟨go5,(x5_1 : Int).toNat * 3 + 2,none⟩ = false:=hfr7 2;clear hcl7 hcc7 hfr7 hM7;replace p7:=eq_true p7;replace q7:=eq_true q7;have HX13:=mk_ (show Kd.R k83 83 w12 w0.heap.size (fun k_ => (P0_ k_ ∨ w.heap.size ≤ k_)) (.slice (some ⟨go5,0,none⟩) x0_1.length co8) y434 from (qr_ HO_0));obtain ⟨ce13,hcl13,hM13,hcc13,hfr13⟩:=Kd.R_elem HX13.out z83 (x5_1 : Int) (od_ qa_) (by have h_ : (x5_1 : Int) < ((x0_1.length : Int) : Int):=od_ qa_;first|exact h_|(have e_:=(rr_ HO_0.out).1;omega)|simpa using h_);obtain rfl:=k83_openM hM13;have HP13:=Kd.R_seg HX13.out (x5_1 : Int) (od_ qa_) (by have h_ : (x5_1 : Int) < ((x0_1.length : Int) : Int):=od_ qa_;first|exact h_|(have e_:=(rr_ HO_0.out).1;omega)|simpa using h_) (seg:=[.int .i64 (wrap64 ((wrap64 (x1_1 + 1)) + 1))]) (j:=2) hcl13 hcc13 (show 3 ≤ 3 from by decide) (x':=(⟨(rd_T83 y434 x5_1).f0,(rd_T83 y434 x5_1).f1,wrap64 ((wrap64 (x1_1 + 1)) + 1)⟩ : S83)) (k83_mkM _ _ _ (⟨(rd_T83 y434 x5_1).f0,(rd_T83 y434 x5_1).f1,wrap64 ((wrap64 (x1_1 + 1)) + 1)⟩ : S83) ) (fun _ hk => hk);have hx13_2:=hcc13 2 _ rfl;(try simp only [show (k83).sz = 3 from rfl,Nat.mul_one,Nat.add_zero] at hx13_2);have hf13_2:=hfr13 2;(try simp only [show (k83).sz = 3 from rfl,Nat.mul_one,Nat.add_zero] at hf13_2);clear hcl13 hcc13 hfr13 hM13)|((with_reducible refine gate_store (t:=3) (p:=30) rfl ?_);refine store_event (t:=3) (p:=30) (v:=?vo_w14) (w1:=(w12.setCell ⟨go5,(x5_1 : Int).toNat * 3 + 2,none⟩ (.int .i64 (wrap64 ((wrap64 (x1_1 + 1)) + 1))))) ?hg ?ho ?hn ?hr ?_;(case ho => rfl);(case hg => rfl);(case hn => rfl);(case hr => first|(go_simp;done)|(go_simp;rfl));intro w14 hw;have hg : w12.grownBy w14 (some go5):=(by rw [hw];exact HP13.2);have hp_ : Kd.R k83 83 w14 w0.heap.size (fun k_ => (P0_ k_ ∨ w.heap.size ≤ k_)) (.slice (some ⟨go5,0,none⟩) x0_1.length co8) y435:=(by rw [hw,Ny435.out];exact HP13.1);clear HP13;have n0_:=mk_ (hp_);have n1_:=mk_ ((by rw [hw];exact bs_ (HB.out) GB5.out : Below w0.heap.size w0 w14));have n2_:=mk_ (Kept.of_grown (S:=(fun k_ => P0_ k_)) hg (u4_ HK) (fun k_ e_ => (HO_0.out.1 k_ e_)));clear HO_0 HB HK;have HO_0:=n0_;have HB:=n1_;have HK:=n2_;clear n0_ n1_ n2_ hg hw hp_))
     go_roundg k1
     case measure => have:=HK1.out;omega
     case rel => exact ⟨(y435),(wrap64 ((wrap64 ((wrap64 (x1_1 + 1)) + 1)) + 1)),(wrap64 (x5_1 + 1)),qf_,qf_,H',⟨by have:=HK1.out;omega⟩,⟨qr_ HO_0⟩,⟨u4_ HK⟩,⟨u1_ HB⟩⟩
    ·rw [if_neg c4] at H
     exact absurd H (by simp)
   ·rw [if_neg c3] at H
    have c3b0 : decide (x5_1 < (x0_1.length : Int)) = false:=decide_eq_false c3
    clear c3
    simp only [Option.some.injEq,Prod.mk.injEq] at H
    obtain ⟨rfl,rfl⟩:=H
    obtain ⟨Ao15,co15,eo15⟩:=Kd.R_slice HO_0.out
    subst eo15
    go_wp2
    go_ret
    exact ⟨qe_,qr_ HO_0,u1_ HB,u4_ HK⟩

/-! ### laws_markIntS: function 57 -/
def laws_markIntS.l0 : Nat → List Int → Int → Int → Option (Int × List Int)
 | 0,_,_,_ => none
 | k + 1,x0,x1,x5 => if x5 < (x0.length : Int) then (if 0 ≤ x5 then (laws_markIntS.l0 k (x0.set (x5 : Int).toNat x1) (wrap64 (x1 + 1)) (wrap64 (x5 + 1))) else (none)) else (some (x1,x0))
def laws_markIntS.f (k : Nat) (l0 : List Int) (a1 : Int) : Option (Int × List Int):=laws_markIntS.l0 k l0 a1 0
theorem laws_markIntS.mono_l : ∀ k,(∀ y0 y1 y2,LeO (laws_markIntS.l0 k y0 y1 y2) (laws_markIntS.l0 (k + 1) y0 y1 y2))
 | 0 => fun _ _ _ r h => by simp [laws_markIntS.l0] at h
 | k + 1 => by
  have ih0:=laws_markIntS.mono_l k
  ·intro y0 y1 y2
   unfold laws_markIntS.l0
   repeat' first
   | (with_reducible exact ih0 _ _ _)
   | (with_reducible exact LeO.refl _)
   | (with_reducible exact LeO.none _)
   | (with_reducible refine LeO.ite ?_ ?_)
   | (with_reducible refine LeO.bind ?_ (fun _ => ?_))
   | exact ih0 _ _ _
   | exact LeO.none _
   | refine LeO.ite ?_ ?_
   | refine LeO.bind ?_ (fun _ => ?_)
theorem laws_markIntS.mono : ∀ a0 a1 k,LeO (laws_markIntS.f k a0 a1) (laws_markIntS.f (k + 1) a0 a1):=by
 intro a0 a1 k
 have ih0:=laws_markIntS.mono_l k
 unfold laws_markIntS.f
 repeat' first
   | (with_reducible exact ih0 _ _ _)
   | (with_reducible exact LeO.refl _)
   | (with_reducible exact LeO.none _)
   | (with_reducible refine LeO.ite ?_ ?_)
   | (with_reducible refine LeO.bind ?_ (fun _ => ?_))
   | exact ih0 _ _ _
   | exact LeO.none _
   | refine LeO.ite ?_ ?_
   | refine LeO.bind ?_ (fun _ => ?_)
set_option maxHeartbeats 8000000 in
set_option maxRecDepth 100000 in
theorem laws_markIntS.calls (k : Nat) (P0_ : Nat → Prop) (u9000_ : Value) (l0 : List Int) (a1 : Int) (r1 : Int) (r2 : List Int) (w0 w : World) (hB : Below w0.heap.size w0 w) (ho0 : Kd.R (Kd.int .i64) 3 w w0.heap.size P0_ u9000_ l0) (h : laws_markIntS.f k l0 a1 = some (r1,r2)) :
  Calls Try.prog 57 #[u9000_,.int .i64 a1] w fun e w' => e = .returned (.int .i64 r1) ∧ Kd.R (Kd.int .i64) 3 w' w0.heap.size (fun k_ => (P0_ k_ ∨ w.heap.size ≤ k_)) u9000_ r2 ∧ Below w0.heap.size w0 w' ∧ Kept w w' (fun k_ => P0_ k_):=by
 have HO0:=mk_ (show Kd.R (Kd.int .i64) 3 w w0.heap.size (fun k_ => (P0_ k_ ∨ w.heap.size ≤ k_)) u9000_ l0 from rm_ ho0 (fun k_ hk => (.inl hk)))
 have HK:=mk_ (Kept.refl w (fun k_ => P0_ k_))
 have HW0:=mk_ hB.size
 have HB:=mk_ hB
 clear hB
 have H : (laws_markIntS.l0 k l0 a1 0) = some (r1,r2):=h
 clear h
 have H':=mk_ H
 clear H
 go_enter Try.func57,Try.ntmps57
 go_wp2
 go_loopg [1,5] k (fun kq v1 v5 w' => ∃ (x0_1 : List Int) (x1_1 : Int) (x5_1 : Int),v1 = .int .i64 x1_1 ∧ v5 = .int .i64 x5_1 ∧ Aside0 (laws_markIntS.l0 kq x0_1 x1_1 x5_1 = some (r1,r2)) ∧ Aside0 (kq ≤ k) ∧ Aside0 (Kd.R (Kd.int .i64) 3 w' w0.heap.size (fun k_ => (P0_ k_ ∨ w.heap.size ≤ k_)) u9000_ x0_1) ∧ Aside0 (Kept w w' (fun k_ => P0_ k_)) ∧ Aside0 (Below w0.heap.size w0 w'))
 case atStart => exact ⟨(l0),(a1),(0),qf_,qf_,H',⟨Nat.le_refl _⟩,⟨qr_ HO0⟩,⟨u4_ HK⟩,⟨u1_ HB⟩⟩
 case round =>
  clear H'
  try clear p2
  obtain ⟨x0_1,x1_1,x5_1,rfl,rfl,HA,HK1,HO_0,HK,HB⟩:=hrel
  cases gk with
  | zero => exact absurd HA.out (by simp [laws_markIntS.l0])
  | succ k1 =>
   have H:=HA.out
   clear HA
   simp only [laws_markIntS.l0] at H
   by_cases c3 : x5_1 < (x0_1.length : Int)
   ·rw [if_pos c3] at H
    have c3b0 : decide (x5_1 < (x0_1.length : Int)) = true:=decide_eq_true c3
    clear c3
    by_cases c4 : 0 ≤ x5_1
    ·rw [if_pos c4] at H
     have c4b0 : decide (0 ≤ x5_1) = true:=decide_eq_true c4
     clear c4
     obtain ⟨y436,hy436⟩ : ∃ y_ : List Int,y_ = (x0_1.set (x5_1 : Int).toNat x1_1):=⟨_,rfl⟩
     replace H : (laws_markIntS.l0 k1 y436 (wrap64 (x1_1 + 1)) (wrap64 (x5_1 + 1))) = some (r1,r2):=by first|(rw [hy436];with_reducible exact H)|(have H2_:=(Option.bind_some _ _).symm.trans H;rw [hy436];with_reducible exact H2_)|(have H2_:=(Option.bind_some _ _).symm.trans H;with_reducible exact H2_)|with_reducible exact H|(rw [hy436];exact H)|exact H
     have Ny436:=mk_ hy436
     clear hy436
     have H':=mk_ H
     clear H
     obtain ⟨Ao6,co6,eo6⟩:=Kd.R_slice HO_0.out
     subst eo6
     have p5 : 0 ≤ (x5_1 : Int):=od_ qa_
     have q5 : (x5_1 : Int) < ((x0_1.length : Int) : Int):=od_ qa_
     obtain ⟨go5,co5,eo5,gb5,gl5,cl5,HG5⟩:=Kd.R_form HO_0.out (by omega)
     (first|cases eo5|(injection eo5 with ea_ en_ ec_;(first|subst ea_|(injection ea_ with ea_;subst ea_));subst ec_;clear en_))
     have GB5:=mk_ gb5
     have GG5:=mk_ HG5
     clear gb5 gl5 HG5
     have HMgo5:=mk_ (show (P0_ go5 ∨ w.heap.size ≤ go5) from (HO_0.out.1 _ rfl))
     obtain ⟨hx5_0,hf5_0⟩:=Kd.R_celln 0 HO_0.out (x5_1 : Int) p5 q5
     replace p5:=eq_true p5
     replace q5:=eq_true q5
     have HP7:=Kd.R_putg HO_0.out (x5_1 : Int) x1_1
     go_wp2_with (first|((with_reducible refine gate_store (t:=3) (p:=15) rfl ?_);refine store_event (t:=3) (p:=15) (v:=?vo_w8) (w1:=(wr.setCell ⟨go5,(x5_1 : Int).toNat,none⟩ (.int .i64 x1_1))) ?hg ?ho ?hn ?hr ?_;(case ho => rfl);(case hg => rfl);(case hn => rfl);(case hr => first|(go_simp;done)|(go_simp;rfl));intro w8 hw;have hg : wr.grownBy w8 (some go5):=(by rw [hw];exact HP7.2);have hp_ : Kd.R (Kd.int .i64) 3 w8 w0.heap.size (fun k_ => (P0_ k_ ∨ w.heap.size ≤ k_)) (.slice (some ⟨go5,0,none⟩) x0_1.length co6) y436:=(by rw [hw,Ny436.out];exact HP7.1);clear HP7;have n0_:=mk_ (hp_);have n1_:=mk_ ((by rw [hw];exact bs_ (HB.out) GB5.out : Below w0.heap.size w0 w8));have n2_:=mk_ (Kept.of_grown (S:=(fun k_ => P0_ k_)) hg (u4_ HK) (fun k_ e_ => (HO_0.out.1 k_ e_)));clear HO_0 HB HK;have HO_0:=n0_;have HB:=n1_;have HK:=n2_;clear n0_ n1_ n2_ hg hw hp_))
     go_roundg k1
     case measure => have:=HK1.out;omega
     case rel => exact ⟨(y436),(wrap64 (x1_1 + 1)),(wrap64 (x5_1 + 1)),qf_,qf_,H',⟨by have:=HK1.out;omega⟩,⟨qr_ HO_0⟩,⟨u4_ HK⟩,⟨u1_ HB⟩⟩
    ·rw [if_neg c4] at H
     exact absurd H (by simp)
   ·rw [if_neg c3] at H
    have c3b0 : decide (x5_1 < (x0_1.length : Int)) = false:=decide_eq_false c3
    clear c3
    simp only [Option.some.injEq,Prod.mk.injEq] at H
    obtain ⟨rfl,rfl⟩:=H
    obtain ⟨Ao9,co9,eo9⟩:=Kd.R_slice HO_0.out
    subst eo9
    go_wp2
    go_ret
    exact ⟨qe_,qr_ HO_0,u1_ HB,u4_ HK⟩

/-! ### laws_markNet: function 24 -/
def laws_markNet.f (k : Nat) (a0_0 : Int) (l0_1 : List (S83)) (l0_2 : List Int) (l0_3 : List Int) (a1 : Int) : Option (Int × (List (S83)) × List Int × List Int):=(laws_markCableS.f k l0_1 a1).bind fun bt438 => ((laws_markIntS.f k l0_2 bt438.1).bind fun bt440 => ((laws_markIntS.f k l0_3 bt440.1).bind fun bt442 => (some (bt442.1,bt438.2,bt440.2,bt442.2))))
theorem laws_markNet.mono : ∀ a0 a1 a2 a3 a4 k,LeO (laws_markNet.f k a0 a1 a2 a3 a4) (laws_markNet.f (k + 1) a0 a1 a2 a3 a4):=by
 intro a0 a1 a2 a3 a4 k
 unfold laws_markNet.f
 repeat' first
   | (with_reducible exact laws_markCableS.mono _ _ _)
   | (with_reducible exact laws_markIntS.mono _ _ _)
   | (with_reducible exact LeO.refl _)
   | (with_reducible exact LeO.none _)
   | (with_reducible refine LeO.ite ?_ ?_)
   | (with_reducible refine LeO.bind ?_ (fun _ => ?_))
   | exact laws_markCableS.mono _ _ _
   | exact laws_markIntS.mono _ _ _
   | exact LeO.none _
   | refine LeO.ite ?_ ?_
   | refine LeO.bind ?_ (fun _ => ?_)
set_option maxHeartbeats 8000000 in
set_option maxRecDepth 100000 in
theorem laws_markNet.calls (k : Nat) (a0_0 : Int) (P0_1_ : Nat → Prop) (u9000_ : Value) (l0_1 : List (S83)) (P0_2_ : Nat → Prop) (u9001_ : Value) (l0_2 : List Int) (P0_3_ : Nat → Prop) (u9002_ : Value) (l0_3 : List Int) (a1 : Int) (r1 : Int) (r2 : List (S83)) (r3 : List Int) (r4 : List Int) (w0 w : World) (hB : Below w0.heap.size w0 w) (ho0_1 : Kd.R k83 83 w w0.heap.size P0_1_ u9000_ l0_1) (ho0_2 : Kd.R (Kd.int .i64) 3 w w0.heap.size P0_2_ u9001_ l0_2) (hp0_2_0_3 : ∀ k_,P0_2_ k_ → ¬ P0_3_ k_) (ho0_3 : Kd.R (Kd.int .i64) 3 w w0.heap.size P0_3_ u9002_ l0_3) (hp0_3_0_2 : ∀ k_,P0_3_ k_ → ¬ P0_2_ k_) (h : laws_markNet.f k a0_0 l0_1 l0_2 l0_3 a1 = some (r1,r2,r3,r4)) :
  Calls Try.prog 24 #[.agg #[.int .i64 a0_0,u9000_,u9001_,u9002_],.int .i64 a1] w fun e w' => e = .returned (.int .i64 r1) ∧ Kd.R k83 83 w' w0.heap.size (fun k_ => ((P0_1_ k_ ∨ P0_2_ k_ ∨ P0_3_ k_) ∨ w.heap.size ≤ k_)) u9000_ r2 ∧ Kd.R (Kd.int .i64) 3 w' w0.heap.size (fun k_ => ((P0_1_ k_ ∨ P0_2_ k_ ∨ P0_3_ k_) ∨ w.heap.size ≤ k_)) u9001_ r3 ∧ Kd.R (Kd.int .i64) 3 w' w0.heap.size (fun k_ => ((P0_1_ k_ ∨ P0_2_ k_ ∨ P0_3_ k_) ∨ w.heap.size ≤ k_)) u9002_ r4 ∧ Below w0.heap.size w0 w' ∧ Kept w w' (fun k_ => P0_1_ k_ ∨ P0_2_ k_ ∨ P0_3_ k_):=by
 have hu26:=Try.underlying26
 have HO0_1:=mk_ (show Kd.R k83 83 w w0.heap.size (fun k_ => ((P0_1_ k_ ∨ P0_2_ k_ ∨ P0_3_ k_) ∨ w.heap.size ≤ k_)) u9000_ l0_1 from rm_ ho0_1 (fun k_ hk => (.inl (.inl hk))))
 have HO0_2:=mk_ (show Kd.R (Kd.int .i64) 3 w w0.heap.size (fun k_ => ((P0_1_ k_ ∨ P0_2_ k_ ∨ P0_3_ k_) ∨ w.heap.size ≤ k_) ∧ some k_ ≠ (u9002_ : Value).ownBlock) u9001_ l0_2 from rm_ ho0_2 (fun k_ hk => ⟨(.inl (.inr (.inl hk))),fun e_ => hp0_2_0_3 k_ hk (ho0_3.1 k_ e_.symm)⟩))
 have HO0_3:=mk_ (show Kd.R (Kd.int .i64) 3 w w0.heap.size (fun k_ => ((P0_1_ k_ ∨ P0_2_ k_ ∨ P0_3_ k_) ∨ w.heap.size ≤ k_) ∧ some k_ ≠ (u9001_ : Value).ownBlock) u9002_ l0_3 from rm_ ho0_3 (fun k_ hk => ⟨(.inl (.inr (.inr hk))),fun e_ => hp0_3_0_2 k_ hk (ho0_2.1 k_ e_.symm)⟩))
 have HK:=mk_ (Kept.refl w (fun k_ => P0_1_ k_ ∨ P0_2_ k_ ∨ P0_3_ k_))
 have HW0:=mk_ hB.size
 have HB:=mk_ hB
 clear hB
 have H : ((laws_markCableS.f k l0_1 a1).bind fun bt438 => ((laws_markIntS.f k l0_2 bt438.1).bind fun bt440 => ((laws_markIntS.f k l0_3 bt440.1).bind fun bt442 => (some (bt442.1,bt438.2,bt440.2,bt442.2))))) = some (r1,r2,r3,r4):=h
 clear h
 replace H:=Option.bind_eq_some_iff.mp H
 obtain ⟨⟨t438,t439⟩,A30,H⟩:=H
 replace H : ((laws_markIntS.f k l0_2 t438).bind fun bt440 => ((laws_markIntS.f k l0_3 bt440.1).bind fun bt442 => (some (bt442.1,t439,bt440.2,bt442.2)))) = some (r1,r2,r3,r4):=H
 have A3:=mk_ A30
 clear A30
 replace H:=Option.bind_eq_some_iff.mp H
 obtain ⟨⟨t440,t441⟩,A40,H⟩:=H
 replace H : ((laws_markIntS.f k l0_3 t440).bind fun bt442 => (some (bt442.1,t439,t441,bt442.2))) = some (r1,r2,r3,r4):=H
 have A4:=mk_ A40
 clear A40
 replace H:=Option.bind_eq_some_iff.mp H
 obtain ⟨⟨t442,t443⟩,A50,H⟩:=H
 replace H : (some (t442,t439,t441,t443)) = some (r1,r2,r3,r4):=H
 have A5:=mk_ A50
 clear A50
 simp only [Option.some.injEq,Prod.mk.injEq] at H
 obtain ⟨rfl,rfl,rfl,rfl⟩:=H
 obtain ⟨Ao6,co6,eo6⟩:=Kd.R_slice HO0_1.out
 subst eo6
 obtain ⟨Ao7,co7,eo7⟩:=Kd.R_slice HO0_2.out
 subst eo7
 obtain ⟨Ao8,co8,eo8⟩:=Kd.R_slice HO0_3.out
 subst eo8
 go_enter Try.func24,Try.ntmps24
 go_wp2_with (first|((with_reducible refine gate_dst (N:=2) rfl ?_);refine box_event ?hg (N:=2) ?hd (cs:=#[.int .i64 a0_0,.slice Ao6 l0_1.length co6,.slice Ao7 l0_2.length co7,.slice Ao8 l0_3.length co8]) (t:=26) ?hr ?_;(case hd => rfl);(case hg => rfl);(case hr => first|(go_simp;done)|(go_simp;rfl));intro gb437 hg w9 hbox hb;have n0_:=mk_ (rb_ (qr_ HO0_1) hb);have n1_:=mk_ (rb_ (qr_ HO0_2) hb);have n2_:=mk_ (rb_ (qr_ HO0_3) hb);have n3_:=mk_ (Kept.below (S:=(fun k_ => P0_1_ k_ ∨ P0_2_ k_ ∨ P0_3_ k_)) (u4_ HK) hb);have n4_:=mk_ (st_ (qb_ HB) hb);have n5_:=mk_ (hbox);have n6_:=mk_ ((by rw [hg];exact (by first|exact HK.out.1|exact (show Kept w _ (fun k_ => P0_1_ k_ ∨ P0_2_ k_ ∨ P0_3_ k_) from u4_ HK).1) : w.heap.size ≤ gb437));have n7_:=mk_ ((by rw [hg];exact (bz_ (qb_ HB)) : w0.heap.size ≤ gb437));clear HO0_1 HO0_2 HO0_3 HK HB;have HO0_1:=n0_;have HO0_2:=n1_;have HO0_3:=n2_;have HK:=n3_;have HB:=n4_;have BK437:=n5_;have GW437:=n6_;have GE437:=n7_;clear n0_ n1_ n2_ n3_ n4_ n5_ n6_ n7_ hb hbox hg;have hcz10_0 : w9.cell? ⟨gb437,0,none⟩ = some (.int .i64 a0_0):=(bc_ BK437.out 0).trans rfl;have hcz10_1 : w9.cell? ⟨gb437,1,none⟩ = some (.slice Ao6 l0_1.length co6):=(bc_ BK437.out 1).trans rfl;have hcz10_2 : w9.cell? ⟨gb437,2,none⟩ = some (.slice Ao7 l0_2.length co7):=(bc_ BK437.out 2).trans rfl;have hcz10_3 : w9.cell? ⟨gb437,3,none⟩ = some (.slice Ao8 l0_3.length co8):=(bc_ BK437.out 3).trans rfl;have hfz10_0:=bf_ BK437.out 0;have hfz10_1:=bf_ BK437.out 1;have hfz10_2:=bf_ BK437.out 2;have hfz10_3:=bf_ BK437.out 3)|((with_reducible refine gate_callee (f:=56) rfl ?_);refine goesL_ (some 8) rfl rfl Try.func56 (by kernel_rfl) rfl #[.slice Ao6 l0_1.length co6,.int .i64 a1] rfl qm_ ?_;(with_reducible refine (laws_markCableS.calls k (fun k_ => some k_ = (.slice Ao6 l0_1.length co6 : Value).ownBlock) (.slice Ao6 l0_1.length co6) l0_1 a1 t438 t439 w0 _ ?side1 ?side2 A3.out).mono ?_);(case side1 => exact u0_ HB GE437);(case side2 => exact Kd.R_tight rfl HO0_1.out);rintro e w11 ⟨rfl,hy0,hb,hkp⟩;refine ⟨_,rfl,?_⟩;have n0_:=mk_ (Kd.R_reok rfl hy0 (fun k_ e_ => HO0_1.out.1 k_ e_));have n1_:=mk_ (rm_ (ok':=fun k_ => ((P0_1_ k_ ∨ P0_2_ k_ ∨ P0_3_ k_) ∨ w.heap.size ≤ k_) ∧ some k_ ≠ (.slice Ao8 l0_3.length co8 : Value).ownBlock) (Kd.R_keptB ((Kd.R_apart' HO0_2.out (Kd.R_typed HO0_1.out) (by decide))) hkp (fun k_ hk_ hs_ => (hk_.2) hs_)) (fun k_ hk_ => ⟨hk_.1.1.1,hk_.1.1.2⟩));have n2_:=mk_ (rm_ (ok':=fun k_ => ((P0_1_ k_ ∨ P0_2_ k_ ∨ P0_3_ k_) ∨ w.heap.size ≤ k_) ∧ some k_ ≠ (.slice Ao7 l0_2.length co7 : Value).ownBlock) (Kd.R_keptB ((Kd.R_apart' HO0_3.out (Kd.R_typed HO0_1.out) (by decide))) hkp (fun k_ hk_ hs_ => (hk_.2) hs_)) (fun k_ hk_ => ⟨hk_.1.1.1,hk_.1.1.2⟩));have n3_:=mk_ (blk_kept (qk_ BK437) hkp (fun hs_ => (fun e_ => (Kd.R_ne HO0_1.out BK437.out (by decide)) e_) hs_));have n4_:=mk_ (Kept.then_ (S:=(fun k_ => P0_1_ k_ ∨ P0_2_ k_ ∨ P0_3_ k_)) (u5_ HK GW437) hkp (fun k_ hs_ => (fun e_ => (HO0_1.out.1 k_ e_.symm)) hs_));have n5_:=mk_ (hb);clear HO0_1 HO0_2 HO0_3 BK437 HK HB;have HO0_1:=n0_;have HO0_2:=n1_;have HO0_3:=n2_;have BK437:=n3_;have HK:=n4_;have HB:=n5_;clear n0_ n1_ n2_ n3_ n4_ n5_;(try clear hb);(try clear hkp);(try clear hy0);have hcz12_0 : w11.cell? ⟨gb437,0,none⟩ = some (.int .i64 a0_0):=(bc_ BK437.out 0).trans rfl;have hcz12_1 : w11.cell? ⟨gb437,1,none⟩ = some (.slice Ao6 l0_1.length co6):=(bc_ BK437.out 1).trans rfl;have hcz12_2 : w11.cell? ⟨gb437,2,none⟩ = some (.slice Ao7 l0_2.length co7):=(bc_ BK437.out 2).trans rfl;have hcz12_3 : w11.cell? ⟨gb437,3,none⟩ = some (.slice Ao8 l0_3.length co8):=(bc_ BK437.out 3).trans rfl;have hfz12_0:=bf_ BK437.out 0;have hfz12_1:=bf_ BK437.out 1;have hfz12_2:=bf_ BK437.out 2;have hfz12_3:=bf_ BK437.out 3)|((with_reducible refine gate_callee (f:=57) rfl ?_);refine goesL_ (some 12) rfl rfl Try.func57 (by kernel_rfl) rfl #[.slice Ao7 l0_2.length co7,.int .i64 t438] rfl qm_ ?_;(with_reducible refine (laws_markIntS.calls k (fun k_ => some k_ = (.slice Ao7 l0_2.length co7 : Value).ownBlock) (.slice Ao7 l0_2.length co7) l0_2 t438 t440 t441 w0 _ ?side1 ?side2 A4.out).mono ?_);(case side1 => exact u0_ HB GE437);(case side2 => exact Kd.R_tight rfl HO0_2.out);rintro e w13 ⟨rfl,hy0,hb,hkp⟩;refine ⟨_,rfl,?_⟩;have n0_:=mk_ (rm_ (ok':=fun k_ => ((P0_1_ k_ ∨ P0_2_ k_ ∨ P0_3_ k_) ∨ w.heap.size ≤ k_)) (Kd.R_keptB ((Kd.R_apart' HO0_1.out (Kd.R_typed HO0_2.out) (by decide))) hkp (fun k_ hk_ hs_ => (hk_.2) hs_)) (fun k_ hk_ => hk_.1.1));have n1_:=mk_ (Kd.R_reok rfl hy0 (fun k_ e_ => HO0_2.out.1 k_ e_));have n2_:=mk_ (rm_ (ok':=fun k_ => ((P0_1_ k_ ∨ P0_2_ k_ ∨ P0_3_ k_) ∨ w.heap.size ≤ k_) ∧ some k_ ≠ (.slice Ao7 l0_2.length co7 : Value).ownBlock) (Kd.R_keptB (HO0_3.out) hkp (fun k_ hk_ hs_ => (hk_.2) hs_)) (fun k_ hk_ => ⟨hk_.1.1,hk_.1.2⟩));have n3_:=mk_ (blk_kept (qk_ BK437) hkp (fun hs_ => (fun e_ => (Kd.R_ne HO0_2.out BK437.out (by decide)) e_) hs_));have n4_:=mk_ (Kept.then_ (S:=(fun k_ => P0_1_ k_ ∨ P0_2_ k_ ∨ P0_3_ k_)) (u5_ HK GW437) hkp (fun k_ hs_ => (fun e_ => (HO0_2.out.1 k_ e_.symm).1) hs_));have n5_:=mk_ (hb);clear HO0_1 HO0_2 HO0_3 BK437 HK HB;have HO0_1:=n0_;have HO0_2:=n1_;have HO0_3:=n2_;have BK437:=n3_;have HK:=n4_;have HB:=n5_;clear n0_ n1_ n2_ n3_ n4_ n5_;(try clear hb);(try clear hkp);(try clear hy0);have hcz14_0 : w13.cell? ⟨gb437,0,none⟩ = some (.int .i64 a0_0):=(bc_ BK437.out 0).trans rfl;have hcz14_1 : w13.cell? ⟨gb437,1,none⟩ = some (.slice Ao6 l0_1.length co6):=(bc_ BK437.out 1).trans rfl;have hcz14_2 : w13.cell? ⟨gb437,2,none⟩ = some (.slice Ao7 l0_2.length co7):=(bc_ BK437.out 2).trans rfl;have hcz14_3 : w13.cell? ⟨gb437,3,none⟩ = some (.slice Ao8 l0_3.length co8):=(bc_ BK437.out 3).trans rfl;have hfz14_0:=bf_ BK437.out 0;have hfz14_1:=bf_ BK437.out 1;have hfz14_2:=bf_ BK437.out 2;have hfz14_3:=bf_ BK437.out 3)|((with_reducible refine gate_callee (f:=57) rfl ?_);refine goesL_ (some 16) rfl rfl Try.func57 (by kernel_rfl) rfl #[.slice Ao8 l0_3.length co8,.int .i64 t440] rfl qm_ ?_;(with_reducible refine (laws_markIntS.calls k (fun k_ => some k_ = (.slice Ao8 l0_3.length co8 : Value).ownBlock) (.slice Ao8 l0_3.length co8) l0_3 t440 t442 t443 w0 _ ?side1 ?side2 A5.out).mono ?_);(case side1 => exact u0_ HB GE437);(case side2 => exact Kd.R_tight rfl HO0_3.out);rintro e w15 ⟨rfl,hy0,hb,hkp⟩;refine ⟨_,rfl,?_⟩;have n0_:=mk_ (rm_ (ok':=fun k_ => ((P0_1_ k_ ∨ P0_2_ k_ ∨ P0_3_ k_) ∨ w.heap.size ≤ k_)) (Kd.R_keptB ((Kd.R_apart' HO0_1.out (Kd.R_typed HO0_3.out) (by decide))) hkp (fun k_ hk_ hs_ => (hk_.2) hs_)) (fun k_ hk_ => hk_.1.1));have n1_:=mk_ (rm_ (ok':=fun k_ => ((P0_1_ k_ ∨ P0_2_ k_ ∨ P0_3_ k_) ∨ w.heap.size ≤ k_) ∧ some k_ ≠ (.slice Ao8 l0_3.length co8 : Value).ownBlock) (Kd.R_keptB (HO0_2.out) hkp (fun k_ hk_ hs_ => (hk_.2) hs_)) (fun k_ hk_ => ⟨hk_.1.1,hk_.1.2⟩));have n2_:=mk_ (Kd.R_reok rfl hy0 (fun k_ e_ => HO0_3.out.1 k_ e_));have n3_:=mk_ (blk_kept (qk_ BK437) hkp (fun hs_ => (fun e_ => (Kd.R_ne HO0_3.out BK437.out (by decide)) e_) hs_));have n4_:=mk_ (Kept.then_ (S:=(fun k_ => P0_1_ k_ ∨ P0_2_ k_ ∨ P0_3_ k_)) (u5_ HK GW437) hkp (fun k_ hs_ => (fun e_ => (HO0_3.out.1 k_ e_.symm).1) hs_));have n5_:=mk_ (hb);clear HO0_1 HO0_2 HO0_3 BK437 HK HB;have HO0_1:=n0_;have HO0_2:=n1_;have HO0_3:=n2_;have BK437:=n3_;have HK:=n4_;have HB:=n5_;clear n0_ n1_ n2_ n3_ n4_ n5_;(try clear hb);(try clear hkp);(try clear hy0)))
 go_ret
 exact ⟨qe_,qr_ HO0_1,by (with_reducible repeat (first|apply ra_|apply rn_|apply rd_));exact rm_ HO0_2.out (fun _ hk => hk.1),by (with_reducible repeat (first|apply ra_|apply rn_|apply rd_));exact rm_ HO0_3.out (fun _ hk => hk.1),u0_ HB GE437,u5_ HK GW437⟩

/-! ### laws_markHopS: function 25 -/
def laws_markHopS.l0 : Nat → List (S37) → Int → Int → Option (Int × (List (S37)))
 | 0,_,_,_ => none
 | k + 1,x0,x1,x5 => if x5 < (x0.length : Int) then (if 0 ≤ x5 then ((some (x0.set (x5 : Int).toNat (⟨x1,(rd_T37 x0 x5).f1,(rd_T37 x0 x5).f2⟩ : S37) : List (S37))).bind fun y444 => ((some (y444.set (x5 : Int).toNat (⟨(rd_T37 y444 x5).f0,wrap64 (x1 + 1),(rd_T37 y444 x5).f2⟩ : S37) : List (S37))).bind fun y445 => (laws_markHopS.l0 k (y445.set (x5 : Int).toNat (⟨(rd_T37 y445 x5).f0,(rd_T37 y445 x5).f1,wrap64 ((wrap64 (x1 + 1)) + 1)⟩ : S37)) (wrap64 ((wrap64 ((wrap64 (x1 + 1)) + 1)) + 1)) (wrap64 (x5 + 1))))) else (none)) else (some (x1,x0))
def laws_markHopS.f (k : Nat) (l0 : List (S37)) (a1 : Int) : Option (Int × (List (S37))):=laws_markHopS.l0 k l0 a1 0
theorem laws_markHopS.mono_l : ∀ k,(∀ y0 y1 y2,LeO (laws_markHopS.l0 k y0 y1 y2) (laws_markHopS.l0 (k + 1) y0 y1 y2))
 | 0 => fun _ _ _ r h => by simp [laws_markHopS.l0] at h
 | k + 1 => by
  have ih0:=laws_markHopS.mono_l k
  ·intro y0 y1 y2
   unfold laws_markHopS.l0
   repeat' first
   | (with_reducible exact ih0 _ _ _)
   | (with_reducible exact LeO.refl _)
   | (with_reducible exact LeO.none _)
   | (with_reducible refine LeO.ite ?_ ?_)
   | (with_reducible refine LeO.bind ?_ (fun _ => ?_))
   | exact ih0 _ _ _
   | exact LeO.none _
   | refine LeO.ite ?_ ?_
   | refine LeO.bind ?_ (fun _ => ?_)
theorem laws_markHopS.mono : ∀ a0 a1 k,LeO (laws_markHopS.f k a0 a1) (laws_markHopS.f (k + 1) a0 a1):=by
 intro a0 a1 k
 have ih0:=laws_markHopS.mono_l k
 unfold laws_markHopS.f
 repeat' first
   | (with_reducible exact ih0 _ _ _)
   | (with_reducible exact LeO.refl _)
   | (with_reducible exact LeO.none _)
   | (with_reducible refine LeO.ite ?_ ?_)
   | (with_reducible refine LeO.bind ?_ (fun _ => ?_))
   | exact ih0 _ _ _
   | exact LeO.none _
   | refine LeO.ite ?_ ?_
   | refine LeO.bind ?_ (fun _ => ?_)
set_option maxHeartbeats 8000000 in
set_option maxRecDepth 100000 in
theorem laws_markHopS.calls (k : Nat) (P0_ : Nat → Prop) (u9000_ : Value) (l0 : List (S37)) (a1 : Int) (r1 : Int) (r2 : List (S37)) (w0 w : World) (hB : Below w0.heap.size w0 w) (ho0 : Kd.R k37 37 w w0.heap.size P0_ u9000_ l0) (h : laws_markHopS.f k l0 a1 = some (r1,r2)) :
  Calls Try.prog 25 #[u9000_,.int .i64 a1] w fun e w' => e = .returned (.int .i64 r1) ∧ Kd.R k37 37 w' w0.heap.size (fun k_ => (P0_ k_ ∨ w.heap.size ≤ k_)) u9000_ r2 ∧ Below w0.heap.size w0 w' ∧ Kept w w' (fun k_ => P0_ k_):=by
 have HO0:=mk_ (show Kd.R k37 37 w w0.heap.size (fun k_ => (P0_ k_ ∨ w.heap.size ≤ k_)) u9000_ l0 from rm_ ho0 (fun k_ hk => (.inl hk)))
 have HK:=mk_ (Kept.refl w (fun k_ => P0_ k_))
 have HW0:=mk_ hB.size
 have HB:=mk_ hB
 clear hB
 have H : (laws_markHopS.l0 k l0 a1 0) = some (r1,r2):=h
 clear h
 have H':=mk_ H
 clear H
 go_enter Try.func25,Try.ntmps25
 go_wp2
 go_loopg [1,5] k (fun kq v1 v5 w' => ∃ (x0_1 : List (S37)) (x1_1 : Int) (x5_1 : Int),v1 = .int .i64 x1_1 ∧ v5 = .int .i64 x5_1 ∧ Aside0 (laws_markHopS.l0 kq x0_1 x1_1 x5_1 = some (r1,r2)) ∧ Aside0 (kq ≤ k) ∧ Aside0 (Kd.R k37 37 w' w0.heap.size (fun k_ => (P0_ k_ ∨ w.heap.size ≤ k_)) u9000_ x0_1) ∧ Aside0 (Kept w w' (fun k_ => P0_ k_)) ∧ Aside0 (Below w0.heap.size w0 w'))
 case atStart => exact ⟨(l0),(a1),(0),qf_,qf_,H',⟨Nat.le_refl _⟩,⟨qr_ HO0⟩,⟨u4_ HK⟩,⟨u1_ HB⟩⟩
 case round =>
  clear H'
  try clear c2
  try clear p2
  obtain ⟨x0_1,x1_1,x5_1,rfl,rfl,HA,HK1,HO_0,HK,HB⟩:=hrel
  cases gk with
  | zero => exact absurd HA.out (by simp [laws_markHopS.l0])
  | succ k1 =>
   have H:=HA.out
   clear HA
   simp only [laws_markHopS.l0] at H
   by_cases c3 : x5_1 < (x0_1.length : Int)
   ·rw [if_pos c3] at H
    have c3b0 : decide (x5_1 < (x0_1.length : Int)) = true:=decide_eq_true c3
    clear c3
    by_cases c4 : 0 ≤ x5_1
    ·rw [if_pos c4] at H
     have c4b0 : decide (0 ≤ x5_1) = true:=decide_eq_true c4
     clear c4
     obtain ⟨y444,hy444⟩ : ∃ y_ : List (S37),y_ = (x0_1.set (x5_1 : Int).toNat (⟨x1_1,(rd_T37 x0_1 x5_1).f1,(rd_T37 x0_1 x5_1).f2⟩ : S37)):=⟨_,rfl⟩
     replace H : ((some (y444.set (x5_1 : Int).toNat (⟨(rd_T37 y444 x5_1).f0,wrap64 (x1_1 + 1),(rd_T37 y444 x5_1).f2⟩ : S37) : List (S37))).bind fun y445 => (laws_markHopS.l0 k1 (y445.set (x5_1 : Int).toNat (⟨(rd_T37 y445 x5_1).f0,(rd_T37 y445 x5_1).f1,wrap64 ((wrap64 (x1_1 + 1)) + 1)⟩ : S37)) (wrap64 ((wrap64 ((wrap64 (x1_1 + 1)) + 1)) + 1)) (wrap64 (x5_1 + 1)))) = some (r1,r2):=by first|(rw [hy444];with_reducible exact H)|(have H2_:=(Option.bind_some _ _).symm.trans H;rw [hy444];with_reducible exact H2_)|(have H2_:=(Option.bind_some _ _).symm.trans H;with_reducible exact H2_)|with_reducible exact H|(rw [hy444];exact H)|exact H
     have Ny444:=mk_ hy444
     clear hy444
     obtain ⟨y445,hy445⟩ : ∃ y_ : List (S37),y_ = (y444.set (x5_1 : Int).toNat (⟨(rd_T37 y444 x5_1).f0,wrap64 (x1_1 + 1),(rd_T37 y444 x5_1).f2⟩ : S37)):=⟨_,rfl⟩
     replace H : (laws_markHopS.l0 k1 (y445.set (x5_1 : Int).toNat (⟨(rd_T37 y445 x5_1).f0,(rd_T37 y445 x5_1).f1,wrap64 ((wrap64 (x1_1 + 1)) + 1)⟩ : S37)) (wrap64 ((wrap64 ((wrap64 (x1_1 + 1)) + 1)) + 1)) (wrap64 (x5_1 + 1))) = some (r1,r2):=by first|(rw [hy445];with_reducible exact H)|(have H2_:=(Option.bind_some _ _).symm.trans H;rw [hy445];with_reducible exact H2_)|(have H2_:=(Option.bind_some _ _).symm.trans H;with_reducible exact H2_)|with_reducible exact H|(rw [hy445];exact H)|exact H
     have Ny445:=mk_ hy445
     clear hy445
     obtain ⟨y446,hy446⟩ : ∃ y_ : List (S37),y_ = (y445.set (x5_1 : Int).toNat (⟨(rd_T37 y445 x5_1).f0,(rd_T37 y445 x5_1).f1,wrap64 ((wrap64 (x1_1 + 1)) + 1)⟩ : S37)):=⟨_,rfl⟩
     replace H : (laws_markHopS.l0 k1 y446 (wrap64 ((wrap64 ((wrap64 (x1_1 + 1)) + 1)) + 1)) (wrap64 (x5_1 + 1))) = some (r1,r2):=by first|(rw [hy446];with_reducible exact H)|(have H2_:=(Option.bind_some _ _).symm.trans H;rw [hy446];with_reducible exact H2_)|(have H2_:=(Option.bind_some _ _).symm.trans H;with_reducible exact H2_)|with_reducible exact H|(rw [hy446];exact H)|exact H
     have Ny446:=mk_ hy446
     clear hy446
     have H':=mk_ H
     clear H
     obtain ⟨Ao8,co8,eo8⟩:=Kd.R_slice HO_0.out
     subst eo8
     have p5 : 0 ≤ (x5_1 : Int):=od_ qa_
     have q5 : (x5_1 : Int) < ((x0_1.length : Int) : Int):=od_ qa_
     obtain ⟨go5,co5,eo5,gb5,gl5,cl5,HG5⟩:=Kd.R_form HO_0.out (by omega)
     (first|cases eo5|(injection eo5 with ea_ en_ ec_;(first|subst ea_|(injection ea_ with ea_;subst ea_));subst ec_;clear en_))
     have GB5:=mk_ gb5
     have GG5:=mk_ HG5
     clear gb5 gl5 HG5
     have HMgo5:=mk_ (show (P0_ go5 ∨ w.heap.size ≤ go5) from (HO_0.out.1 _ rfl))
     obtain ⟨ce5,hcl5,hM5,hcc5,hfr5⟩:=Kd.R_elem HO_0.out z37 (x5_1 : Int) p5 q5
     obtain rfl:=k37_openM hM5
     have hx5_0 : wr.cell? ⟨go5,(x5_1 : Int).toNat * 3,none⟩ = some (.int .i64 ((rd_T37 x0_1 x5_1).f0)):=hcc5 0 _ rfl
     have hx5_1 : wr.cell? ⟨go5,(x5_1 : Int).toNat * 3 + 1,none⟩ = some (.int .i64 ((rd_T37 x0_1 x5_1).f1)):=hcc5 1 _ rfl
     have hx5_2 : wr.cell? ⟨go5,(x5_1 : Int).toNat * 3 + 2,none⟩ = some (.int .i64 ((rd_T37 x0_1 x5_1).f2)):=hcc5 2 _ rfl
     have hf5_0 : wr.frozen? ⟨go5,(x5_1 : Int).toNat * 3,none⟩ = false:=hfr5 0
     have hf5_1 : wr.frozen? ⟨go5,(x5_1 : Int).toNat * 3 + 1,none⟩ = false:=hfr5 1
     have hf5_2 : wr.frozen? ⟨go5,(x5_1 : Int).toNat * 3 + 2,none⟩ = false:=hfr5 2
     clear hcl5 hcc5 hfr5 hM5
     replace p5:=eq_true p5
     replace q5:=eq_true q5
     have HX9:=mk_ (show Kd.R k37 37 wr w0.heap.size (fun k_ => (P0_ k_ ∨ w.heap.size ≤ k_)) (.slice (some ⟨go5,0,none⟩) x0_1.length co8) x0_1 from (qr_ HO_0))
     obtain ⟨ce9,hcl9,hM9,hcc9,hfr9⟩:=Kd.R_elem HX9.out z37 (x5_1 : Int) (od_ qa_) (by have h_ : (x5_1 : Int) < ((x0_1.length : Int) : Int):=od_ qa_;first|exact h_|(have e_:=(rr_ HO_0.out).1;omega)|simpa using h_)
     obtain rfl:=k37_openM hM9
     have HP9:=Kd.R_seg HX9.out (x5_1 : Int) (od_ qa_) (by have h_ : (x5_1 : Int) < ((x0_1.length : Int) : Int):=od_ qa_;first|exact h_|(have e_:=(rr_ HO_0.out).1;omega)|simpa using h_) (seg:=[.int .i64 x1_1]) (j:=0) hcl9 hcc9 (show 1 ≤ 3 from by decide) (x':=(⟨x1_1,(rd_T37 x0_1 x5_1).f1,(rd_T37 x0_1 x5_1).f2⟩ : S37)) (k37_mkM _ _ _ (⟨x1_1,(rd_T37 x0_1 x5_1).f1,(rd_T37 x0_1 x5_1).f2⟩ : S37) ) (fun _ hk => hk)
     have hx9_0:=hcc9 0 _ rfl
     (try simp only [show (k37).sz = 3 from rfl,Nat.mul_one,Nat.add_zero] at hx9_0)
     have hf9_0:=hfr9 0
     (try simp only [show (k37).sz = 3 from rfl,Nat.mul_one,Nat.add_zero] at hf9_0)
     clear hcl9 hcc9 hfr9 hM9
     go_wp2_with (first|((with_reducible refine gate_store (t:=3) (p:=16) rfl ?_);refine store_event (t:=3) (p:=16) (v:=?vo_w10) (w1:=(wr.setCell ⟨go5,(x5_1 : Int).toNat * 3,none⟩ (.int .i64 x1_1))) ?hg ?ho ?hn ?hr ?_;(case ho => rfl);(case hg => rfl);(case hn => rfl);(case hr => first|(go_simp;done)|(go_simp;rfl));intro w10 hw;have hg : wr.grownBy w10 (some go5):=(by rw [hw];exact HP9.2);have hp_ : Kd.R k37 37 w10 w0.heap.size (fun k_ => (P0_ k_ ∨ w.heap.size ≤ k_)) (.slice (some ⟨go5,0,none⟩) x0_1.length co8) y444:=(by rw [hw,Ny444.out];exact HP9.1);clear HP9;have n0_:=mk_ (hp_);have n1_:=mk_ ((by rw [hw];exact bs_ (HB.out) GB5.out : Below w0.heap.size w0 w10));have n2_:=mk_ (Kept.of_grown (S:=(fun k_ => P0_ k_)) hg (u4_ HK) (fun k_ e_ => (HO_0.out.1 k_ e_)));clear HO_0 HB HK;have HO_0:=n0_;have HB:=n1_;have HK:=n2_;clear n0_ n1_ n2_ hg hw hp_;have p6 : 0 ≤ (x5_1 : Int):=od_ qa_;have q6 : (x5_1 : Int) < ((x0_1.length : Int) : Int):=od_ qa_;obtain ⟨ce6,hcl6,hM6,hcc6,hfr6⟩:=Kd.R_elem HO_0.out z37 (x5_1 : Int) p6 q6;obtain rfl:=k37_openM hM6;have hx6_0 : w10.cell? ⟨go5,(x5_1 : Int).toNat * 3,none⟩ = some (.int .i64 ((rd_T37 y444 x5_1).f0)):=hcc6 0 _ rfl;have hx6_1 : w10.cell? ⟨go5,(x5_1 : Int).toNat * 3 + 1,none⟩ = some (.int .i64 ((rd_T37 y444 x5_1).f1)):=hcc6 1 _ rfl;have hx6_2 : w10.cell? ⟨go5,(x5_1 : Int).toNat * 3 + 2,none⟩ = some (.int .i64 ((rd_T37 y444 x5_1).f2)):=hcc6 2 _ rfl;have hf6_0 : w10.frozen? ⟨go5,(x5_1 : Int).toNat * 3,none⟩ = false:=hfr6 0;have hf6_1 : w10.frozen? ⟨go5,(x5_1 : Int).toNat * 3 + 1,none⟩ = false:=hfr6 1;have hf6_2 : w10.frozen? ⟨go5,(x5_1 : Int).toNat * 3 + 2,none⟩ = false:=hfr6 2;clear hcl6 hcc6 hfr6 hM6;replace p6:=eq_true p6;replace q6:=eq_true q6;have HX11:=mk_ (show Kd.R k37 37 w10 w0.heap.size (fun k_ => (P0_ k_ ∨ w.heap.size ≤ k_)) (.slice (some ⟨go5,0,none⟩) x0_1.length co8) y444 from (qr_ HO_0));obtain ⟨ce11,hcl11,hM11,hcc11,hfr11⟩:=Kd.R_elem HX11.out z37 (x5_1 : Int) (od_ qa_) (by have h_ : (x5_1 : Int) < ((x0_1.length : Int) : Int):=od_ qa_;first|exact h_|(have e_:=(rr_ HO_0.out).1;omega)|simpa using h_);obtain rfl:=k37_openM hM11;have HP11:=Kd.R_seg HX11.out (x5_1 : Int) (od_ qa_) (by have h_ : (x5_1 : Int) < ((x0_1.length : Int) : Int):=od_ qa_;first|exact h_|(have e_:=(rr_ HO_0.out).1;omega)|simpa using h_) (seg:=[.int .i64 (wrap64 (x1_1 + 1))]) (j:=1) hcl11 hcc11 (show 2 ≤ 3 from by decide) (x':=(⟨(rd_T37 y444 x5_1).f0,wrap64 (x1_1 + 1),(rd_T37 y444 x5_1).f2⟩ : S37)) (k37_mkM _ _ _ (⟨(rd_T37 y444 x5_1).f0,wrap64 (x1_1 + 1),(rd_T37 y444 x5_1).f2⟩ : S37) ) (fun _ hk => hk);have hx11_1:=hcc11 1 _ rfl;(try simp only [show (k37).sz = 3 from rfl,Nat.mul_one,Nat.add_zero] at hx11_1);have hf11_1:=hfr11 1;(try simp only [show (k37).sz = 3 from rfl,Nat.mul_one,Nat.add_zero] at hf11_1);clear hcl11 hcc11 hfr11 hM11)|((with_reducible refine gate_store (t:=3) (p:=23) rfl ?_);refine store_event (t:=3) (p:=23) (v:=?vo_w12) (w1:=(w10.setCell ⟨go5,(x5_1 : Int).toNat * 3 + 1,none⟩ (.int .i64 (wrap64 (x1_1 + 1))))) ?hg ?ho ?hn ?hr ?_;(case ho => rfl);(case hg => rfl);(case hn => rfl);(case hr => first|(go_simp;done)|(go_simp;rfl));intro w12 hw;have hg : w10.grownBy w12 (some go5):=(by rw [hw];exact HP11.2);have hp_ : Kd.R k37 37 w12 w0.heap.size (fun k_ => (P0_ k_ ∨ w.heap.size ≤ k_)) (.slice (some ⟨go5,0,none⟩) x0_1.length co8) y445:=(by rw [hw,Ny445.out];exact HP11.1);clear HP11;have n0_:=mk_ (hp_);have n1_:=mk_ ((by rw [hw];exact bs_ (HB.out) GB5.out : Below w0.heap.size w0 w12));have n2_:=mk_ (Kept.of_grown (S:=(fun k_ => P0_ k_)) hg (u4_ HK) (fun k_ e_ => (HO_0.out.1 k_ e_)));clear HO_0 HB HK;have HO_0:=n0_;have HB:=n1_;have HK:=n2_;clear n0_ n1_ n2_ hg hw hp_;have p7 : 0 ≤ (x5_1 : Int):=od_ qa_;have q7 : (x5_1 : Int) < ((x0_1.length : Int) : Int):=od_ qa_;obtain ⟨ce7,hcl7,hM7,hcc7,hfr7⟩:=Kd.R_elem HO_0.out z37 (x5_1 : Int) p7 q7;obtain rfl:=k37_openM hM7;have hx7_0 : w12.cell? ⟨go5,(x5_1 : Int).toNat * 3,none⟩ = some (.int .i64 ((rd_T37 y445 x5_1).f0)):=hcc7 0 _ rfl;have hx7_1 : w12.cell? ⟨go5,(x5_1 : Int).toNat * 3 + 1,none⟩ = some (.int .i64 ((rd_T37 y445 x5_1).f1)):=hcc7 1 _ rfl;have hx7_2 : w12.cell? ⟨go5,(x5_1 : Int).toNat * 3 + 2,none⟩ = some (.int .i64 ((rd_T37 y445 x5_1).f2)):=hcc7 2 _ rfl;have hf7_0 : w12.frozen? ⟨go5,(x5_1 : Int).toNat * 3,none⟩ = false:=hfr7 0;have hf7_1 : w12.frozen? ⟨go5,(x5_1 : Int).toNat * 3 + 1,none⟩ = false:=hfr7 1;have hf7_2 : w12.frozen? ⟨go5,(x5_1 : Int).toNat * 3 + 2,none⟩ = false:=hfr7 2;clear hcl7 hcc7 hfr7 hM7;replace p7:=eq_true p7;replace q7:=eq_true q7;have HX13:=mk_ (show Kd.R k37 37 w12 w0.heap.size (fun k_ => (P0_ k_ ∨ w.heap.size ≤ k_)) (.slice (some ⟨go5,0,none⟩) x0_1.length co8) y445 from (qr_ HO_0));obtain ⟨ce13,hcl13,hM13,hcc13,hfr13⟩:=Kd.R_elem HX13.out z37 (x5_1 : Int) (od_ qa_) (by have h_ : (x5_1 : Int) < ((x0_1.length : Int) : Int):=od_ qa_;first|exact h_|(have e_:=(rr_ HO_0.out).1;omega)|simpa using h_);obtain rfl:=k37_openM hM13;have HP13:=Kd.R_seg HX13.out (x5_1 : Int) (od_ qa_) (by have h_ : (x5_1 : Int) < ((x0_1.length : Int) : Int):=od_ qa_;first|exact h_|(have e_:=(rr_ HO_0.out).1;omega)|simpa using h_) (seg:=[.int .i64 (wrap64 ((wrap64 (x1_1 + 1)) + 1))]) (j:=2) hcl13 hcc13 (show 3 ≤ 3 from by decide) (x':=(⟨(rd_T37 y445 x5_1).f0,(rd_T37 y445 x5_1).f1,wrap64 ((wrap64 (x1_1 + 1)) + 1)⟩ : S37)) (k37_mkM _ _ _ (⟨(rd_T37 y445 x5_1).f0,(rd_T37 y445 x5_1).f1,wrap64 ((wrap64 (x1_1 + 1)) + 1)⟩ : S37) ) (fun _ hk => hk);have hx13_2:=hcc13 2 _ rfl;(try simp only [show (k37).sz = 3 from rfl,Nat.mul_one,Nat.add_zero] at hx13_2);have hf13_2:=hfr13 2;(try simp only [show (k37).sz = 3 from rfl,Nat.mul_one,Nat.add_zero] at hf13_2);clear hcl13 hcc13 hfr13 hM13)|((with_reducible refine gate_store (t:=3) (p:=30) rfl ?_);refine store_event (t:=3) (p:=30) (v:=?vo_w14) (w1:=(w12.setCell ⟨go5,(x5_1 : Int).toNat * 3 + 2,none⟩ (.int .i64 (wrap64 ((wrap64 (x1_1 + 1)) + 1))))) ?hg ?ho ?hn ?hr ?_;(case ho => rfl);(case hg => rfl);(case hn => rfl);(case hr => first|(go_simp;done)|(go_simp;rfl));intro w14 hw;have hg : w12.grownBy w14 (some go5):=(by rw [hw];exact HP13.2);have hp_ : Kd.R k37 37 w14 w0.heap.size (fun k_ => (P0_ k_ ∨ w.heap.size ≤ k_)) (.slice (some ⟨go5,0,none⟩) x0_1.length co8) y446:=(by rw [hw,Ny446.out];exact HP13.1);clear HP13;have n0_:=mk_ (hp_);have n1_:=mk_ ((by rw [hw];exact bs_ (HB.out) GB5.out : Below w0.heap.size w0 w14));have n2_:=mk_ (Kept.of_grown (S:=(fun k_ => P0_ k_)) hg (u4_ HK) (fun k_ e_ => (HO_0.out.1 k_ e_)));clear HO_0 HB HK;have HO_0:=n0_;have HB:=n1_;have HK:=n2_;clear n0_ n1_ n2_ hg hw hp_))
     go_roundg k1
     case measure => have:=HK1.out;omega
     case rel => exact ⟨(y446),(wrap64 ((wrap64 ((wrap64 (x1_1 + 1)) + 1)) + 1)),(wrap64 (x5_1 + 1)),qf_,qf_,H',⟨by have:=HK1.out;omega⟩,⟨qr_ HO_0⟩,⟨u4_ HK⟩,⟨u1_ HB⟩⟩
    ·rw [if_neg c4] at H
     exact absurd H (by simp)
   ·rw [if_neg c3] at H
    have c3b0 : decide (x5_1 < (x0_1.length : Int)) = false:=decide_eq_false c3
    clear c3
    simp only [Option.some.injEq,Prod.mk.injEq] at H
    obtain ⟨rfl,rfl⟩:=H
    obtain ⟨Ao15,co15,eo15⟩:=Kd.R_slice HO_0.out
    subst eo15
    go_wp2
    go_ret
    exact ⟨qe_,qr_ HO_0,u1_ HB,u4_ HK⟩

-- LIB pmarkint
/-- Numbers in a row, from m on. -/
def mkI (m : Int) : Nat → List Int
  | 0 => []
  | n + 1 => m :: mkI (m + 1) n
theorem markInt_at (d : Nat) : ∀ (k i : Nat) (m : Int) (l : List Int),i + d = l.length → l.length ≤ 4611686018427387904 → d < k → 0 ≤ m → m + d ≤ 4611686018427387904 → laws_markIntS.l0 k l m i = some (m + d,l.take i ++ mkI m d):=by
  induction d with
  | zero =>
    intro k i m l h1 hl hk h2 h3
    obtain ⟨k,rfl⟩ : ∃ m,k = m + 1:=⟨k - 1,by omega⟩
    simp only [laws_markIntS.l0]
    have e : l.take i = l:=List.take_of_length_le (by omega)
    rw [if_neg (by omega),e,mkI,List.append_nil,show m + ((0 : Nat) : Int) = m by omega]
  | succ d ih =>
    intro k i m l h1 hl hk h2 h3
    obtain ⟨k,rfl⟩ : ∃ m,k = m + 1:=⟨k - 1,by omega⟩
    simp only [laws_markIntS.l0]
    have e2 : (l.set i m).take (i + 1) = l.take i ++ [m]:=by
      rw [List.take_add_one,List.take_set,List.getElem?_set_self (by omega),List.set_eq_of_length_le (by rw [List.length_take];omega)]
      rfl
    rw [if_pos (by omega),if_pos (by omega),wrap_eq (by omega) (by omega),wrap_succ (show i < l.length by omega) (by omega),Int.toNat_natCast,ih k (i + 1) (m + 1) _ (by rw [List.length_set];omega) (by rw [List.length_set];omega) (by omega) (by omega) (by omega),e2,mkI,List.append_assoc,show m + 1 + (d : Int) = m + ((d + 1 : Nat) : Int) by omega]
    rfl
theorem markInt_eq (l : List Int) (m : Int) (hl : l.length ≤ 2305843009213693952) (h0 : 0 ≤ m) (h1 : m ≤ 2305843009213693952) (k : Nat) (hk : l.length < k) : laws_markIntS.f k l m = some (m + l.length,mkI m l.length) :=
  markInt_at l.length k 0 m l (by omega) (by omega) hk h0 (by omega)
theorem mkI_len (n : Nat) : ∀ m,(mkI m n).length = n:=by
  induction n with
  | zero => exact fun _ => rfl
  | succ n ih => exact fun m => by rw [mkI,List.length_cons,ih]

-- LIB markiss
/-- The marks of rows of numbers. -/
def mkNI : List (List Int) → Int → Int
  | [],a => a
  | r :: rs,a => mkNI rs (a + (r.length : Int))
def mkSSI : List (List Int) → Int → List (List Int)
  | [],_ => []
  | r :: rs,a => mkI a r.length :: mkSSI rs (a + (r.length : Int))
theorem mkSSI_len (l : List (List Int)) : ∀ a,(mkSSI l a).length = l.length:=by
  induction l with
  | nil => intro a;rfl
  | cons r rs ih => intro a;rw [mkSSI,List.length_cons,ih,List.length_cons]
theorem mkNI_snoc (l : List (List Int)) (r : List Int) : ∀ a,mkNI (l ++ [r]) a = mkNI l a + (r.length : Int):=by
  induction l with
  | nil => intro a;rfl
  | cons x l ih => intro a;exact ih _
theorem mkSSI_snoc (l : List (List Int)) (r : List Int) : ∀ a,mkSSI (l ++ [r]) a = mkSSI l a ++ [mkI (mkNI l a) r.length]:=by
  induction l with
  | nil => intro a;rfl
  | cons x l ih => intro a;rw [List.cons_append,mkSSI,ih];rfl
theorem mkNI_le (l : List (List Int)) : ∀ a,a ≤ mkNI l a:=by
  induction l with
  | nil => intro a;exact Int.le_refl _
  | cons r l ih => intro a;have:=ih (a + (r.length : Int));unfold mkNI;omega
theorem mkNI_take (l : List (List Int)) (i : Nat) (hi : i < l.length) (a : Int) : mkNI (l.take i) a + (l[i].length : Int) ≤ mkNI l a:=by
  have e:=mkNI_snoc (l.take i) l[i] a
  rw [← List.take_succ_eq_append_getElem hi] at e
  rw [← e]
  have e2 : ∀ (x y : List (List Int)) (a : Int),mkNI (x ++ y) a = mkNI y (mkNI x a):=by
    intro x y
    induction x with
    | nil => intro a;rfl
    | cons z x ih => intro a;exact ih _
  have e3:=e2 (l.take (i + 1)) (l.drop (i + 1)) a
  rw [List.take_append_drop] at e3
  rw [e3]
  exact mkNI_le _ _
/-- An own row's element, written by another. -/
theorem S_markI {e5 T : Nat} {W : World} {base : Nat} {ok : Nat → Prop} {A : Option Addr} {n cap : Nat} {xs : List (List Int)} (h : Kd.S (Kd.slice e5 (Kd.int .i64)) T W base ok (.slice A n cap) xs) (i : Nat) (hi : i < xs.length) :
    ∃ (g : Nat) (oki : Nat → Prop) (v : Value),A = some ⟨g,0,none⟩ ∧ W.cell? ⟨g,i,none⟩ = some v ∧ Kd.R (Kd.int .i64) e5 W base oki v (xs.getD i []) ∧ (∀ k,oki k → ok k) ∧
      ∀ (w1 : World) (x' : List Int) (ok2 : Nat → Prop),Kept W w1 oki → Kd.R (Kd.int .i64) e5 w1 base ok2 v x' → Kd.S (Kd.slice e5 (Kd.int .i64)) T w1 base ok (.slice A n cap) (xs.set i x'):=by
  have hn:=(Kd.S_reads' h).1
  obtain ⟨g,cap',e,_⟩:=Kd.R_form (Kd.S_R h) (by omega)
  injection e with e1 e2 e3
  subst e1
  obtain ⟨oki,c,hcl,hM,hcc,hoki,hH⟩:=Kd.S_lend h [] (i : Int) (by omega) (by omega)
  obtain ⟨v,rfl,hR⟩:=hM
  rw [Int.toNat_natCast] at hR hcc
  refine ⟨g,oki,v,rfl,?_,hR,fun k hk => (hoki k hk).1,fun w1 x' ok2 hk h1 => ?_⟩
  · have:=hcc 0 v rfl
    rw [show i * (Kd.slice e5 (Kd.int .i64)).sz + 0 = i from by show i * 1 + 0 = i;omega] at this
    exact this
  · have h2:=Kd.H_back (Kd.H_step hH (fun k _ hn hlt => hk.2 k hlt hn)) (x':=x') (okp:=oki) ⟨v,rfl,hR.1,h1.2⟩ (fun _ hk => hk)
    rw [Int.toNat_natCast] at h2
    exact h2

/-! ### laws_markIntSS: function 58 (by hand) -/
def laws_markIntSS.f (l0 : List (List Int)) (a1 : Int) : Option (Int × List (List Int)) :=
 if 0 ≤ a1 ∧ mkNI l0 a1 ≤ 1000000000 ∧ l0.length ≤ 1000000000 then some (mkNI l0 a1,mkSSI l0 a1) else none
set_option maxHeartbeats 4000000 in
set_option maxRecDepth 100000 in
theorem laws_markIntSS.calls (P0_ : Nat → Prop) (u9000_ : Value) (l0 : List (List Int)) (a1 : Int) (r1 : Int) (r2 : List (List Int)) (w0 w : World) (hB : Below w0.heap.size w0 w) (ho0 : Kd.S (Kd.slice 3 (Kd.int .i64)) 24 w w0.heap.size P0_ u9000_ l0) (h : laws_markIntSS.f l0 a1 = some (r1,r2)) :
  Calls Try.prog 58 #[u9000_,.int .i64 a1] w fun e w' => e = .returned (.int .i64 r1) ∧ Kd.S (Kd.slice 3 (Kd.int .i64)) 24 w' w0.heap.size (fun k_ => (P0_ k_ ∨ w.heap.size ≤ k_)) u9000_ r2 ∧ Below w0.heap.size w0 w' ∧ Kept w w' (fun k_ => P0_ k_):=by
 unfold laws_markIntSS.f at h
 by_cases hc : 0 ≤ a1 ∧ mkNI l0 a1 ≤ 1000000000 ∧ l0.length ≤ 1000000000
 ·rw [if_pos hc] at h
  injection h with h
  injection h with h1 h2
  subst h1
  subst h2
  obtain ⟨hc1,hc2,hc3⟩:=hc
  obtain ⟨A,cap,rfl⟩:=Kd.S_slice ho0
  have HB0:=mk_ hB
  have HS0:=mk_ (Kd.S_mono ho0 (ok':=fun k_ => (P0_ k_ ∨ w.heap.size ≤ k_)) (fun k_ hk => Or.inl hk))
  clear hB ho0
  go_enter Try.func58,Try.ntmps58
  go_wp2
  go_loopg [1,5] l0.length (fun gg s1 s5 wr => ∃ (kk : Nat),kk ≤ l0.length ∧ l0.length - kk ≤ gg ∧ s5 = .int .i64 (kk : Int) ∧ s1 = .int .i64 (mkNI (l0.take kk) a1) ∧
   Aside0 (Kd.S (Kd.slice 3 (Kd.int .i64)) 24 wr w0.heap.size (fun k_ => (P0_ k_ ∨ w.heap.size ≤ k_)) (.slice A l0.length cap) (mkSSI (l0.take kk) a1 ++ l0.drop kk)) ∧ Aside0 (Below w0.heap.size w0 wr) ∧ Aside0 (Kept w wr (fun k_ => P0_ k_)))
  case atStart => exact ⟨0,Nat.zero_le _,by omega,rfl,rfl,HS0,HB0,⟨Kept.refl _ _⟩⟩
  case round =>
   obtain ⟨kk,hkk,hgg,rfl,rfl,HS,BW,KW⟩:=hrel
   by_cases hlt : kk < l0.length
   ·have hln : (mkSSI (l0.take kk) a1 ++ l0.drop kk).length = l0.length:=by rw [List.length_append,mkSSI_len,List.length_take,List.length_drop];omega
    obtain ⟨g,oki,v,rfl,hcell,hR,hoki,hback⟩:=S_markI HS.out kk (by omega)
    have hgd : (mkSSI (l0.take kk) a1 ++ l0.drop kk).getD kk [] = l0[kk]:=by
     rw [List.getD_eq_getElem?_getD,List.getElem?_append_right (by rw [mkSSI_len,List.length_take];omega),mkSSI_len,List.length_take,List.getElem?_drop,show kk + (kk - min kk l0.length) = kk by omega,List.getElem?_eq_getElem hlt]
     rfl
    rw [hgd] at hR
    have htk:=mkNI_take l0 kk hlt a1
    have hle:=mkNI_le (l0.take kk) a1
    obtain ⟨x,hx⟩ : ∃ x,mkNI (l0.take kk) a1 = x:=⟨_,rfl⟩
    have hcall:=laws_markIntS.calls (l0[kk].length + 1) oki v l0[kk] x _ _ w0 _ BW.out hR (markInt_eq l0[kk] x (by omega) (by omega) (by omega) _ (by omega))
    have e1 : mkNI (l0.take (kk + 1)) a1 = x + (l0[kk].length : Int):=by rw [List.take_succ_eq_append_getElem hlt,mkNI_snoc,hx]
    have e2 : (mkSSI (l0.take kk) a1 ++ l0.drop kk).set kk (mkI x l0[kk].length) = mkSSI (l0.take (kk + 1)) a1 ++ l0.drop (kk + 1):=by
     rw [List.take_succ_eq_append_getElem hlt,mkSSI_snoc,hx,List.append_assoc,List.singleton_append,List.set_append_right _ _ (by rw [mkSSI_len,List.length_take];omega),mkSSI_len,List.length_take,show kk - min kk l0.length = 0 by omega,List.drop_eq_getElem_cons hlt,List.set_cons_zero]
    rw [hx]
    have HN:=mk_ e1
    have HC:=mk_ hcall
    have HK:=mk_ (And.intro hback (And.intro hoki e2))
    have q1 : ((kk : Int) < (l0.length : Int)) = True:=eq_true (by omega)
    have q2 : (0 ≤ (kk : Int)) = True:=eq_true (by omega)
    have q3 : wrap64 ((kk : Int) + 1) = ((kk + 1 : Nat) : Int):=by rw [wrap_eq (by omega) (by omega)];omega
    clear hcall hback hoki e1 e2 htk hle hgd hln hR HS
    go_wp2_with fail
    refine HC.out.mono ?_
    rintro e w' ⟨rfl,h1,h2,h3⟩
    go_wp2
    go_roundg (l0.length - (kk + 1))
    case measure => omega
    case rel =>
     refine ⟨kk + 1,by omega,by omega,by first|rfl|rw [q3]|simp [q3],by rw [HN.out],⟨?_⟩,⟨h2⟩,⟨KW.out.then_ h3 HK.out.2.1⟩⟩
     rw [← HK.out.2.2]
     exact HK.out.1 w' _ _ h3 h1
   ·have hkl : kk = l0.length:=by omega
    subst hkl
    rw [List.take_length,List.drop_length,List.append_nil] at *
    have q1 : ((l0.length : Int) < (l0.length : Int)) = False:=eq_false (by omega)
    go_wp2
    go_ret
    exact ⟨rfl,HS.out,BW.out,KW.out⟩
 ·rw [if_neg hc] at h
  cases h

/-! ### laws_markSent: function 26 (by hand) -/
def laws_markSent.f (l0_0 : List (List Int)) (l0_1 : List (List Int)) (a1 : Int) : Option (Int × List (List Int) × List (List Int)) :=
 (laws_markIntSS.f l0_0 a1).bind fun p => (laws_markIntSS.f l0_1 p.1).map fun q => (q.1,p.2,q.2)
set_option maxHeartbeats 4000000 in
set_option maxRecDepth 100000 in
theorem laws_markSent.calls (P0_0_ : Nat → Prop) (u9000_ : Value) (l0_0 : List (List Int)) (P0_1_ : Nat → Prop) (u9001_ : Value) (l0_1 : List (List Int)) (a1 : Int) (r1 : Int) (r2 r3 : List (List Int)) (w0 w : World) (hB : Below w0.heap.size w0 w) (ho0_0 : Kd.S (Kd.slice 3 (Kd.int .i64)) 24 w w0.heap.size P0_0_ u9000_ l0_0) (ho0_1 : Kd.S (Kd.slice 3 (Kd.int .i64)) 24 w w0.heap.size P0_1_ u9001_ l0_1) (hap : ∀ k_,P0_0_ k_ → ¬ P0_1_ k_) (h : laws_markSent.f l0_0 l0_1 a1 = some (r1,r2,r3)) :
  Calls Try.prog 26 #[.agg #[u9000_,u9001_],.int .i64 a1] w fun e w' => e = .returned (.int .i64 r1) ∧ Kd.S (Kd.slice 3 (Kd.int .i64)) 24 w' w0.heap.size (fun k_ => (P0_0_ k_ ∨ w.heap.size ≤ k_)) u9000_ r2 ∧ Kd.S (Kd.slice 3 (Kd.int .i64)) 24 w' w0.heap.size (fun k_ => (P0_1_ k_ ∨ w.heap.size ≤ k_)) u9001_ r3 ∧ Below w0.heap.size w0 w' ∧ Kept w w' (fun k_ => P0_0_ k_ ∨ P0_1_ k_):=by
 unfold laws_markSent.f at h
 have hu:=Try.underlying32
 replace h:=Option.bind_eq_some_iff.mp h
 obtain ⟨⟨n1,z1⟩,hM1,h⟩:=h
 obtain ⟨⟨n2,z2⟩,hM2,h⟩:=Option.map_eq_some_iff.mp h
 simp only [Prod.mk.injEq] at h
 obtain ⟨rfl,rfl,rfl⟩:=h
 obtain ⟨A,cap,rfl⟩:=Kd.S_slice ho0_0
 obtain ⟨A',cap',rfl⟩:=Kd.S_slice ho0_1
 have ho0:=Kd.S_mono (Kd.S_bound ho0_0) (ok':=fun k => P0_0_ k ∧ k < w.heap.size) (fun k hk => ⟨hk.1,hk.2.2.1⟩)
 have ho1:=Kd.S_mono (Kd.S_bound ho0_1) (ok':=fun k => P0_1_ k ∧ k < w.heap.size) (fun k hk => ⟨hk.1,hk.2.2.1⟩)
 have hb1:=ba_ (Below.refl w.heap.size w) (.cells #[.slice A l0_0.length cap,.slice A' l0_1.length cap'] 32)
 have hn1:=blk_new w (.cells #[.slice A l0_0.length cap,.slice A' l0_1.length cap'] 32)
 have hcall:=laws_markIntSS.calls _ (.slice A l0_0.length cap) l0_0 a1 n1 z1 w0 _ (st_ hB hb1) (Kd.S_below ho0 hb1) hM1
 have k0 : (w.alloc (.cells #[.slice A l0_0.length cap,.slice A' l0_1.length cap'] 32)).cell? ⟨w.heap.size,0,none⟩ = some (.slice A l0_0.length cap):=(bc_ hn1 0).trans rfl
 have HC:=mk_ hcall
 have HB1:=mk_ hb1
 have HN1:=mk_ hn1
 have HO1:=mk_ (Kd.S_below ho1 hb1)
 have HAP:=mk_ hap
 have HM2:=mk_ hM2
 clear hB ho0_0 ho0_1 ho0 ho1 hcall hb1 hn1 hap hM1 hM2
 go_enter Try.func26,Try.ntmps26
 go_wp2_with fail
 refine HC.out.mono ?_
 rintro e w1 ⟨rfl,h1,h2,h3⟩
 have hsz:=HB1.out.size
 have HN2:=mk_ (blk_kept HN1.out h3 (fun hk => by have:=hk.2;omega))
 have HO2:=mk_ (Kd.S_kept HO1.out h3 (fun k hk hk2 => HAP.out k hk2.1 hk.1))
 have k1 : w1.cell? ⟨w.heap.size,1,none⟩ = some (.slice A' l0_1.length cap'):=(bc_ HN2.out 1).trans rfl
 have HC2:=mk_ (laws_markIntSS.calls _ (.slice A' l0_1.length cap') l0_1 n1 n2 z2 w0 w1 h2 HO2.out HM2.out)
 have H1:=mk_ h1
 have H3:=mk_ h3
 clear h1 h2 h3 HC HO1 HM2 k0
 go_wp2_with fail
 refine HC2.out.mono ?_
 rintro e w2 ⟨rfl,h1,h2,h3⟩
 go_wp2
 go_ret
 have q1:=H3.out.1
 have hal : (w.alloc (.cells #[.slice A l0_0.length cap,.slice A' l0_1.length cap'] 32)).heap.size = w.heap.size + 1:=by simp
 refine ⟨rfl,?_,Kd.S_mono h1 (fun k hk => hk.elim (fun h => Or.inl h.1) (fun h => Or.inr (by omega))),h2,?_⟩
 ·refine Kd.S_mono (Kd.S_kept H1.out h3 (fun k hk hk2 => ?_)) (fun k hk => hk.elim (fun h => Or.inl h.1) (fun h => Or.inr (by omega)))
  rcases hk with hk|hk
  ·exact HAP.out k hk.1 hk2.1
  ·have:=hk2.2;omega
 ·have hk1 : Kept w w1 (fun k_ => P0_0_ k_ ∨ P0_1_ k_):=⟨by omega,fun i hi hn => (H3.out.2 i (by omega) (fun h => hn (Or.inl h.1))).trans (HB1.out.block i hi)⟩
  exact hk1.then_ h3 (fun k hk => Or.inl (Or.inr hk.1))

/-! ### laws_heldIntS: function 90 -/
def laws_heldIntS.l0 : Nat → List Int → Int → Int → Option (Int)
 | 0,_,_,_ => none
 | k + 1,x0,x1,x5 => if x5 < (x0.length : Int) then (if 0 ≤ x5 then (if (rd x0 x5) = x1 then (laws_heldIntS.l0 k x0 (wrap64 (x1 + 1)) (wrap64 (x5 + 1))) else (some (-1))) else (none)) else (some x1)
def laws_heldIntS.f (k : Nat) (l0 : List Int) (a1 : Int) : Option (Int):=laws_heldIntS.l0 k l0 a1 0
theorem laws_heldIntS.mono_l : ∀ k,(∀ y0 y1 y2,LeO (laws_heldIntS.l0 k y0 y1 y2) (laws_heldIntS.l0 (k + 1) y0 y1 y2))
 | 0 => fun _ _ _ r h => by simp [laws_heldIntS.l0] at h
 | k + 1 => by
  have ih0:=laws_heldIntS.mono_l k
  ·intro y0 y1 y2
   unfold laws_heldIntS.l0
   repeat' first
   | (with_reducible exact ih0 _ _ _)
   | (with_reducible exact LeO.refl _)
   | (with_reducible exact LeO.none _)
   | (with_reducible refine LeO.ite ?_ ?_)
   | (with_reducible refine LeO.bind ?_ (fun _ => ?_))
   | exact ih0 _ _ _
   | exact LeO.none _
   | refine LeO.ite ?_ ?_
   | refine LeO.bind ?_ (fun _ => ?_)
theorem laws_heldIntS.mono : ∀ a0 a1 k,LeO (laws_heldIntS.f k a0 a1) (laws_heldIntS.f (k + 1) a0 a1):=by
 intro a0 a1 k
 have ih0:=laws_heldIntS.mono_l k
 unfold laws_heldIntS.f
 repeat' first
   | (with_reducible exact ih0 _ _ _)
   | (with_reducible exact LeO.refl _)
   | (with_reducible exact LeO.none _)
   | (with_reducible refine LeO.ite ?_ ?_)
   | (with_reducible refine LeO.bind ?_ (fun _ => ?_))
   | exact ih0 _ _ _
   | exact LeO.none _
   | refine LeO.ite ?_ ?_
   | refine LeO.bind ?_ (fun _ => ?_)
set_option maxHeartbeats 8000000 in
set_option maxRecDepth 100000 in
theorem laws_heldIntS.calls (k : Nat) (A0 : Option Addr) (c0 : Nat) (l0 : List Int) (a1 : Int) (r : Int) (w : World) (hr0 : Kd.C (Kd.int .i64) w A0 l0.length l0) (hc0 : l0.length ≤ c0) (h : laws_heldIntS.f k l0 a1 = some r) :
  Calls Try.prog 90 #[.slice A0 l0.length c0,.int .i64 a1] w fun e w' => e = .returned (.int .i64 r) ∧ Drawn0 w w':=by
 have HR0:=mk_ hr0
 have HC0:=mk_ hc0
 clear hr0 hc0
 have H : (laws_heldIntS.l0 k l0 a1 0) = some r:=h
 clear h
 have H':=mk_ H
 clear H
 go_enter Try.func90,Try.ntmps90
 go_wp2
 go_loopg [1,5] k (fun kq v1 v5 w' => ∃ (x1_1 : Int) (x5_1 : Int),v1 = .int .i64 x1_1 ∧ v5 = .int .i64 x5_1 ∧ Aside0 (laws_heldIntS.l0 kq l0 x1_1 x5_1 = some r) ∧ Aside0 (kq ≤ k) ∧ Drawn0 w w')
 case atStart => exact ⟨(a1),(0),qf_,qf_,H',⟨Nat.le_refl _⟩,by repeat (first|exact Drawn0.refl _|apply Drawn0.step)⟩
 case round =>
  clear H'
  try clear p2
  obtain ⟨x1_1,x5_1,rfl,rfl,HA,HK1,⟨m1,rfl⟩⟩:=hrel
  cases gk with
  | zero => exact absurd HA.out (by simp [laws_heldIntS.l0])
  | succ k1 =>
   have H:=HA.out
   clear HA
   simp only [laws_heldIntS.l0] at H
   by_cases c3 : x5_1 < (l0.length : Int)
   ·rw [if_pos c3] at H
    have c3b0 : decide (x5_1 < (l0.length : Int)) = true:=decide_eq_true c3
    clear c3
    by_cases c4 : 0 ≤ x5_1
    ·rw [if_pos c4] at H
     have c4b0 : decide (0 ≤ x5_1) = true:=decide_eq_true c4
     clear c4
     by_cases c5 : (rd l0 x5_1) = x1_1
     ·rw [if_pos c5] at H
      have c5b0 : ((rd l0 x5_1) == x1_1) = true:=beq_iff_eq.mpr c5
      have c5b1 : ((rd l0 x5_1) != x1_1) = false:=bne_eq_false_iff_eq.mpr c5
      clear c5
      have H':=mk_ H
      clear H
      have p447 : 0 ≤ (x5_1 : Int):=od_ qa_
      have q447 : x5_1 < (l0.length : Int):=od_ qa_
      obtain ⟨ad447,e447,hx447_0⟩:=Kd.at_int HR0.out x5_1 p447 q447
      cases e447
      replace p447:=eq_true p447
      replace q447:=eq_true q447
      go_wp2
      go_roundg k1
      case measure => have:=HK1.out;omega
      case rel => exact ⟨(wrap64 (x1_1 + 1)),(wrap64 (x5_1 + 1)),qf_,qf_,H',⟨by have:=HK1.out;omega⟩,by repeat (first|exact Drawn0.refl _|apply Drawn0.step)⟩
     ·rw [if_neg c5] at H
      have c5b0 : ((rd l0 x5_1) == x1_1) = false:=beq_eq_false_iff_ne.mpr c5
      have c5b1 : ((rd l0 x5_1) != x1_1) = true:=bne_iff_ne.mpr c5
      obtain rfl:=Option.some.inj H
      have p447 : 0 ≤ (x5_1 : Int):=od_ qa_
      have q447 : x5_1 < (l0.length : Int):=od_ qa_
      obtain ⟨ad447,e447,hx447_0⟩:=Kd.at_int HR0.out x5_1 p447 q447
      cases e447
      replace p447:=eq_true p447
      replace q447:=eq_true q447
      go_wp2
      go_ret
      exact ⟨by first|rfl|(simp;done)|(simp [*];done),by repeat (first|exact Drawn0.refl _|apply Drawn0.step)⟩
    ·rw [if_neg c4] at H
     exact absurd H (by simp)
   ·rw [if_neg c3] at H
    have c3b0 : decide (x5_1 < (l0.length : Int)) = false:=decide_eq_false c3
    clear c3
    obtain rfl:=Option.some.inj H
    go_wp2
    go_ret
    exact ⟨by first|rfl|(simp;done)|(simp [*];done),by repeat (first|exact Drawn0.refl _|apply Drawn0.step)⟩

/-! ### laws_heldIntSS: function 59 -/
def laws_heldIntSS.l0 : Nat → List (List Int) → Int → Int → Option (Int)
 | 0,_,_,_ => none
 | k + 1,x0,x1,x5 => if x5 < (x0.length : Int) then (if 0 ≤ x5 then ((laws_heldIntS.f k (rd_L4 x0 x5) x1).bind fun t449 => (if t449 < 0 then (some (-1)) else (laws_heldIntSS.l0 k x0 t449 (wrap64 (x5 + 1))))) else (none)) else (some x1)
def laws_heldIntSS.f (k : Nat) (l0 : List (List Int)) (a1 : Int) : Option (Int):=laws_heldIntSS.l0 k l0 a1 0
theorem laws_heldIntSS.mono_l : ∀ k,(∀ y0 y1 y2,LeO (laws_heldIntSS.l0 k y0 y1 y2) (laws_heldIntSS.l0 (k + 1) y0 y1 y2))
 | 0 => fun _ _ _ r h => by simp [laws_heldIntSS.l0] at h
 | k + 1 => by
  have ih0:=laws_heldIntSS.mono_l k
  ·intro y0 y1 y2
   unfold laws_heldIntSS.l0
   repeat' first
   | (with_reducible exact ih0 _ _ _)
   | (with_reducible exact laws_heldIntS.mono _ _ _)
   | (with_reducible exact LeO.refl _)
   | (with_reducible exact LeO.none _)
   | (with_reducible refine LeO.ite ?_ ?_)
   | (with_reducible refine LeO.bind ?_ (fun _ => ?_))
   | exact ih0 _ _ _
   | exact laws_heldIntS.mono _ _ _
   | exact LeO.none _
   | refine LeO.ite ?_ ?_
   | refine LeO.bind ?_ (fun _ => ?_)
theorem laws_heldIntSS.mono : ∀ a0 a1 k,LeO (laws_heldIntSS.f k a0 a1) (laws_heldIntSS.f (k + 1) a0 a1):=by
 intro a0 a1 k
 have ih0:=laws_heldIntSS.mono_l k
 unfold laws_heldIntSS.f
 repeat' first
   | (with_reducible exact ih0 _ _ _)
   | (with_reducible exact laws_heldIntS.mono _ _ _)
   | (with_reducible exact LeO.refl _)
   | (with_reducible exact LeO.none _)
   | (with_reducible refine LeO.ite ?_ ?_)
   | (with_reducible refine LeO.bind ?_ (fun _ => ?_))
   | exact ih0 _ _ _
   | exact laws_heldIntS.mono _ _ _
   | exact LeO.none _
   | refine LeO.ite ?_ ?_
   | refine LeO.bind ?_ (fun _ => ?_)
set_option maxHeartbeats 8000000 in
set_option maxRecDepth 100000 in
theorem laws_heldIntSS.calls (k : Nat) (A0 : Option Addr) (c0 : Nat) (l0 : List (List Int)) (a1 : Int) (r : Int) (w : World) (hr0 : Kd.C (Kd.slice 3 (Kd.int .i64)) w A0 l0.length l0) (hc0 : l0.length ≤ c0) (h : laws_heldIntSS.f k l0 a1 = some r) :
  Calls Try.prog 59 #[.slice A0 l0.length c0,.int .i64 a1] w fun e w' => e = .returned (.int .i64 r) ∧ Drawn0 w w':=by
 have HR0:=mk_ hr0
 have HC0:=mk_ hc0
 clear hr0 hc0
 have H : (laws_heldIntSS.l0 k l0 a1 0) = some r:=h
 clear h
 have H':=mk_ H
 clear H
 go_enter Try.func59,Try.ntmps59
 go_wp2
 go_loopg [1,5] k (fun kq v1 v5 w' => ∃ (x1_1 : Int) (x5_1 : Int),v1 = .int .i64 x1_1 ∧ v5 = .int .i64 x5_1 ∧ Aside0 (laws_heldIntSS.l0 kq l0 x1_1 x5_1 = some r) ∧ Aside0 (kq ≤ k) ∧ Drawn0 w w')
 case atStart => exact ⟨(a1),(0),qf_,qf_,H',⟨Nat.le_refl _⟩,by repeat (first|exact Drawn0.refl _|apply Drawn0.step)⟩
 case round =>
  clear H'
  try clear p2
  obtain ⟨x1_1,x5_1,rfl,rfl,HA,HK1,⟨m1,rfl⟩⟩:=hrel
  cases gk with
  | zero => exact absurd HA.out (by simp [laws_heldIntSS.l0])
  | succ k1 =>
   have H:=HA.out
   clear HA
   simp only [laws_heldIntSS.l0] at H
   by_cases c3 : x5_1 < (l0.length : Int)
   ·rw [if_pos c3] at H
    have c3b0 : decide (x5_1 < (l0.length : Int)) = true:=decide_eq_true c3
    clear c3
    by_cases c4 : 0 ≤ x5_1
    ·rw [if_pos c4] at H
     have c4b0 : decide (0 ≤ x5_1) = true:=decide_eq_true c4
     clear c4
     replace H:=Option.bind_eq_some_iff.mp H
     obtain ⟨t449,A50,H⟩:=H
     replace H : (if t449 < 0 then (some (-1)) else (laws_heldIntSS.l0 k1 l0 t449 (wrap64 (x5_1 + 1)))) = some r:=H
     have A5:=mk_ A50
     clear A50
     by_cases c6 : t449 < 0
     ·rw [if_pos c6] at H
      have c6b0 : decide (t449 < 0) = true:=decide_eq_true c6
      clear c6
      obtain rfl:=Option.some.inj H
      have p448 : 0 ≤ (x5_1 : Int):=od_ qa_
      have q448 : x5_1 < (l0.length : Int):=od_ qa_
      obtain ⟨ad448,A448_0,c448_0,e448,hx448_0,hl448_0,hi448_0⟩:=at_L4 HR0.out x5_1 p448 q448
      cases e448
      have HR448_0:=mk_ hi448_0
      have HC448_0:=mk_ hl448_0
      clear hi448_0 hl448_0
      replace p448:=eq_true p448
      replace q448:=eq_true q448
      go_wp2_with (first|((with_reducible refine gate_callee (f:=90) rfl ?_);refine goesL_ (some 17) rfl rfl Try.func90 (by kernel_rfl) rfl #[.slice A448_0 (rd_L4 l0 x5_1).length c448_0,.int .i64 x1_1] rfl qm_ ?_;(with_reducible refine (laws_heldIntS.calls k1 _ _ (rd_L4 l0 x5_1) x1_1 t449 _ ?side1 ?side2 A5.out).mono ?_);(case side1 => repeat (first|exact HR448_0.out|(with_reducible refine ca_ ?_ _)|(with_reducible refine cn_ ?_ _)|(with_reducible refine cd_ ?_)));(case side2 => exact HC448_0.out);rintro e w' ⟨rfl,⟨nd,rfl⟩⟩;refine ⟨_,rfl,?_⟩))
      go_ret
      exact ⟨by first|rfl|(simp;done)|(simp [*];done),by repeat (first|exact Drawn0.refl _|apply Drawn0.step)⟩
     ·rw [if_neg c6] at H
      have c6b0 : decide (t449 < 0) = false:=decide_eq_false c6
      clear c6
      have H':=mk_ H
      clear H
      have p448 : 0 ≤ (x5_1 : Int):=od_ qa_
      have q448 : x5_1 < (l0.length : Int):=od_ qa_
      obtain ⟨ad448,A448_0,c448_0,e448,hx448_0,hl448_0,hi448_0⟩:=at_L4 HR0.out x5_1 p448 q448
      cases e448
      have HR448_0:=mk_ hi448_0
      have HC448_0:=mk_ hl448_0
      clear hi448_0 hl448_0
      replace p448:=eq_true p448
      replace q448:=eq_true q448
      go_wp2_with (first|((with_reducible refine gate_callee (f:=90) rfl ?_);refine goesL_ (some 17) rfl rfl Try.func90 (by kernel_rfl) rfl #[.slice A448_0 (rd_L4 l0 x5_1).length c448_0,.int .i64 x1_1] rfl qm_ ?_;(with_reducible refine (laws_heldIntS.calls k1 _ _ (rd_L4 l0 x5_1) x1_1 t449 _ ?side1 ?side2 A5.out).mono ?_);(case side1 => repeat (first|exact HR448_0.out|(with_reducible refine ca_ ?_ _)|(with_reducible refine cn_ ?_ _)|(with_reducible refine cd_ ?_)));(case side2 => exact HC448_0.out);rintro e w' ⟨rfl,⟨nd,rfl⟩⟩;refine ⟨_,rfl,?_⟩))
      go_roundg k1
      case measure => have:=HK1.out;omega
      case rel => exact ⟨(t449),(wrap64 (x5_1 + 1)),qf_,qf_,H',⟨by have:=HK1.out;omega⟩,by repeat (first|exact Drawn0.refl _|apply Drawn0.step)⟩
    ·rw [if_neg c4] at H
     exact absurd H (by simp)
   ·rw [if_neg c3] at H
    have c3b0 : decide (x5_1 < (l0.length : Int)) = false:=decide_eq_false c3
    clear c3
    obtain rfl:=Option.some.inj H
    go_wp2
    go_ret
    exact ⟨by first|rfl|(simp;done)|(simp [*];done),by repeat (first|exact Drawn0.refl _|apply Drawn0.step)⟩

/-! ### laws_heldSent: function 27 -/
def laws_heldSent.f (k : Nat) (l0_0 : List (List Int)) (l0_1 : List (List Int)) (a1 : Int) : Option (Int):=(laws_heldIntSS.f k l0_0 a1).bind fun t451 => (if t451 < 0 then (some (-1)) else ((laws_heldIntSS.f k l0_1 t451).bind fun t452 => (if t452 < 0 then (some (-1)) else (some t452))))
theorem laws_heldSent.mono : ∀ a0 a1 a2 k,LeO (laws_heldSent.f k a0 a1 a2) (laws_heldSent.f (k + 1) a0 a1 a2):=by
 intro a0 a1 a2 k
 unfold laws_heldSent.f
 repeat' first
   | (with_reducible exact laws_heldIntSS.mono _ _ _)
   | (with_reducible exact LeO.refl _)
   | (with_reducible exact LeO.none _)
   | (with_reducible refine LeO.ite ?_ ?_)
   | (with_reducible refine LeO.bind ?_ (fun _ => ?_))
   | exact laws_heldIntSS.mono _ _ _
   | exact LeO.none _
   | refine LeO.ite ?_ ?_
   | refine LeO.bind ?_ (fun _ => ?_)
set_option maxHeartbeats 8000000 in
set_option maxRecDepth 100000 in
theorem laws_heldSent.calls (k : Nat) (A0_0 : Option Addr) (c0_0 : Nat) (l0_0 : List (List Int)) (A0_1 : Option Addr) (c0_1 : Nat) (l0_1 : List (List Int)) (a1 : Int) (r : Int) (w : World) (hr0_0 : Kd.C (Kd.slice 3 (Kd.int .i64)) w A0_0 l0_0.length l0_0) (hc0_0 : l0_0.length ≤ c0_0) (hr0_1 : Kd.C (Kd.slice 3 (Kd.int .i64)) w A0_1 l0_1.length l0_1) (hc0_1 : l0_1.length ≤ c0_1) (h : laws_heldSent.f k l0_0 l0_1 a1 = some r) :
  Calls Try.prog 27 #[.agg #[.slice A0_0 l0_0.length c0_0,.slice A0_1 l0_1.length c0_1],.int .i64 a1] w fun e w' => e = .returned (.int .i64 r) ∧ Below w.heap.size w w':=by
 have hu32:=Try.underlying32
 have HR0_0:=mk_ hr0_0
 have HC0_0:=mk_ hc0_0
 clear hr0_0 hc0_0
 have HR0_1:=mk_ hr0_1
 have HC0_1:=mk_ hc0_1
 clear hr0_1 hc0_1
 have HB:=mk_ (Below.refl w.heap.size w)
 have H : ((laws_heldIntSS.f k l0_0 a1).bind fun t451 => (if t451 < 0 then (some (-1)) else ((laws_heldIntSS.f k l0_1 t451).bind fun t452 => (if t452 < 0 then (some (-1)) else (some t452))))) = some r:=h
 clear h
 replace H:=Option.bind_eq_some_iff.mp H
 obtain ⟨t451,A30,H⟩:=H
 replace H : (if t451 < 0 then (some (-1)) else ((laws_heldIntSS.f k l0_1 t451).bind fun t452 => (if t452 < 0 then (some (-1)) else (some t452)))) = some r:=H
 have A3:=mk_ A30
 clear A30
 by_cases c4 : t451 < 0
 ·rw [if_pos c4] at H
  have c4b0 : decide (t451 < 0) = true:=decide_eq_true c4
  clear c4
  obtain rfl:=Option.some.inj H
  go_enter Try.func27,Try.ntmps27
  go_wp2_with (first|((with_reducible refine gate_dst (N:=2) rfl ?_);refine box_event ?hg (N:=2) ?hd (cs:=#[.slice A0_0 l0_0.length c0_0,.slice A0_1 l0_1.length c0_1]) (t:=32) ?hr ?_;(case hd => rfl);(case hg => rfl);(case hr => first|(go_simp;done)|(go_simp;rfl));intro gb450 hg w5 hbox hb;have n0_:=mk_ (st_ (qb_ HB) hb);have n1_:=mk_ (hbox);have n2_:=mk_ ((by rw [hg];exact (bz_ (qb_ HB)) : w.heap.size ≤ gb450));have n3_:=mk_ ((by rw [hg];exact (bz_ (qb_ HB)) : w.heap.size ≤ gb450));clear HB;have HB:=n0_;have BK450:=n1_;have GW450:=n2_;have GE450:=n3_;clear n0_ n1_ n2_ n3_ hb hbox hg;have hcz6_0 : w5.cell? ⟨gb450,0,none⟩ = some (.slice A0_0 l0_0.length c0_0):=(bc_ BK450.out 0).trans rfl;have hcz6_1 : w5.cell? ⟨gb450,1,none⟩ = some (.slice A0_1 l0_1.length c0_1):=(bc_ BK450.out 1).trans rfl;have hfz6_0:=bf_ BK450.out 0;have hfz6_1:=bf_ BK450.out 1)|((with_reducible refine gate_callee (f:=59) rfl ?_);refine goesL_ (some 8) rfl rfl Try.func59 (by kernel_rfl) rfl #[.slice A0_0 l0_0.length c0_0,.int .i64 a1] rfl qm_ ?_;(with_reducible refine (laws_heldIntSS.calls k _ _ l0_0 a1 t451 _ ?side1 ?side2 A3.out).mono ?_);(case side1 => exact qn_ HR0_0 HB);(case side2 => exact HC0_0.out);rintro e w' ⟨rfl,⟨nd,rfl⟩⟩;refine ⟨_,rfl,?_⟩))
  go_ret
  exact ⟨qe_,u0_ HB GE450⟩
 ·rw [if_neg c4] at H
  have c4b0 : decide (t451 < 0) = false:=decide_eq_false c4
  clear c4
  replace H:=Option.bind_eq_some_iff.mp H
  obtain ⟨t452,A70,H⟩:=H
  replace H : (if t452 < 0 then (some (-1)) else (some t452)) = some r:=H
  have A7:=mk_ A70
  clear A70
  by_cases c8 : t452 < 0
  ·rw [if_pos c8] at H
   have c8b0 : decide (t452 < 0) = true:=decide_eq_true c8
   clear c8
   obtain rfl:=Option.some.inj H
   go_enter Try.func27,Try.ntmps27
   go_wp2_with (first|((with_reducible refine gate_dst (N:=2) rfl ?_);refine box_event ?hg (N:=2) ?hd (cs:=#[.slice A0_0 l0_0.length c0_0,.slice A0_1 l0_1.length c0_1]) (t:=32) ?hr ?_;(case hd => rfl);(case hg => rfl);(case hr => first|(go_simp;done)|(go_simp;rfl));intro gb450 hg w9 hbox hb;have n0_:=mk_ (st_ (qb_ HB) hb);have n1_:=mk_ (hbox);have n2_:=mk_ ((by rw [hg];exact (bz_ (qb_ HB)) : w.heap.size ≤ gb450));have n3_:=mk_ ((by rw [hg];exact (bz_ (qb_ HB)) : w.heap.size ≤ gb450));clear HB;have HB:=n0_;have BK450:=n1_;have GW450:=n2_;have GE450:=n3_;clear n0_ n1_ n2_ n3_ hb hbox hg;have hcz10_0 : w9.cell? ⟨gb450,0,none⟩ = some (.slice A0_0 l0_0.length c0_0):=(bc_ BK450.out 0).trans rfl;have hcz10_1 : w9.cell? ⟨gb450,1,none⟩ = some (.slice A0_1 l0_1.length c0_1):=(bc_ BK450.out 1).trans rfl;have hfz10_0:=bf_ BK450.out 0;have hfz10_1:=bf_ BK450.out 1)|((with_reducible refine gate_callee (f:=59) rfl ?_);refine goesL_ (some 8) rfl rfl Try.func59 (by kernel_rfl) rfl #[.slice A0_0 l0_0.length c0_0,.int .i64 a1] rfl qm_ ?_;(with_reducible refine (laws_heldIntSS.calls k _ _ l0_0 a1 t451 _ ?side1 ?side2 A3.out).mono ?_);(case side1 => exact qn_ HR0_0 HB);(case side2 => exact HC0_0.out);rintro e w' ⟨rfl,⟨nd,rfl⟩⟩;refine ⟨_,rfl,?_⟩)|((with_reducible refine gate_callee (f:=59) rfl ?_);refine goesL_ (some 14) rfl rfl Try.func59 (by kernel_rfl) rfl #[.slice A0_1 l0_1.length c0_1,.int .i64 t451] rfl qm_ ?_;(with_reducible refine (laws_heldIntSS.calls k _ _ l0_1 t451 t452 _ ?side1 ?side2 A7.out).mono ?_);(case side1 => repeat (first|exact (cb_ HR0_1.out (qc_ HB GE450))|(with_reducible refine ca_ ?_ _)|(with_reducible refine cn_ ?_ _)|(with_reducible refine cd_ ?_)));(case side2 => exact HC0_1.out);rintro e w' ⟨rfl,⟨nd,rfl⟩⟩;refine ⟨_,rfl,?_⟩))
   go_ret
   exact ⟨qe_,u0_ HB GE450⟩
  ·rw [if_neg c8] at H
   have c8b0 : decide (t452 < 0) = false:=decide_eq_false c8
   clear c8
   obtain rfl:=Option.some.inj H
   go_enter Try.func27,Try.ntmps27
   go_wp2_with (first|((with_reducible refine gate_dst (N:=2) rfl ?_);refine box_event ?hg (N:=2) ?hd (cs:=#[.slice A0_0 l0_0.length c0_0,.slice A0_1 l0_1.length c0_1]) (t:=32) ?hr ?_;(case hd => rfl);(case hg => rfl);(case hr => first|(go_simp;done)|(go_simp;rfl));intro gb450 hg w11 hbox hb;have n0_:=mk_ (st_ (qb_ HB) hb);have n1_:=mk_ (hbox);have n2_:=mk_ ((by rw [hg];exact (bz_ (qb_ HB)) : w.heap.size ≤ gb450));have n3_:=mk_ ((by rw [hg];exact (bz_ (qb_ HB)) : w.heap.size ≤ gb450));clear HB;have HB:=n0_;have BK450:=n1_;have GW450:=n2_;have GE450:=n3_;clear n0_ n1_ n2_ n3_ hb hbox hg;have hcz12_0 : w11.cell? ⟨gb450,0,none⟩ = some (.slice A0_0 l0_0.length c0_0):=(bc_ BK450.out 0).trans rfl;have hcz12_1 : w11.cell? ⟨gb450,1,none⟩ = some (.slice A0_1 l0_1.length c0_1):=(bc_ BK450.out 1).trans rfl;have hfz12_0:=bf_ BK450.out 0;have hfz12_1:=bf_ BK450.out 1)|((with_reducible refine gate_callee (f:=59) rfl ?_);refine goesL_ (some 8) rfl rfl Try.func59 (by kernel_rfl) rfl #[.slice A0_0 l0_0.length c0_0,.int .i64 a1] rfl qm_ ?_;(with_reducible refine (laws_heldIntSS.calls k _ _ l0_0 a1 t451 _ ?side1 ?side2 A3.out).mono ?_);(case side1 => exact qn_ HR0_0 HB);(case side2 => exact HC0_0.out);rintro e w' ⟨rfl,⟨nd,rfl⟩⟩;refine ⟨_,rfl,?_⟩)|((with_reducible refine gate_callee (f:=59) rfl ?_);refine goesL_ (some 14) rfl rfl Try.func59 (by kernel_rfl) rfl #[.slice A0_1 l0_1.length c0_1,.int .i64 t451] rfl qm_ ?_;(with_reducible refine (laws_heldIntSS.calls k _ _ l0_1 t451 t452 _ ?side1 ?side2 A7.out).mono ?_);(case side1 => repeat (first|exact (cb_ HR0_1.out (qc_ HB GE450))|(with_reducible refine ca_ ?_ _)|(with_reducible refine cn_ ?_ _)|(with_reducible refine cd_ ?_)));(case side2 => exact HC0_1.out);rintro e w' ⟨rfl,⟨nd,rfl⟩⟩;refine ⟨_,rfl,?_⟩))
   go_ret
   exact ⟨qe_,u0_ HB GE450⟩

-- LIB exnet
/-- The program's RunNet, with its two rows apart. -/
theorem run_apart (nb : Int) (A1 : Option Addr) (c1 : Nat) (cs : List S83) (A2 : Option Addr) (c2 : Nat) (hs : List Int) (A3 : Option Addr) (c3 : Nat) (vs : List Int) (A4 : Option Addr) (c4 : Nat) (l4 : List S37) (r1 r2 : List (List Int)) (r3 : Bool) (w : World)
    (hr1 : Kd.C k83 w A1 cs.length cs) (hc1 : cs.length ≤ c1) (hr2 : Kd.C (Kd.int .i64) w A2 hs.length hs) (hc2 : hs.length ≤ c2) (hr3 : Kd.C (Kd.int .i64) w A3 vs.length vs) (hc3 : vs.length ≤ c3) (hr4 : Kd.C k37 w A4 l4.length l4) (hc4 : l4.length ≤ c4)
    (h : impl_RunNet.f nb cs hs vs l4 = some (r1,r2,r3)) :
    Calls Try.prog 9 #[.agg #[.int .i64 nb,.slice A1 cs.length c1,.slice A2 hs.length c2,.slice A3 vs.length c3],.slice A4 l4.length c4] w fun e w' =>
      ∃ (v1 v2 : Value) (P Q : Nat → Prop),e = .returned (.tuple #[.agg #[v1,v2],.bool r3]) ∧ (∀ k,P k → ¬ Q k) ∧ Kd.S (Kd.slice 3 (Kd.int .i64)) 24 w' w.heap.size P v1 r1 ∧ Kd.S (Kd.slice 3 (Kd.int .i64)) 24 w' w.heap.size Q v2 r2 ∧ Below w.heap.size w w':=by
  unfold impl_RunNet.f at h
  cases hok : runB nb cs hs vs l4 with
  | false =>
    rw [hok,if_neg (by decide)] at h
    obtain ⟨rfl,rfl,rfl⟩ : [] = r1 ∧ [] = r2 ∧ false = r3:=by
      have:=Option.some.inj h
      exact ⟨congrArg (·.1) this,congrArg (·.2.1) this,congrArg (·.2.2) this⟩
    refine (x_RunNet_no nb A1 c1 cs A2 c2 hs A3 c3 vs A4 c4 l4 w hok hr1 hc1 hr2 hc2 hr3 hc3 hr4 hc4).mono ?_
    rintro e w1 ⟨rfl,hb⟩
    exact ⟨_,_,fun _ => False,fun _ => False,rfl,fun _ h => h.elim,Kd.S_nil _ _ _ _ _,Kd.S_nil _ _ _ _ _,hb⟩
  | true =>
    rw [hok,if_pos rfl] at h
    obtain ⟨fin,hfin,hf⟩:=Option.map_eq_some_iff.mp h
    obtain ⟨rfl,rfl,rfl⟩ : fin.1 = r1 ∧ fin.2 = r2 ∧ true = r3:=⟨congrArg (·.1) hf,congrArg (·.2.1) hf,congrArg (·.2.2) hf⟩
    exact x_RunNet nb A1 c1 cs A2 c2 hs A3 c3 vs A4 c4 l4 w hok fin hfin hr1 hc1 hr2 hc2 hr3 hc3 hr4 hc4
/-- What the walk of FnExactRunNet keeps of the answer, told from a world U on. -/
structure XD (eI eS : Nat) (U W : World) (pg : Nat) (P Q : Nat → Prop) (vt vo : Value) (tk ov : List (List Int)) (bx : Nat) (ob : Obj) : Prop where
  bel : Below U.heap.size U W
  ap : ∀ k,P k → ¬ Q k
  lo : ∀ k,P k ∨ Q k → pg ≤ k ∧ k < bx
  hb : pg ≤ bx
  st : Kd.S (Kd.slice eI (Kd.int .i64)) eS W U.heap.size P vt tk
  so : Kd.S (Kd.slice eI (Kd.int .i64)) eS W U.heap.size Q vo ov
  bx : W.heap[bx]? = some ob
/-- .. of the network's rows and of the frames. -/
structure XR (eC eI eH : Nat) (U W : World) (p1 pg : Nat) (P2 P3 : Nat → Prop) (v1 v2 v3 v4 : Value) (cs : List S83) (hs vs : List Int) (l : List S37) (b8 : Nat) (o8 : Obj) : Prop where
  ap : ∀ k,P2 k → ¬ P3 k
  a2 : ∀ k,P2 k → k < p1
  a3 : ∀ k,P3 k → k < p1
  r1 : Kd.R k83 eC W U.heap.size (fun k => k < p1) v1 cs
  r2 : Kd.R (Kd.int .i64) eI W U.heap.size P2 v2 hs
  r3 : Kd.R (Kd.int .i64) eI W U.heap.size P3 v3 vs
  r4 : Kd.R k37 eH W U.heap.size (fun k => p1 ≤ k ∧ k < pg) v4 l
  b8 : W.heap[b8]? = some o8
section
variable {eC eI eS eH : Nat} {U W W' : World} {p1 pg : Nat} {P Q P2 P3 : Nat → Prop} {vt vo v1 v2 v3 v4 : Value} {tk ov : List (List Int)} {cs : List S83} {hs vs : List Int} {l : List S37} {bx b8 : Nat} {ob o8 : Obj}
theorem XD.below (h : XD eI eS U W pg P Q vt vo tk ov bx ob) (hb : Below W.heap.size W W') : XD eI eS U W' pg P Q vt vo tk ov bx ob :=
  ⟨below_step h.bel hb,h.ap,h.lo,h.hb,Kd.S_below h.st hb,Kd.S_below h.so hb,blk_below h.bx hb⟩
theorem XD.kept (h : XD eI eS U W pg P Q vt vo tk ov bx ob) {S : Nat → Prop} (hk : Kept W W' S) (hS : ∀ k,S k → k < pg) (hb : Below U.heap.size U W') : XD eI eS U W' pg P Q vt vo tk ov bx ob :=
  ⟨hb,h.ap,h.lo,h.hb,Kd.S_kept h.st hk (fun k h1 h2 => by have:=hS k h2;have:=h.lo k (Or.inl h1);omega),Kd.S_kept h.so hk (fun k h1 h2 => by have:=hS k h2;have:=h.lo k (Or.inr h1);omega),blk_kept h.bx hk (fun h2 => by have:=hS _ h2;have:=h.hb;omega)⟩
theorem XR.below (h : XR eC eI eH U W p1 pg P2 P3 v1 v2 v3 v4 cs hs vs l b8 o8) (hb : Below W.heap.size W W') : XR eC eI eH U W' p1 pg P2 P3 v1 v2 v3 v4 cs hs vs l b8 o8 :=
  ⟨h.ap,h.a2,h.a3,Kd.R_below h.r1 hb,Kd.R_below h.r2 hb,Kd.R_below h.r3 hb,Kd.R_below h.r4 hb,blk_below h.b8 hb⟩
end
theorem R_rngI {α : Type} {d : Kd α} {e base : Nat} {ok : Nat → Prop} {W : World} {v : Value} {xs : List α} (h : Kd.R d e W base ok v xs) : Kd.R d e W base (fun k => ok k ∧ base ≤ k ∧ k < W.heap.size) v xs:=Kd.R_mono (Kd.R_bound h) (fun _ hk => ⟨hk.1,hk.2.1,hk.2.2.1⟩)
theorem S_rngI {α : Type} {d : Kd α} {e base : Nat} {ok : Nat → Prop} {W : World} {v : Value} {xs : List α} (h : Kd.S d e W base ok v xs) : Kd.S d e W base (fun k => ok k ∧ base ≤ k ∧ k < W.heap.size) v xs:=Kd.S_mono (Kd.S_bound h) (fun _ hk => ⟨hk.1,hk.2.1,hk.2.2.1⟩)
theorem cell2 {W : World} {b t : Nat} {a0 a1 : Value} (h : W.heap[b]? = some (.cells #[a0,a1] t (0,0))) : W.cell? ⟨b,0,none⟩ = some a0 ∧ W.cell? ⟨b,1,none⟩ = some a1:=⟨(blk_cell h 0).trans rfl,(blk_cell h 1).trans rfl⟩
theorem cell4 {W : World} {b t : Nat} {a0 a1 a2 a3 : Value} (h : W.heap[b]? = some (.cells #[a0, a1, a2, a3] t (0, 0))) :
    W.cell? ⟨b,0,none⟩ = some a0 ∧ W.cell? ⟨b,1,none⟩ = some a1 ∧ W.cell? ⟨b,2,none⟩ = some a2 ∧ W.cell? ⟨b,3,none⟩ = some a3 :=
  ⟨(blk_cell h 0).trans rfl,(blk_cell h 1).trans rfl,(blk_cell h 2).trans rfl,(blk_cell h 3).trans rfl⟩

end Go.Proofs.Ytblcnbnphjnhdaa.PAll
