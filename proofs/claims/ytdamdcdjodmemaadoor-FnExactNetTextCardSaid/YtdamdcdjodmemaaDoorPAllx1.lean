/- Proved here: contracts of functions of the given program, or lemmas on them, for the laws of this seat. Written by xprint.py, a program of this session, on the ground of the kit's print; parts by hand: wip/x/ext. -/
import Derived.Test.YtdamdcdjodmemaaDoorPAllx0
import Derived.Test.YtdamdcdjodmemaaDoorPAllx2
namespace Go.Proofs.YtdamdcdjodmemaaDoor.PAll
open Go.RowKit Go.Proofs.YtdamdcdjodmemaaDoorW.PrintWords Go.Proofs.YtdamdcdjodmemaaDoorW.PrintLast Go.Proofs.YtdamdcdjodmemaaDoorW.PrintMore
attribute [local go_sem] max2_int min2_int max_two min_two max_three min_three max_four min_four   -- for this text's walks alone
set_option linter.unusedVariables false
set_option linter.unusedSimpArgs false

/-! ### laws_szCableS: function 9 -/
def laws_szCableS.f (l0 : List (S58)) (a1 : Int) : Option (Int):=if (wrap64 (a1 - (l0.length : Int))) < 0 then (some (-1)) else (some (wrap64 (a1 - (l0.length : Int))))
set_option maxHeartbeats 8000000 in
set_option maxRecDepth 100000 in
theorem laws_szCableS.calls (A0 : Option Addr) (c0 : Nat) (l0 : List (S58)) (a1 : Int) (r : Int) (w : World) (hr0 : Kd.C k58 w A0 l0.length l0) (hc0 : l0.length ≤ c0) (h : laws_szCableS.f l0 a1 = some r) :
  Calls Tryd.prog 9 #[.slice A0 l0.length c0,.int .i64 a1] w fun e w' => e = .returned (.int .i64 r) ∧ Drawn0 w w':=by
 have HR0:=mk_ hr0
 have HC0:=mk_ hc0
 clear hr0 hc0
 have H : (if (wrap64 (a1 - (l0.length : Int))) < 0 then (some (-1)) else (some (wrap64 (a1 - (l0.length : Int))))) = some r:=h
 clear h
 by_cases c3 : (wrap64 (a1 - (l0.length : Int))) < 0
 ·rw [if_pos c3] at H
  have c3b0 : decide ((wrap64 (a1 - (l0.length : Int))) < 0) = true:=decide_eq_true c3
  clear c3
  obtain rfl:=Option.some.inj H
  go_enter Tryd.func9,Tryd.ntmps9
  go_wp2
  go_ret
  exact ⟨by first|rfl|(simp;done)|(simp [*];done),by repeat (first|exact Drawn0.refl _|apply Drawn0.step)⟩
 ·rw [if_neg c3] at H
  have c3b0 : decide ((wrap64 (a1 - (l0.length : Int))) < 0) = false:=decide_eq_false c3
  clear c3
  obtain rfl:=Option.some.inj H
  go_enter Tryd.func9,Tryd.ntmps9
  go_wp2
  go_ret
  exact ⟨by first|rfl|(simp;done)|(simp [*];done),by repeat (first|exact Drawn0.refl _|apply Drawn0.step)⟩

/-! ### laws_szIntS: function 10 -/
def laws_szIntS.f (l0 : List Int) (a1 : Int) : Option (Int):=if (wrap64 (a1 - (l0.length : Int))) < 0 then (some (-1)) else (some (wrap64 (a1 - (l0.length : Int))))
set_option maxHeartbeats 8000000 in
set_option maxRecDepth 100000 in
theorem laws_szIntS.calls (A0 : Option Addr) (c0 : Nat) (l0 : List Int) (a1 : Int) (r : Int) (w : World) (hr0 : Kd.C (Kd.int .i64) w A0 l0.length l0) (hc0 : l0.length ≤ c0) (h : laws_szIntS.f l0 a1 = some r) :
  Calls Tryd.prog 10 #[.slice A0 l0.length c0,.int .i64 a1] w fun e w' => e = .returned (.int .i64 r) ∧ Drawn0 w w':=by
 have HR0:=mk_ hr0
 have HC0:=mk_ hc0
 clear hr0 hc0
 have H : (if (wrap64 (a1 - (l0.length : Int))) < 0 then (some (-1)) else (some (wrap64 (a1 - (l0.length : Int))))) = some r:=h
 clear h
 by_cases c3 : (wrap64 (a1 - (l0.length : Int))) < 0
 ·rw [if_pos c3] at H
  have c3b0 : decide ((wrap64 (a1 - (l0.length : Int))) < 0) = true:=decide_eq_true c3
  clear c3
  obtain rfl:=Option.some.inj H
  go_enter Tryd.func10,Tryd.ntmps10
  go_wp2
  go_ret
  exact ⟨by first|rfl|(simp;done)|(simp [*];done),by repeat (first|exact Drawn0.refl _|apply Drawn0.step)⟩
 ·rw [if_neg c3] at H
  have c3b0 : decide ((wrap64 (a1 - (l0.length : Int))) < 0) = false:=decide_eq_false c3
  clear c3
  obtain rfl:=Option.some.inj H
  go_enter Tryd.func10,Tryd.ntmps10
  go_wp2
  go_ret
  exact ⟨by first|rfl|(simp;done)|(simp [*];done),by repeat (first|exact Drawn0.refl _|apply Drawn0.step)⟩

/-! ### laws_szNet: function 4 -/
def laws_szNet.f (a0_0 : Int) (l0_1 : List (S58)) (l0_2 : List Int) (l0_3 : List Int) (a1 : Int) : Option (Int):=(laws_szCableS.f l0_1 a1).bind fun t102 => (if t102 < 0 then (some (-1)) else ((laws_szIntS.f l0_2 t102).bind fun t103 => (if t103 < 0 then (some (-1)) else ((laws_szIntS.f l0_3 t103).bind fun t104 => (if t104 < 0 then (some (-1)) else (some t104))))))
set_option maxHeartbeats 8000000 in
set_option maxRecDepth 100000 in
theorem laws_szNet.calls (a0_0 : Int) (A0_1 : Option Addr) (c0_1 : Nat) (l0_1 : List (S58)) (A0_2 : Option Addr) (c0_2 : Nat) (l0_2 : List Int) (A0_3 : Option Addr) (c0_3 : Nat) (l0_3 : List Int) (a1 : Int) (r : Int) (w : World) (hr0_1 : Kd.C k58 w A0_1 l0_1.length l0_1) (hc0_1 : l0_1.length ≤ c0_1) (hr0_2 : Kd.C (Kd.int .i64) w A0_2 l0_2.length l0_2) (hc0_2 : l0_2.length ≤ c0_2) (hr0_3 : Kd.C (Kd.int .i64) w A0_3 l0_3.length l0_3) (hc0_3 : l0_3.length ≤ c0_3) (h : laws_szNet.f a0_0 l0_1 l0_2 l0_3 a1 = some r) :
  Calls Tryd.prog 4 #[.agg #[.int .i64 a0_0,.slice A0_1 l0_1.length c0_1,.slice A0_2 l0_2.length c0_2,.slice A0_3 l0_3.length c0_3],.int .i64 a1] w fun e w' => e = .returned (.int .i64 r) ∧ Below w.heap.size w w':=by
 have hu25:=Tryd.underlying25
 have HR0_1:=mk_ hr0_1
 have HC0_1:=mk_ hc0_1
 clear hr0_1 hc0_1
 have HR0_2:=mk_ hr0_2
 have HC0_2:=mk_ hc0_2
 clear hr0_2 hc0_2
 have HR0_3:=mk_ hr0_3
 have HC0_3:=mk_ hc0_3
 clear hr0_3 hc0_3
 have HB:=mk_ (Below.refl w.heap.size w)
 have H : ((laws_szCableS.f l0_1 a1).bind fun t102 => (if t102 < 0 then (some (-1)) else ((laws_szIntS.f l0_2 t102).bind fun t103 => (if t103 < 0 then (some (-1)) else ((laws_szIntS.f l0_3 t103).bind fun t104 => (if t104 < 0 then (some (-1)) else (some t104))))))) = some r:=h
 clear h
 replace H:=Option.bind_eq_some_iff.mp H
 obtain ⟨t102,A30,H⟩:=H
 replace H : (if t102 < 0 then (some (-1)) else ((laws_szIntS.f l0_2 t102).bind fun t103 => (if t103 < 0 then (some (-1)) else ((laws_szIntS.f l0_3 t103).bind fun t104 => (if t104 < 0 then (some (-1)) else (some t104)))))) = some r:=H
 have A3:=mk_ A30
 clear A30
 by_cases c4 : t102 < 0
 ·rw [if_pos c4] at H
  have c4b0 : decide (t102 < 0) = true:=decide_eq_true c4
  clear c4
  obtain rfl:=Option.some.inj H
  go_enter Tryd.func4,Tryd.ntmps4
  go_wp2_with (first|((with_reducible refine gate_dst (N:=2) rfl ?_);refine box_event ?hg (N:=2) ?hd (cs:=#[.int .i64 a0_0,.slice A0_1 l0_1.length c0_1,.slice A0_2 l0_2.length c0_2,.slice A0_3 l0_3.length c0_3]) (t:=25) ?hr ?_;(case hd => rfl);(case hg => rfl);(case hr => first|(go_simp;done)|(go_simp;rfl));intro gb101 hg w5 hbox hb;have n0_:=mk_ (st_ (qb_ HB) hb);have n1_:=mk_ (hbox);have n2_:=mk_ ((by rw [hg];exact (bz_ (qb_ HB)) : w.heap.size ≤ gb101));have n3_:=mk_ ((by rw [hg];exact (bz_ (qb_ HB)) : w.heap.size ≤ gb101));clear HB;have HB:=n0_;have BK101:=n1_;have GW101:=n2_;have GE101:=n3_;clear n0_ n1_ n2_ n3_ hb hbox hg;have hcz6_0 : w5.cell? ⟨gb101,0,none⟩ = some (.int .i64 a0_0):=(bc_ BK101.out 0).trans rfl;have hcz6_1 : w5.cell? ⟨gb101,1,none⟩ = some (.slice A0_1 l0_1.length c0_1):=(bc_ BK101.out 1).trans rfl;have hcz6_2 : w5.cell? ⟨gb101,2,none⟩ = some (.slice A0_2 l0_2.length c0_2):=(bc_ BK101.out 2).trans rfl;have hcz6_3 : w5.cell? ⟨gb101,3,none⟩ = some (.slice A0_3 l0_3.length c0_3):=(bc_ BK101.out 3).trans rfl;have hfz6_0:=bf_ BK101.out 0;have hfz6_1:=bf_ BK101.out 1;have hfz6_2:=bf_ BK101.out 2;have hfz6_3:=bf_ BK101.out 3)|((with_reducible refine gate_callee (f:=9) rfl ?_);refine goesL_ (some 8) rfl rfl Tryd.func9 (by kernel_rfl) rfl #[.slice A0_1 l0_1.length c0_1,.int .i64 a1] rfl qm_ ?_;(with_reducible refine (laws_szCableS.calls _ _ l0_1 a1 t102 _ ?side1 ?side2 A3.out).mono ?_);(case side1 => exact qn_ HR0_1 HB);(case side2 => exact HC0_1.out);rintro e w' ⟨rfl,⟨nd,rfl⟩⟩;refine ⟨_,rfl,?_⟩))
  go_ret
  exact ⟨qe_,u0_ HB GE101⟩
 ·rw [if_neg c4] at H
  have c4b0 : decide (t102 < 0) = false:=decide_eq_false c4
  clear c4
  replace H:=Option.bind_eq_some_iff.mp H
  obtain ⟨t103,A70,H⟩:=H
  replace H : (if t103 < 0 then (some (-1)) else ((laws_szIntS.f l0_3 t103).bind fun t104 => (if t104 < 0 then (some (-1)) else (some t104)))) = some r:=H
  have A7:=mk_ A70
  clear A70
  by_cases c8 : t103 < 0
  ·rw [if_pos c8] at H
   have c8b0 : decide (t103 < 0) = true:=decide_eq_true c8
   clear c8
   obtain rfl:=Option.some.inj H
   go_enter Tryd.func4,Tryd.ntmps4
   go_wp2_with (first|((with_reducible refine gate_dst (N:=2) rfl ?_);refine box_event ?hg (N:=2) ?hd (cs:=#[.int .i64 a0_0,.slice A0_1 l0_1.length c0_1,.slice A0_2 l0_2.length c0_2,.slice A0_3 l0_3.length c0_3]) (t:=25) ?hr ?_;(case hd => rfl);(case hg => rfl);(case hr => first|(go_simp;done)|(go_simp;rfl));intro gb101 hg w9 hbox hb;have n0_:=mk_ (st_ (qb_ HB) hb);have n1_:=mk_ (hbox);have n2_:=mk_ ((by rw [hg];exact (bz_ (qb_ HB)) : w.heap.size ≤ gb101));have n3_:=mk_ ((by rw [hg];exact (bz_ (qb_ HB)) : w.heap.size ≤ gb101));clear HB;have HB:=n0_;have BK101:=n1_;have GW101:=n2_;have GE101:=n3_;clear n0_ n1_ n2_ n3_ hb hbox hg;have hcz10_0 : w9.cell? ⟨gb101,0,none⟩ = some (.int .i64 a0_0):=(bc_ BK101.out 0).trans rfl;have hcz10_1 : w9.cell? ⟨gb101,1,none⟩ = some (.slice A0_1 l0_1.length c0_1):=(bc_ BK101.out 1).trans rfl;have hcz10_2 : w9.cell? ⟨gb101,2,none⟩ = some (.slice A0_2 l0_2.length c0_2):=(bc_ BK101.out 2).trans rfl;have hcz10_3 : w9.cell? ⟨gb101,3,none⟩ = some (.slice A0_3 l0_3.length c0_3):=(bc_ BK101.out 3).trans rfl;have hfz10_0:=bf_ BK101.out 0;have hfz10_1:=bf_ BK101.out 1;have hfz10_2:=bf_ BK101.out 2;have hfz10_3:=bf_ BK101.out 3)|((with_reducible refine gate_callee (f:=9) rfl ?_);refine goesL_ (some 8) rfl rfl Tryd.func9 (by kernel_rfl) rfl #[.slice A0_1 l0_1.length c0_1,.int .i64 a1] rfl qm_ ?_;(with_reducible refine (laws_szCableS.calls _ _ l0_1 a1 t102 _ ?side1 ?side2 A3.out).mono ?_);(case side1 => exact qn_ HR0_1 HB);(case side2 => exact HC0_1.out);rintro e w' ⟨rfl,⟨nd,rfl⟩⟩;refine ⟨_,rfl,?_⟩)|((with_reducible refine gate_callee (f:=10) rfl ?_);refine goesL_ (some 14) rfl rfl Tryd.func10 (by kernel_rfl) rfl #[.slice A0_2 l0_2.length c0_2,.int .i64 t102] rfl qm_ ?_;(with_reducible refine (laws_szIntS.calls _ _ l0_2 t102 t103 _ ?side1 ?side2 A7.out).mono ?_);(case side1 => repeat (first|exact (cb_ HR0_2.out (qc_ HB GE101))|(with_reducible refine ca_ ?_ _)|(with_reducible refine cn_ ?_ _)|(with_reducible refine cd_ ?_)));(case side2 => exact HC0_2.out);rintro e w' ⟨rfl,⟨nd,rfl⟩⟩;refine ⟨_,rfl,?_⟩))
   go_ret
   exact ⟨qe_,u0_ HB GE101⟩
  ·rw [if_neg c8] at H
   have c8b0 : decide (t103 < 0) = false:=decide_eq_false c8
   clear c8
   replace H:=Option.bind_eq_some_iff.mp H
   obtain ⟨t104,A110,H⟩:=H
   replace H : (if t104 < 0 then (some (-1)) else (some t104)) = some r:=H
   have A11:=mk_ A110
   clear A110
   by_cases c12 : t104 < 0
   ·rw [if_pos c12] at H
    have c12b0 : decide (t104 < 0) = true:=decide_eq_true c12
    clear c12
    obtain rfl:=Option.some.inj H
    go_enter Tryd.func4,Tryd.ntmps4
    go_wp2_with (first|((with_reducible refine gate_dst (N:=2) rfl ?_);refine box_event ?hg (N:=2) ?hd (cs:=#[.int .i64 a0_0,.slice A0_1 l0_1.length c0_1,.slice A0_2 l0_2.length c0_2,.slice A0_3 l0_3.length c0_3]) (t:=25) ?hr ?_;(case hd => rfl);(case hg => rfl);(case hr => first|(go_simp;done)|(go_simp;rfl));intro gb101 hg w13 hbox hb;have n0_:=mk_ (st_ (qb_ HB) hb);have n1_:=mk_ (hbox);have n2_:=mk_ ((by rw [hg];exact (bz_ (qb_ HB)) : w.heap.size ≤ gb101));have n3_:=mk_ ((by rw [hg];exact (bz_ (qb_ HB)) : w.heap.size ≤ gb101));clear HB;have HB:=n0_;have BK101:=n1_;have GW101:=n2_;have GE101:=n3_;clear n0_ n1_ n2_ n3_ hb hbox hg;have hcz14_0 : w13.cell? ⟨gb101,0,none⟩ = some (.int .i64 a0_0):=(bc_ BK101.out 0).trans rfl;have hcz14_1 : w13.cell? ⟨gb101,1,none⟩ = some (.slice A0_1 l0_1.length c0_1):=(bc_ BK101.out 1).trans rfl;have hcz14_2 : w13.cell? ⟨gb101,2,none⟩ = some (.slice A0_2 l0_2.length c0_2):=(bc_ BK101.out 2).trans rfl;have hcz14_3 : w13.cell? ⟨gb101,3,none⟩ = some (.slice A0_3 l0_3.length c0_3):=(bc_ BK101.out 3).trans rfl;have hfz14_0:=bf_ BK101.out 0;have hfz14_1:=bf_ BK101.out 1;have hfz14_2:=bf_ BK101.out 2;have hfz14_3:=bf_ BK101.out 3)|((with_reducible refine gate_callee (f:=9) rfl ?_);refine goesL_ (some 8) rfl rfl Tryd.func9 (by kernel_rfl) rfl #[.slice A0_1 l0_1.length c0_1,.int .i64 a1] rfl qm_ ?_;(with_reducible refine (laws_szCableS.calls _ _ l0_1 a1 t102 _ ?side1 ?side2 A3.out).mono ?_);(case side1 => exact qn_ HR0_1 HB);(case side2 => exact HC0_1.out);rintro e w' ⟨rfl,⟨nd,rfl⟩⟩;refine ⟨_,rfl,?_⟩)|((with_reducible refine gate_callee (f:=10) rfl ?_);refine goesL_ (some 14) rfl rfl Tryd.func10 (by kernel_rfl) rfl #[.slice A0_2 l0_2.length c0_2,.int .i64 t102] rfl qm_ ?_;(with_reducible refine (laws_szIntS.calls _ _ l0_2 t102 t103 _ ?side1 ?side2 A7.out).mono ?_);(case side1 => repeat (first|exact (cb_ HR0_2.out (qc_ HB GE101))|(with_reducible refine ca_ ?_ _)|(with_reducible refine cn_ ?_ _)|(with_reducible refine cd_ ?_)));(case side2 => exact HC0_2.out);rintro e w' ⟨rfl,⟨nd,rfl⟩⟩;refine ⟨_,rfl,?_⟩)|((with_reducible refine gate_callee (f:=10) rfl ?_);refine goesL_ (some 20) rfl rfl Tryd.func10 (by kernel_rfl) rfl #[.slice A0_3 l0_3.length c0_3,.int .i64 t103] rfl qm_ ?_;(with_reducible refine (laws_szIntS.calls _ _ l0_3 t103 t104 _ ?side1 ?side2 A11.out).mono ?_);(case side1 => repeat (first|exact (cb_ HR0_3.out (qc_ HB GE101))|(with_reducible refine ca_ ?_ _)|(with_reducible refine cn_ ?_ _)|(with_reducible refine cd_ ?_)));(case side2 => exact HC0_3.out);rintro e w' ⟨rfl,⟨nd,rfl⟩⟩;refine ⟨_,rfl,?_⟩))
    go_ret
    exact ⟨qe_,u0_ HB GE101⟩
   ·rw [if_neg c12] at H
    have c12b0 : decide (t104 < 0) = false:=decide_eq_false c12
    clear c12
    obtain rfl:=Option.some.inj H
    go_enter Tryd.func4,Tryd.ntmps4
    go_wp2_with (first|((with_reducible refine gate_dst (N:=2) rfl ?_);refine box_event ?hg (N:=2) ?hd (cs:=#[.int .i64 a0_0,.slice A0_1 l0_1.length c0_1,.slice A0_2 l0_2.length c0_2,.slice A0_3 l0_3.length c0_3]) (t:=25) ?hr ?_;(case hd => rfl);(case hg => rfl);(case hr => first|(go_simp;done)|(go_simp;rfl));intro gb101 hg w15 hbox hb;have n0_:=mk_ (st_ (qb_ HB) hb);have n1_:=mk_ (hbox);have n2_:=mk_ ((by rw [hg];exact (bz_ (qb_ HB)) : w.heap.size ≤ gb101));have n3_:=mk_ ((by rw [hg];exact (bz_ (qb_ HB)) : w.heap.size ≤ gb101));clear HB;have HB:=n0_;have BK101:=n1_;have GW101:=n2_;have GE101:=n3_;clear n0_ n1_ n2_ n3_ hb hbox hg;have hcz16_0 : w15.cell? ⟨gb101,0,none⟩ = some (.int .i64 a0_0):=(bc_ BK101.out 0).trans rfl;have hcz16_1 : w15.cell? ⟨gb101,1,none⟩ = some (.slice A0_1 l0_1.length c0_1):=(bc_ BK101.out 1).trans rfl;have hcz16_2 : w15.cell? ⟨gb101,2,none⟩ = some (.slice A0_2 l0_2.length c0_2):=(bc_ BK101.out 2).trans rfl;have hcz16_3 : w15.cell? ⟨gb101,3,none⟩ = some (.slice A0_3 l0_3.length c0_3):=(bc_ BK101.out 3).trans rfl;have hfz16_0:=bf_ BK101.out 0;have hfz16_1:=bf_ BK101.out 1;have hfz16_2:=bf_ BK101.out 2;have hfz16_3:=bf_ BK101.out 3)|((with_reducible refine gate_callee (f:=9) rfl ?_);refine goesL_ (some 8) rfl rfl Tryd.func9 (by kernel_rfl) rfl #[.slice A0_1 l0_1.length c0_1,.int .i64 a1] rfl qm_ ?_;(with_reducible refine (laws_szCableS.calls _ _ l0_1 a1 t102 _ ?side1 ?side2 A3.out).mono ?_);(case side1 => exact qn_ HR0_1 HB);(case side2 => exact HC0_1.out);rintro e w' ⟨rfl,⟨nd,rfl⟩⟩;refine ⟨_,rfl,?_⟩)|((with_reducible refine gate_callee (f:=10) rfl ?_);refine goesL_ (some 14) rfl rfl Tryd.func10 (by kernel_rfl) rfl #[.slice A0_2 l0_2.length c0_2,.int .i64 t102] rfl qm_ ?_;(with_reducible refine (laws_szIntS.calls _ _ l0_2 t102 t103 _ ?side1 ?side2 A7.out).mono ?_);(case side1 => repeat (first|exact (cb_ HR0_2.out (qc_ HB GE101))|(with_reducible refine ca_ ?_ _)|(with_reducible refine cn_ ?_ _)|(with_reducible refine cd_ ?_)));(case side2 => exact HC0_2.out);rintro e w' ⟨rfl,⟨nd,rfl⟩⟩;refine ⟨_,rfl,?_⟩)|((with_reducible refine gate_callee (f:=10) rfl ?_);refine goesL_ (some 20) rfl rfl Tryd.func10 (by kernel_rfl) rfl #[.slice A0_3 l0_3.length c0_3,.int .i64 t103] rfl qm_ ?_;(with_reducible refine (laws_szIntS.calls _ _ l0_3 t103 t104 _ ?side1 ?side2 A11.out).mono ?_);(case side1 => repeat (first|exact (cb_ HR0_3.out (qc_ HB GE101))|(with_reducible refine ca_ ?_ _)|(with_reducible refine cn_ ?_ _)|(with_reducible refine cd_ ?_)));(case side2 => exact HC0_3.out);rintro e w' ⟨rfl,⟨nd,rfl⟩⟩;refine ⟨_,rfl,?_⟩))
    go_ret
    exact ⟨qe_,u0_ HB GE101⟩

/-! ### spec_l1In: function 21 -/
def spec_l1In.f (a0 : Int) (a1 : Int) (a2 : Int) : Option (Bool):=if a0 ≥ a1 then (some (decide (a0 ≤ a2))) else (some false)
set_option maxHeartbeats 8000000 in
set_option maxRecDepth 100000 in
theorem spec_l1In.calls (a0 : Int) (a1 : Int) (a2 : Int) (r : Bool) (w : World) (h : spec_l1In.f a0 a1 a2 = some r) :
  Calls Tryd.prog 21 #[.int .i64 a0,.int .i64 a1,.int .i64 a2] w fun e w' => e = .returned (.bool r) ∧ Drawn0 w w':=by
 have H : (if a0 ≥ a1 then (some (decide (a0 ≤ a2))) else (some false)) = some r:=h
 clear h
 by_cases c4 : a0 ≥ a1
 ·rw [if_pos c4] at H
  have c4b0 : decide (a1 ≤ a0) = true:=decide_eq_true c4
  clear c4
  obtain rfl:=Option.some.inj H
  go_enter Tryd.func21,Tryd.ntmps21
  go_wp2
  go_ret
  exact ⟨by first|rfl|(simp;done)|(simp [*];done),by repeat (first|exact Drawn0.refl _|apply Drawn0.step)⟩
 ·rw [if_neg c4] at H
  have c4b0 : decide (a1 ≤ a0) = false:=decide_eq_false c4
  clear c4
  obtain rfl:=Option.some.inj H
  go_enter Tryd.func21,Tryd.ntmps21
  go_wp2
  go_ret
  exact ⟨by first|rfl|(simp;done)|(simp [*];done),by repeat (first|exact Drawn0.refl _|apply Drawn0.step)⟩

/-! ### spec_l10Vlan: function 22 -/
def spec_l10Vlan.f (a0 : Int) : Option (Bool):=(spec_l1In.f a0 1 9).bind fun t105 => (some t105)
set_option maxHeartbeats 8000000 in
set_option maxRecDepth 100000 in
theorem spec_l10Vlan.calls (a0 : Int) (r : Bool) (w : World) (h : spec_l10Vlan.f a0 = some r) :
  Calls Tryd.prog 22 #[.int .i64 a0] w fun e w' => e = .returned (.bool r) ∧ Drawn0 w w':=by
 have H : ((spec_l1In.f a0 1 9).bind fun t105 => (some t105)) = some r:=h
 clear h
 replace H:=Option.bind_eq_some_iff.mp H
 obtain ⟨t105,A20,H⟩:=H
 replace H : (some t105) = some r:=H
 have A2:=mk_ A20
 clear A20
 obtain rfl:=Option.some.inj H
 go_enter Tryd.func22,Tryd.ntmps22
 go_wp2_with (first|((with_reducible refine gate_callee (f:=21) rfl ?_);refine goesL_ (some 4) rfl rfl Tryd.func21 (by kernel_rfl) rfl #[.int .i64 a0,.int .i64 1,.int .i64 9] rfl qm_ ?_;(with_reducible refine (spec_l1In.calls a0 1 9 t105 _ A2.out).mono ?_);rintro e w' ⟨rfl,⟨nd,rfl⟩⟩;refine ⟨_,rfl,?_⟩))
 go_ret
 exact ⟨by first|rfl|(simp;done)|(simp [*];done),by repeat (first|exact Drawn0.refl _|apply Drawn0.step)⟩

/-! ### spec_CablesValid: function 23 -/
mutual
def spec_CablesValid.j0 : Nat → Int → List (S39) → Bool → Option (Bool)
 | 0,_,_,_ => none
 | k + 1,x0,x1,x14 => if x14 = true then (some false) else (spec_CablesValid.l0 k x0 x1 0)
def spec_CablesValid.l0 : Nat → Int → List (S39) → Int → Option (Bool)
 | 0,_,_,_ => none
 | k + 1,x0,x1,x5 => if x5 < (x1.length : Int) then (if 0 ≤ x5 then ((spec_l1In.f ((rd_T39 x1 x5).f0) 0 (wrap64 (x0 - 1))).bind fun t109 => (if t109 = true then ((spec_l1In.f ((rd_T39 x1 x5).f1) 0 (wrap64 (x0 - 1))).bind fun t110 => (if t110 = true then (if ((rd_T39 x1 x5).f0) = ((rd_T39 x1 x5).f1) then (some false) else ((spec_l1In.f ((rd_T39 x1 x5).f2) 1 99).bind fun t111 => (if t111 = true then (spec_CablesValid.l0 k x0 x1 (wrap64 (x5 + 1))) else (some false)))) else (some false))) else (some false))) else (none)) else (some true)
end
def spec_CablesValid.f (k : Nat) (a0 : Int) (l1 : List (S39)) : Option (Bool):=(spec_l1In.f a0 1 8).bind fun t106 => (if t106 = true then (spec_CablesValid.j0 k a0 l1 (decide ((l1.length : Int) > 20))) else (spec_CablesValid.j0 k a0 l1 true))
theorem spec_CablesValid.mono_l : ∀ k,(∀ y0 y1 y2,LeO (spec_CablesValid.j0 k y0 y1 y2) (spec_CablesValid.j0 (k + 1) y0 y1 y2)) ∧ (∀ y0 y1 y2,LeO (spec_CablesValid.l0 k y0 y1 y2) (spec_CablesValid.l0 (k + 1) y0 y1 y2))
 | 0 => ⟨fun _ _ _ r h => by simp [spec_CablesValid.j0] at h,fun _ _ _ r h => by simp [spec_CablesValid.l0] at h⟩
 | k + 1 => by
  obtain ⟨ih0,ih1⟩:=spec_CablesValid.mono_l k
  refine ⟨?_,?_⟩
  ·intro y0 y1 y2
   unfold spec_CablesValid.j0
   repeat' first
   | (with_reducible exact ih0 _ _ _)
   | (with_reducible exact ih1 _ _ _)
   | (with_reducible exact LeO.refl _)
   | (with_reducible exact LeO.none _)
   | (with_reducible refine LeO.ite ?_ ?_)
   | (with_reducible refine LeO.bind ?_ (fun _ => ?_))
   | exact ih0 _ _ _
   | exact ih1 _ _ _
   | exact LeO.none _
   | refine LeO.ite ?_ ?_
   | refine LeO.bind ?_ (fun _ => ?_)
  ·intro y0 y1 y2
   unfold spec_CablesValid.l0
   repeat' first
   | (with_reducible exact ih0 _ _ _)
   | (with_reducible exact ih1 _ _ _)
   | (with_reducible exact LeO.refl _)
   | (with_reducible exact LeO.none _)
   | (with_reducible refine LeO.ite ?_ ?_)
   | (with_reducible refine LeO.bind ?_ (fun _ => ?_))
   | exact ih0 _ _ _
   | exact ih1 _ _ _
   | exact LeO.none _
   | refine LeO.ite ?_ ?_
   | refine LeO.bind ?_ (fun _ => ?_)
theorem spec_CablesValid.mono : ∀ a0 a1 k,LeO (spec_CablesValid.f k a0 a1) (spec_CablesValid.f (k + 1) a0 a1):=by
 intro a0 a1 k
 obtain ⟨ih0,ih1⟩:=spec_CablesValid.mono_l k
 unfold spec_CablesValid.f
 repeat' first
   | (with_reducible exact ih0 _ _ _)
   | (with_reducible exact ih1 _ _ _)
   | (with_reducible exact LeO.refl _)
   | (with_reducible exact LeO.none _)
   | (with_reducible refine LeO.ite ?_ ?_)
   | (with_reducible refine LeO.bind ?_ (fun _ => ?_))
   | exact ih0 _ _ _
   | exact ih1 _ _ _
   | exact LeO.none _
   | refine LeO.ite ?_ ?_
   | refine LeO.bind ?_ (fun _ => ?_)
set_option maxHeartbeats 8000000 in
set_option maxRecDepth 100000 in
theorem spec_CablesValid.calls (k : Nat) (a0 : Int) (A1 : Option Addr) (c1 : Nat) (l1 : List (S39)) (r : Bool) (w : World) (hr1 : Kd.C k39 w A1 l1.length l1) (hc1 : l1.length ≤ c1) (h : spec_CablesValid.f k a0 l1 = some r) :
  Calls Tryd.prog 23 #[.int .i64 a0,.slice A1 l1.length c1] w fun e w' => e = .returned (.bool r) ∧ Below w.heap.size w w':=by
 have hu39:=Tryd.underlying39
 have HR1:=mk_ hr1
 have HC1:=mk_ hc1
 clear hr1 hc1
 have HB:=mk_ (Below.refl w.heap.size w)
 have H : ((spec_l1In.f a0 1 8).bind fun t106 => (if t106 = true then (spec_CablesValid.j0 k a0 l1 (decide ((l1.length : Int) > 20))) else (spec_CablesValid.j0 k a0 l1 true))) = some r:=h
 clear h
 have HC3:=mk_ H
 clear H
 go_enter Tryd.func23,Tryd.ntmps23
 go_upto_region 1 with (fail)
 go_cut [14] (fun v14 wc => ∃ (kq : Nat) (x14_2 : Bool),v14 = .bool x14_2 ∧ Aside0 (spec_CablesValid.j0 kq a0 l1 x14_2 = some r) ∧ Aside0 (kq ≤ k) ∧ Aside0 (Below w.heap.size w wc))
 case first =>
  have H:=HC3.out
  clear HC3
  replace H:=Option.bind_eq_some_iff.mp H
  obtain ⟨t106,A40,H⟩:=H
  replace H : (if t106 = true then (spec_CablesValid.j0 k a0 l1 (decide ((l1.length : Int) > 20))) else (spec_CablesValid.j0 k a0 l1 true)) = some r:=H
  have A4:=mk_ A40
  clear A40
  by_cases c5 : t106 = true
  ·subst c5
   have H1 : (spec_CablesValid.j0 k a0 l1 (decide ((l1.length : Int) > 20))) = some r:=by rw [if_pos rfl] at H;exact H
   clear H
   have H:=H1
   clear H1
   have H':=mk_ H
   clear H
   go_wp2_with (first|((with_reducible refine gate_callee (f:=21) rfl ?_);refine goesL_ (some 8) rfl rfl Tryd.func21 (by kernel_rfl) rfl #[.int .i64 a0,.int .i64 1,.int .i64 8] rfl qm_ ?_;(with_reducible refine (spec_l1In.calls a0 1 8 true _ A4.out).mono ?_);rintro e w' ⟨rfl,⟨nd,rfl⟩⟩;refine ⟨_,rfl,?_⟩))
   go_meet
   case rel => exact ⟨_,(decide ((l1.length : Int) > 20)),qf_,H',⟨by first|omega|exact Nat.le_refl _⟩,⟨u1_ HB⟩⟩
  ·replace c5:=Bool.eq_false_iff.mpr c5
   subst c5
   have H1 : (spec_CablesValid.j0 k a0 l1 true) = some r:=by rw [if_neg (show ¬ (false = true) by decide)] at H;exact H
   clear H
   have H:=H1
   clear H1
   have H':=mk_ H
   clear H
   go_wp2_with (first|((with_reducible refine gate_callee (f:=21) rfl ?_);refine goesL_ (some 8) rfl rfl Tryd.func21 (by kernel_rfl) rfl #[.int .i64 a0,.int .i64 1,.int .i64 8] rfl qm_ ?_;(with_reducible refine (spec_l1In.calls a0 1 8 false _ A4.out).mono ?_);rintro e w' ⟨rfl,⟨nd,rfl⟩⟩;refine ⟨_,rfl,?_⟩))
   go_meet
   case rel => exact ⟨_,(true),qf_,H',⟨by first|omega|exact Nat.le_refl _⟩,⟨u1_ HB⟩⟩
 case rest =>
  clear HC3
  try clear c1
  try clear c2
  try clear p2
  try clear c5
  obtain ⟨kq,x14_2,rfl,HA,HJ2,HB⟩:=hcut
  cases kq with
  | zero => exact absurd HA.out (by simp [spec_CablesValid.j0])
  | succ kj2 =>
   have H:=HA.out
   clear HA
   simp only [spec_CablesValid.j0] at H
   by_cases c6 : x14_2 = true
   ·subst c6
    have H1 : (some false) = some r:=by rw [if_pos rfl] at H;exact H
    clear H
    have H:=H1
    clear H1
    obtain rfl:=Option.some.inj H
    go_wp2
    go_ret
    exact ⟨qe_,u1_ HB⟩
   ·replace c6:=Bool.eq_false_iff.mpr c6
    subst c6
    have H1 : (spec_CablesValid.l0 kj2 a0 l1 0) = some r:=by rw [if_neg (show ¬ (false = true) by decide)] at H;exact H
    clear H
    have H:=H1
    clear H1
    have H':=mk_ H
    clear H
    go_wp2
    go_loopg [5] kj2 (fun kq v5 w' => ∃ (x5_2 : Int),v5 = .int .i64 x5_2 ∧ Aside0 (spec_CablesValid.l0 kq a0 l1 x5_2 = some r) ∧ Aside0 (kq ≤ kj2) ∧ Aside0 (Below w.heap.size w w'))
    case atStart => exact ⟨(0),qf_,H',⟨Nat.le_refl _⟩,⟨u1_ HB⟩⟩
    case round =>
     clear H'
     try clear c1
     try clear c2
     try clear p2
     try clear c5
     try clear c6
     try clear p2
     obtain ⟨x5_2,rfl,HA,HK2,HB⟩:=hrel
     cases gk with
     | zero => exact absurd HA.out (by simp [spec_CablesValid.l0])
     | succ k2 =>
      have H:=HA.out
      clear HA
      simp only [spec_CablesValid.l0] at H
      by_cases c7 : x5_2 < (l1.length : Int)
      ·rw [if_pos c7] at H
       have c7b0 : decide (x5_2 < (l1.length : Int)) = true:=decide_eq_true c7
       clear c7
       by_cases c8 : 0 ≤ x5_2
       ·rw [if_pos c8] at H
        have c8b0 : decide (0 ≤ x5_2) = true:=decide_eq_true c8
        clear c8
        replace H:=Option.bind_eq_some_iff.mp H
        obtain ⟨t109,A90,H⟩:=H
        replace H : (if t109 = true then ((spec_l1In.f ((rd_T39 l1 x5_2).f1) 0 (wrap64 (a0 - 1))).bind fun t110 => (if t110 = true then (if ((rd_T39 l1 x5_2).f0) = ((rd_T39 l1 x5_2).f1) then (some false) else ((spec_l1In.f ((rd_T39 l1 x5_2).f2) 1 99).bind fun t111 => (if t111 = true then (spec_CablesValid.l0 k2 a0 l1 (wrap64 (x5_2 + 1))) else (some false)))) else (some false))) else (some false)) = some r:=H
        have A9:=mk_ A90
        clear A90
        by_cases c10 : t109 = true
        ·subst c10
         have H1 : ((spec_l1In.f ((rd_T39 l1 x5_2).f1) 0 (wrap64 (a0 - 1))).bind fun t110 => (if t110 = true then (if ((rd_T39 l1 x5_2).f0) = ((rd_T39 l1 x5_2).f1) then (some false) else ((spec_l1In.f ((rd_T39 l1 x5_2).f2) 1 99).bind fun t111 => (if t111 = true then (spec_CablesValid.l0 k2 a0 l1 (wrap64 (x5_2 + 1))) else (some false)))) else (some false))) = some r:=by rw [if_pos rfl] at H;exact H
         clear H
         have H:=H1
         clear H1
         replace H:=Option.bind_eq_some_iff.mp H
         obtain ⟨t110,A110,H⟩:=H
         replace H : (if t110 = true then (if ((rd_T39 l1 x5_2).f0) = ((rd_T39 l1 x5_2).f1) then (some false) else ((spec_l1In.f ((rd_T39 l1 x5_2).f2) 1 99).bind fun t111 => (if t111 = true then (spec_CablesValid.l0 k2 a0 l1 (wrap64 (x5_2 + 1))) else (some false)))) else (some false)) = some r:=H
         have A11:=mk_ A110
         clear A110
         by_cases c12 : t110 = true
         ·subst c12
          have H1 : (if ((rd_T39 l1 x5_2).f0) = ((rd_T39 l1 x5_2).f1) then (some false) else ((spec_l1In.f ((rd_T39 l1 x5_2).f2) 1 99).bind fun t111 => (if t111 = true then (spec_CablesValid.l0 k2 a0 l1 (wrap64 (x5_2 + 1))) else (some false)))) = some r:=by rw [if_pos rfl] at H;exact H
          clear H
          have H:=H1
          clear H1
          by_cases c13 : ((rd_T39 l1 x5_2).f0) = ((rd_T39 l1 x5_2).f1)
          ·rw [if_pos c13] at H
           have c13b0 : (((rd_T39 l1 x5_2).f0) == ((rd_T39 l1 x5_2).f1)) = true:=beq_iff_eq.mpr c13
           have c13b1 : (((rd_T39 l1 x5_2).f0) != ((rd_T39 l1 x5_2).f1)) = false:=bne_eq_false_iff_eq.mpr c13
           clear c13
           obtain rfl:=Option.some.inj H
           have p107 : 0 ≤ (x5_2 : Int):=od_ qa_
           have q107 : x5_2 < (l1.length : Int):=od_ qa_
           obtain ⟨ad107,e107,hx107_0,hx107_1,hx107_2⟩:=at_T39 HR1.out x5_2 p107 q107
           cases e107
           replace hx107_0:=(HB.out.cell (wl_ w _ hx107_0)).trans hx107_0
           replace hx107_1:=(HB.out.cell (wl_ w _ hx107_1)).trans hx107_1
           replace hx107_2:=(HB.out.cell (wl_ w _ hx107_2)).trans hx107_2
           replace p107:=eq_true p107
           replace q107:=eq_true q107
           go_wp2_with (first|((with_reducible refine gate_dst (N:=6) rfl ?_);(try (refine gate_guard (by rfl) ?_;dsimp only));refine box_event ?hg (N:=6) ?hd (cs:=#[.int .i64 0,.int .i64 0,.int .i64 0]) (t:=39) ?hr ?_;(case hd => rfl);(case hg => rfl);(case hr => first|(go_simp;done)|(go_simp;rfl));intro gb108 hg w14 hbox hb;have n0_:=mk_ (st_ (qb_ HB) hb);have n1_:=mk_ (hbox);have n2_:=mk_ ((by rw [hg];exact (bz_ (qb_ HB)) : w.heap.size ≤ gb108));have n3_:=mk_ ((by rw [hg];exact (bz_ (qb_ HB)) : w.heap.size ≤ gb108));clear HB;have HB:=n0_;have BK108:=n1_;have GW108:=n2_;have GE108:=n3_;clear n0_ n1_ n2_ n3_ hb hbox hg;have hcz15_0 : w14.cell? ⟨gb108,0,none⟩ = some (.int .i64 0):=(bc_ BK108.out 0).trans rfl;have hcz15_1 : w14.cell? ⟨gb108,1,none⟩ = some (.int .i64 0):=(bc_ BK108.out 1).trans rfl;have hcz15_2 : w14.cell? ⟨gb108,2,none⟩ = some (.int .i64 0):=(bc_ BK108.out 2).trans rfl;have hfz15_0:=bf_ BK108.out 0;have hfz15_1:=bf_ BK108.out 1;have hfz15_2:=bf_ BK108.out 2)|((with_reducible refine gate_callee (f:=21) rfl ?_);refine goesL_ (some 29) rfl rfl Tryd.func21 (by kernel_rfl) rfl #[.int .i64 ((rd_T39 l1 x5_2).f0),.int .i64 0,.int .i64 (wrap64 (a0 - 1))] rfl qm_ ?_;(with_reducible refine (spec_l1In.calls ((rd_T39 l1 x5_2).f0) 0 (wrap64 (a0 - 1)) true _ A9.out).mono ?_);rintro e w' ⟨rfl,⟨nd,rfl⟩⟩;refine ⟨_,rfl,?_⟩)|(go_at_call 21;(with_reducible refine (spec_l1In.calls ((rd_T39 l1 x5_2).f1) 0 (wrap64 (a0 - 1)) true _ A11.out).mono ?_);rintro e w' ⟨rfl,⟨nd,rfl⟩⟩))
           go_ret
           exact ⟨qe_,u0_ HB GE108⟩
          ·rw [if_neg c13] at H
           have c13b0 : (((rd_T39 l1 x5_2).f0) == ((rd_T39 l1 x5_2).f1)) = false:=beq_eq_false_iff_ne.mpr c13
           have c13b1 : (((rd_T39 l1 x5_2).f0) != ((rd_T39 l1 x5_2).f1)) = true:=bne_iff_ne.mpr c13
           replace H:=Option.bind_eq_some_iff.mp H
           obtain ⟨t111,A160,H⟩:=H
           replace H : (if t111 = true then (spec_CablesValid.l0 k2 a0 l1 (wrap64 (x5_2 + 1))) else (some false)) = some r:=H
           have A16:=mk_ A160
           clear A160
           by_cases c17 : t111 = true
           ·subst c17
            have H1 : (spec_CablesValid.l0 k2 a0 l1 (wrap64 (x5_2 + 1))) = some r:=by rw [if_pos rfl] at H;exact H
            clear H
            have H:=H1
            clear H1
            have H':=mk_ H
            clear H
            have p107 : 0 ≤ (x5_2 : Int):=od_ qa_
            have q107 : x5_2 < (l1.length : Int):=od_ qa_
            obtain ⟨ad107,e107,hx107_0,hx107_1,hx107_2⟩:=at_T39 HR1.out x5_2 p107 q107
            cases e107
            replace hx107_0:=(HB.out.cell (wl_ w _ hx107_0)).trans hx107_0
            replace hx107_1:=(HB.out.cell (wl_ w _ hx107_1)).trans hx107_1
            replace hx107_2:=(HB.out.cell (wl_ w _ hx107_2)).trans hx107_2
            replace p107:=eq_true p107
            replace q107:=eq_true q107
            go_wp2_with (first|((with_reducible refine gate_dst (N:=6) rfl ?_);(try (refine gate_guard (by rfl) ?_;dsimp only));refine box_event ?hg (N:=6) ?hd (cs:=#[.int .i64 0,.int .i64 0,.int .i64 0]) (t:=39) ?hr ?_;(case hd => rfl);(case hg => rfl);(case hr => first|(go_simp;done)|(go_simp;rfl));intro gb108 hg w18 hbox hb;have n0_:=mk_ (st_ (qb_ HB) hb);have n1_:=mk_ (hbox);have n2_:=mk_ ((by rw [hg];exact (bz_ (qb_ HB)) : w.heap.size ≤ gb108));have n3_:=mk_ ((by rw [hg];exact (bz_ (qb_ HB)) : w.heap.size ≤ gb108));clear HB;have HB:=n0_;have BK108:=n1_;have GW108:=n2_;have GE108:=n3_;clear n0_ n1_ n2_ n3_ hb hbox hg;have hcz19_0 : w18.cell? ⟨gb108,0,none⟩ = some (.int .i64 0):=(bc_ BK108.out 0).trans rfl;have hcz19_1 : w18.cell? ⟨gb108,1,none⟩ = some (.int .i64 0):=(bc_ BK108.out 1).trans rfl;have hcz19_2 : w18.cell? ⟨gb108,2,none⟩ = some (.int .i64 0):=(bc_ BK108.out 2).trans rfl;have hfz19_0:=bf_ BK108.out 0;have hfz19_1:=bf_ BK108.out 1;have hfz19_2:=bf_ BK108.out 2)|((with_reducible refine gate_callee (f:=21) rfl ?_);refine goesL_ (some 29) rfl rfl Tryd.func21 (by kernel_rfl) rfl #[.int .i64 ((rd_T39 l1 x5_2).f0),.int .i64 0,.int .i64 (wrap64 (a0 - 1))] rfl qm_ ?_;(with_reducible refine (spec_l1In.calls ((rd_T39 l1 x5_2).f0) 0 (wrap64 (a0 - 1)) true _ A9.out).mono ?_);rintro e w' ⟨rfl,⟨nd,rfl⟩⟩;refine ⟨_,rfl,?_⟩)|(go_at_call 21;(with_reducible refine (spec_l1In.calls ((rd_T39 l1 x5_2).f1) 0 (wrap64 (a0 - 1)) true _ A11.out).mono ?_);rintro e w' ⟨rfl,⟨nd,rfl⟩⟩)|(go_at_call 21;(with_reducible refine (spec_l1In.calls ((rd_T39 l1 x5_2).f2) 1 99 true _ A16.out).mono ?_);rintro e w' ⟨rfl,⟨nd,rfl⟩⟩))
            go_roundg k2
            case measure => have:=HJ2.out;have:=HK2.out;omega
            case rel => exact ⟨(wrap64 (x5_2 + 1)),qf_,H',⟨by have:=HJ2.out;have:=HK2.out;omega⟩,⟨u0_ HB GE108⟩⟩
           ·replace c17:=Bool.eq_false_iff.mpr c17
            subst c17
            have H1 : (some false) = some r:=by rw [if_neg (show ¬ (false = true) by decide)] at H;exact H
            clear H
            have H:=H1
            clear H1
            obtain rfl:=Option.some.inj H
            have p107 : 0 ≤ (x5_2 : Int):=od_ qa_
            have q107 : x5_2 < (l1.length : Int):=od_ qa_
            obtain ⟨ad107,e107,hx107_0,hx107_1,hx107_2⟩:=at_T39 HR1.out x5_2 p107 q107
            cases e107
            replace hx107_0:=(HB.out.cell (wl_ w _ hx107_0)).trans hx107_0
            replace hx107_1:=(HB.out.cell (wl_ w _ hx107_1)).trans hx107_1
            replace hx107_2:=(HB.out.cell (wl_ w _ hx107_2)).trans hx107_2
            replace p107:=eq_true p107
            replace q107:=eq_true q107
            go_wp2_with (first|((with_reducible refine gate_dst (N:=6) rfl ?_);(try (refine gate_guard (by rfl) ?_;dsimp only));refine box_event ?hg (N:=6) ?hd (cs:=#[.int .i64 0,.int .i64 0,.int .i64 0]) (t:=39) ?hr ?_;(case hd => rfl);(case hg => rfl);(case hr => first|(go_simp;done)|(go_simp;rfl));intro gb108 hg w20 hbox hb;have n0_:=mk_ (st_ (qb_ HB) hb);have n1_:=mk_ (hbox);have n2_:=mk_ ((by rw [hg];exact (bz_ (qb_ HB)) : w.heap.size ≤ gb108));have n3_:=mk_ ((by rw [hg];exact (bz_ (qb_ HB)) : w.heap.size ≤ gb108));clear HB;have HB:=n0_;have BK108:=n1_;have GW108:=n2_;have GE108:=n3_;clear n0_ n1_ n2_ n3_ hb hbox hg;have hcz21_0 : w20.cell? ⟨gb108,0,none⟩ = some (.int .i64 0):=(bc_ BK108.out 0).trans rfl;have hcz21_1 : w20.cell? ⟨gb108,1,none⟩ = some (.int .i64 0):=(bc_ BK108.out 1).trans rfl;have hcz21_2 : w20.cell? ⟨gb108,2,none⟩ = some (.int .i64 0):=(bc_ BK108.out 2).trans rfl;have hfz21_0:=bf_ BK108.out 0;have hfz21_1:=bf_ BK108.out 1;have hfz21_2:=bf_ BK108.out 2)|((with_reducible refine gate_callee (f:=21) rfl ?_);refine goesL_ (some 29) rfl rfl Tryd.func21 (by kernel_rfl) rfl #[.int .i64 ((rd_T39 l1 x5_2).f0),.int .i64 0,.int .i64 (wrap64 (a0 - 1))] rfl qm_ ?_;(with_reducible refine (spec_l1In.calls ((rd_T39 l1 x5_2).f0) 0 (wrap64 (a0 - 1)) true _ A9.out).mono ?_);rintro e w' ⟨rfl,⟨nd,rfl⟩⟩;refine ⟨_,rfl,?_⟩)|(go_at_call 21;(with_reducible refine (spec_l1In.calls ((rd_T39 l1 x5_2).f1) 0 (wrap64 (a0 - 1)) true _ A11.out).mono ?_);rintro e w' ⟨rfl,⟨nd,rfl⟩⟩)|(go_at_call 21;(with_reducible refine (spec_l1In.calls ((rd_T39 l1 x5_2).f2) 1 99 false _ A16.out).mono ?_);rintro e w' ⟨rfl,⟨nd,rfl⟩⟩))
            go_ret
            exact ⟨qe_,u0_ HB GE108⟩
         ·replace c12:=Bool.eq_false_iff.mpr c12
          subst c12
          have H1 : (some false) = some r:=by rw [if_neg (show ¬ (false = true) by decide)] at H;exact H
          clear H
          have H:=H1
          clear H1
          obtain rfl:=Option.some.inj H
          have p107 : 0 ≤ (x5_2 : Int):=od_ qa_
          have q107 : x5_2 < (l1.length : Int):=od_ qa_
          obtain ⟨ad107,e107,hx107_0,hx107_1,hx107_2⟩:=at_T39 HR1.out x5_2 p107 q107
          cases e107
          replace hx107_0:=(HB.out.cell (wl_ w _ hx107_0)).trans hx107_0
          replace hx107_1:=(HB.out.cell (wl_ w _ hx107_1)).trans hx107_1
          replace hx107_2:=(HB.out.cell (wl_ w _ hx107_2)).trans hx107_2
          replace p107:=eq_true p107
          replace q107:=eq_true q107
          go_wp2_with (first|((with_reducible refine gate_dst (N:=6) rfl ?_);(try (refine gate_guard (by rfl) ?_;dsimp only));refine box_event ?hg (N:=6) ?hd (cs:=#[.int .i64 0,.int .i64 0,.int .i64 0]) (t:=39) ?hr ?_;(case hd => rfl);(case hg => rfl);(case hr => first|(go_simp;done)|(go_simp;rfl));intro gb108 hg w22 hbox hb;have n0_:=mk_ (st_ (qb_ HB) hb);have n1_:=mk_ (hbox);have n2_:=mk_ ((by rw [hg];exact (bz_ (qb_ HB)) : w.heap.size ≤ gb108));have n3_:=mk_ ((by rw [hg];exact (bz_ (qb_ HB)) : w.heap.size ≤ gb108));clear HB;have HB:=n0_;have BK108:=n1_;have GW108:=n2_;have GE108:=n3_;clear n0_ n1_ n2_ n3_ hb hbox hg;have hcz23_0 : w22.cell? ⟨gb108,0,none⟩ = some (.int .i64 0):=(bc_ BK108.out 0).trans rfl;have hcz23_1 : w22.cell? ⟨gb108,1,none⟩ = some (.int .i64 0):=(bc_ BK108.out 1).trans rfl;have hcz23_2 : w22.cell? ⟨gb108,2,none⟩ = some (.int .i64 0):=(bc_ BK108.out 2).trans rfl;have hfz23_0:=bf_ BK108.out 0;have hfz23_1:=bf_ BK108.out 1;have hfz23_2:=bf_ BK108.out 2)|((with_reducible refine gate_callee (f:=21) rfl ?_);refine goesL_ (some 29) rfl rfl Tryd.func21 (by kernel_rfl) rfl #[.int .i64 ((rd_T39 l1 x5_2).f0),.int .i64 0,.int .i64 (wrap64 (a0 - 1))] rfl qm_ ?_;(with_reducible refine (spec_l1In.calls ((rd_T39 l1 x5_2).f0) 0 (wrap64 (a0 - 1)) true _ A9.out).mono ?_);rintro e w' ⟨rfl,⟨nd,rfl⟩⟩;refine ⟨_,rfl,?_⟩)|(go_at_call 21;(with_reducible refine (spec_l1In.calls ((rd_T39 l1 x5_2).f1) 0 (wrap64 (a0 - 1)) false _ A11.out).mono ?_);rintro e w' ⟨rfl,⟨nd,rfl⟩⟩))
          go_ret
          exact ⟨qe_,u0_ HB GE108⟩
        ·replace c10:=Bool.eq_false_iff.mpr c10
         subst c10
         have H1 : (some false) = some r:=by rw [if_neg (show ¬ (false = true) by decide)] at H;exact H
         clear H
         have H:=H1
         clear H1
         obtain rfl:=Option.some.inj H
         have p107 : 0 ≤ (x5_2 : Int):=od_ qa_
         have q107 : x5_2 < (l1.length : Int):=od_ qa_
         obtain ⟨ad107,e107,hx107_0,hx107_1,hx107_2⟩:=at_T39 HR1.out x5_2 p107 q107
         cases e107
         replace hx107_0:=(HB.out.cell (wl_ w _ hx107_0)).trans hx107_0
         replace hx107_1:=(HB.out.cell (wl_ w _ hx107_1)).trans hx107_1
         replace hx107_2:=(HB.out.cell (wl_ w _ hx107_2)).trans hx107_2
         replace p107:=eq_true p107
         replace q107:=eq_true q107
         go_wp2_with (first|((with_reducible refine gate_dst (N:=6) rfl ?_);(try (refine gate_guard (by rfl) ?_;dsimp only));refine box_event ?hg (N:=6) ?hd (cs:=#[.int .i64 0,.int .i64 0,.int .i64 0]) (t:=39) ?hr ?_;(case hd => rfl);(case hg => rfl);(case hr => first|(go_simp;done)|(go_simp;rfl));intro gb108 hg w24 hbox hb;have n0_:=mk_ (st_ (qb_ HB) hb);have n1_:=mk_ (hbox);have n2_:=mk_ ((by rw [hg];exact (bz_ (qb_ HB)) : w.heap.size ≤ gb108));have n3_:=mk_ ((by rw [hg];exact (bz_ (qb_ HB)) : w.heap.size ≤ gb108));clear HB;have HB:=n0_;have BK108:=n1_;have GW108:=n2_;have GE108:=n3_;clear n0_ n1_ n2_ n3_ hb hbox hg;have hcz25_0 : w24.cell? ⟨gb108,0,none⟩ = some (.int .i64 0):=(bc_ BK108.out 0).trans rfl;have hcz25_1 : w24.cell? ⟨gb108,1,none⟩ = some (.int .i64 0):=(bc_ BK108.out 1).trans rfl;have hcz25_2 : w24.cell? ⟨gb108,2,none⟩ = some (.int .i64 0):=(bc_ BK108.out 2).trans rfl;have hfz25_0:=bf_ BK108.out 0;have hfz25_1:=bf_ BK108.out 1;have hfz25_2:=bf_ BK108.out 2)|((with_reducible refine gate_callee (f:=21) rfl ?_);refine goesL_ (some 29) rfl rfl Tryd.func21 (by kernel_rfl) rfl #[.int .i64 ((rd_T39 l1 x5_2).f0),.int .i64 0,.int .i64 (wrap64 (a0 - 1))] rfl qm_ ?_;(with_reducible refine (spec_l1In.calls ((rd_T39 l1 x5_2).f0) 0 (wrap64 (a0 - 1)) false _ A9.out).mono ?_);rintro e w' ⟨rfl,⟨nd,rfl⟩⟩;refine ⟨_,rfl,?_⟩))
         go_ret
         exact ⟨qe_,u0_ HB GE108⟩
       ·rw [if_neg c8] at H
        exact absurd H (by simp)
      ·rw [if_neg c7] at H
       have c7b0 : decide (x5_2 < (l1.length : Int)) = false:=decide_eq_false c7
       clear c7
       obtain rfl:=Option.some.inj H
       go_wp2
       go_ret
       exact ⟨qe_,u1_ HB⟩

/-! ### spec_NetValid: function 11 -/
mutual
def spec_NetValid.l0 : Nat → Int → Int → List (S39) → List Int → List Int → Option (Bool)
 | 0,_,_,_,_,_ => none
 | k + 1,x3,z0_,z1_,z2_,z3_ => if x3 < (z2_.length : Int) then (if 0 ≤ x3 then ((spec_l1In.f (rd z2_ x3) 0 (wrap64 (z0_ - 1))).bind fun t114 => (if t114 = true then (spec_NetValid.l0 k (wrap64 (x3 + 1)) z0_ z1_ z2_ z3_) else (some false))) else (none)) else (spec_NetValid.l1 k 0 z0_ z1_ z2_ z3_)
def spec_NetValid.l1 : Nat → Int → Int → List (S39) → List Int → List Int → Option (Bool)
 | 0,_,_,_,_,_ => none
 | k + 1,x4,z0_,z1_,z2_,z3_ => if x4 < (z3_.length : Int) then (if 0 ≤ x4 then ((spec_l10Vlan.f (rd z3_ x4)).bind fun t116 => (if t116 = true then (spec_NetValid.l1 k (wrap64 (x4 + 1)) z0_ z1_ z2_ z3_) else (some false))) else (none)) else ((spec_CablesValid.f k z0_ z1_).bind fun t117 => (if t117 = true then (if (z2_.length : Int) = (z3_.length : Int) then (some (decide ((z2_.length : Int) ≤ 15))) else (some false)) else (some false)))
end
def spec_NetValid.f (k : Nat) (a0_0 : Int) (l0_1 : List (S39)) (l0_2 : List Int) (l0_3 : List Int) : Option (Bool):=spec_NetValid.l0 k 0 a0_0 l0_1 l0_2 l0_3
theorem spec_NetValid.mono_l : ∀ k,(∀ y0 y1 y2 y3 y4,LeO (spec_NetValid.l0 k y0 y1 y2 y3 y4) (spec_NetValid.l0 (k + 1) y0 y1 y2 y3 y4)) ∧ (∀ y0 y1 y2 y3 y4,LeO (spec_NetValid.l1 k y0 y1 y2 y3 y4) (spec_NetValid.l1 (k + 1) y0 y1 y2 y3 y4))
 | 0 => ⟨fun _ _ _ _ _ r h => by simp [spec_NetValid.l0] at h,fun _ _ _ _ _ r h => by simp [spec_NetValid.l1] at h⟩
 | k + 1 => by
  obtain ⟨ih0,ih1⟩:=spec_NetValid.mono_l k
  refine ⟨?_,?_⟩
  ·intro y0 y1 y2 y3 y4
   unfold spec_NetValid.l0
   repeat' first
   | (with_reducible exact ih0 _ _ _ _ _)
   | (with_reducible exact ih1 _ _ _ _ _)
   | (with_reducible exact spec_CablesValid.mono _ _ _)
   | (with_reducible exact LeO.refl _)
   | (with_reducible exact LeO.none _)
   | (with_reducible refine LeO.ite ?_ ?_)
   | (with_reducible refine LeO.bind ?_ (fun _ => ?_))
   | exact ih0 _ _ _ _ _
   | exact ih1 _ _ _ _ _
   | exact spec_CablesValid.mono _ _ _
   | exact LeO.none _
   | refine LeO.ite ?_ ?_
   | refine LeO.bind ?_ (fun _ => ?_)
  ·intro y0 y1 y2 y3 y4
   unfold spec_NetValid.l1
   repeat' first
   | (with_reducible exact ih0 _ _ _ _ _)
   | (with_reducible exact ih1 _ _ _ _ _)
   | (with_reducible exact spec_CablesValid.mono _ _ _)
   | (with_reducible exact LeO.refl _)
   | (with_reducible exact LeO.none _)
   | (with_reducible refine LeO.ite ?_ ?_)
   | (with_reducible refine LeO.bind ?_ (fun _ => ?_))
   | exact ih0 _ _ _ _ _
   | exact ih1 _ _ _ _ _
   | exact spec_CablesValid.mono _ _ _
   | exact LeO.none _
   | refine LeO.ite ?_ ?_
   | refine LeO.bind ?_ (fun _ => ?_)
theorem spec_NetValid.mono : ∀ a0 a1 a2 a3 k,LeO (spec_NetValid.f k a0 a1 a2 a3) (spec_NetValid.f (k + 1) a0 a1 a2 a3):=by
 intro a0 a1 a2 a3 k
 obtain ⟨ih0,ih1⟩:=spec_NetValid.mono_l k
 unfold spec_NetValid.f
 repeat' first
   | (with_reducible exact ih0 _ _ _ _ _)
   | (with_reducible exact ih1 _ _ _ _ _)
   | (with_reducible exact spec_CablesValid.mono _ _ _)
   | (with_reducible exact LeO.refl _)
   | (with_reducible exact LeO.none _)
   | (with_reducible refine LeO.ite ?_ ?_)
   | (with_reducible refine LeO.bind ?_ (fun _ => ?_))
   | exact ih0 _ _ _ _ _
   | exact ih1 _ _ _ _ _
   | exact spec_CablesValid.mono _ _ _
   | exact LeO.none _
   | refine LeO.ite ?_ ?_
   | refine LeO.bind ?_ (fun _ => ?_)
set_option maxHeartbeats 8000000 in
set_option maxRecDepth 100000 in
theorem spec_NetValid.calls (k : Nat) (a0_0 : Int) (A0_1 : Option Addr) (c0_1 : Nat) (l0_1 : List (S39)) (A0_2 : Option Addr) (c0_2 : Nat) (l0_2 : List Int) (A0_3 : Option Addr) (c0_3 : Nat) (l0_3 : List Int) (r : Bool) (w : World) (hr0_1 : Kd.C k39 w A0_1 l0_1.length l0_1) (hc0_1 : l0_1.length ≤ c0_1) (hr0_2 : Kd.C (Kd.int .i64) w A0_2 l0_2.length l0_2) (hc0_2 : l0_2.length ≤ c0_2) (hr0_3 : Kd.C (Kd.int .i64) w A0_3 l0_3.length l0_3) (hc0_3 : l0_3.length ≤ c0_3) (h : spec_NetValid.f k a0_0 l0_1 l0_2 l0_3 = some r) :
  Calls Tryd.prog 11 #[.agg #[.int .i64 a0_0,.slice A0_1 l0_1.length c0_1,.slice A0_2 l0_2.length c0_2,.slice A0_3 l0_3.length c0_3]] w fun e w' => e = .returned (.bool r) ∧ Below w.heap.size w w':=by
 have hu30:=Tryd.underlying30
 have HR0_1:=mk_ hr0_1
 have HC0_1:=mk_ hc0_1
 clear hr0_1 hc0_1
 have HR0_2:=mk_ hr0_2
 have HC0_2:=mk_ hc0_2
 clear hr0_2 hc0_2
 have HR0_3:=mk_ hr0_3
 have HC0_3:=mk_ hc0_3
 clear hr0_3 hc0_3
 have HB:=mk_ (Below.refl w.heap.size w)
 have H : (spec_NetValid.l0 k 0 a0_0 l0_1 l0_2 l0_3) = some r:=h
 clear h
 have H':=mk_ H
 clear H
 go_enter Tryd.func11,Tryd.ntmps11
 go_wp2_with (first|((with_reducible refine gate_dst (N:=1) rfl ?_);(try (refine gate_guard (by rfl) ?_;dsimp only));refine box_event ?hg (N:=1) ?hd (cs:=#[.int .i64 a0_0,.slice A0_1 l0_1.length c0_1,.slice A0_2 l0_2.length c0_2,.slice A0_3 l0_3.length c0_3]) (t:=30) ?hr ?_;(case hd => rfl);(case hg => rfl);(case hr => first|(go_simp;done)|(go_simp;rfl));intro gb112 hg w2 hbox hb;have n0_:=mk_ (st_ (qb_ HB) hb);have n1_:=mk_ (hbox);have n2_:=mk_ ((by rw [hg];exact (bz_ (qb_ HB)) : w.heap.size ≤ gb112));have n3_:=mk_ ((by rw [hg];exact (bz_ (qb_ HB)) : w.heap.size ≤ gb112));clear HB;have HB:=n0_;have BK112:=n1_;have GW112:=n2_;have GE112:=n3_;clear n0_ n1_ n2_ n3_ hb hbox hg))
 repeat (go_quiet (first|((with_reducible refine gate_dst (N:=1) rfl ?_);(try (refine gate_guard (by rfl) ?_;dsimp only));refine box_event ?hg (N:=1) ?hd (cs:=#[.int .i64 a0_0,.slice A0_1 l0_1.length c0_1,.slice A0_2 l0_2.length c0_2,.slice A0_3 l0_3.length c0_3]) (t:=30) ?hr ?_;(case hd => rfl);(case hg => rfl);(case hr => first|(go_simp;done)|(go_simp;rfl));intro gb112 hg w2 hbox hb;have n0_:=mk_ (st_ (qb_ HB) hb);have n1_:=mk_ (hbox);have n2_:=mk_ ((by rw [hg];exact (bz_ (qb_ HB)) : w.heap.size ≤ gb112));have n3_:=mk_ ((by rw [hg];exact (bz_ (qb_ HB)) : w.heap.size ≤ gb112));clear HB;have HB:=n0_;have BK112:=n1_;have GW112:=n2_;have GE112:=n3_;clear n0_ n1_ n2_ n3_ hb hbox hg));try go_wp2_with (first|((with_reducible refine gate_dst (N:=1) rfl ?_);(try (refine gate_guard (by rfl) ?_;dsimp only));refine box_event ?hg (N:=1) ?hd (cs:=#[.int .i64 a0_0,.slice A0_1 l0_1.length c0_1,.slice A0_2 l0_2.length c0_2,.slice A0_3 l0_3.length c0_3]) (t:=30) ?hr ?_;(case hd => rfl);(case hg => rfl);(case hr => first|(go_simp;done)|(go_simp;rfl));intro gb112 hg w2 hbox hb;have n0_:=mk_ (st_ (qb_ HB) hb);have n1_:=mk_ (hbox);have n2_:=mk_ ((by rw [hg];exact (bz_ (qb_ HB)) : w.heap.size ≤ gb112));have n3_:=mk_ ((by rw [hg];exact (bz_ (qb_ HB)) : w.heap.size ≤ gb112));clear HB;have HB:=n0_;have BK112:=n1_;have GW112:=n2_;have GE112:=n3_;clear n0_ n1_ n2_ n3_ hb hbox hg)))
 go_loopg [3] k (fun kq v3 w' => ∃ (x3_1 : Int),v3 = .int .i64 x3_1 ∧ Aside0 (spec_NetValid.l0 kq x3_1 a0_0 l0_1 l0_2 l0_3 = some r) ∧ Aside0 (kq ≤ k) ∧ Aside0 (w'.heap[gb112]? = some (.cells #[.int .i64 a0_0,(.slice A0_1 l0_1.length c0_1),(.slice A0_2 l0_2.length c0_2),(.slice A0_3 l0_3.length c0_3)] 30 (0,0))) ∧ Aside0 (Below w.heap.size w w'))
 case atStart => exact ⟨(0),qf_,H',⟨Nat.le_refl _⟩,⟨qk_ BK112⟩,⟨u0_ HB GE112⟩⟩
 case round =>
  clear H'
  try clear c1
  try clear p2
  obtain ⟨x3_1,rfl,HA,HK1,BK112,HB⟩:=hrel
  cases gk with
  | zero => exact absurd HA.out (by simp [spec_NetValid.l0])
  | succ k1 =>
   have H:=HA.out
   clear HA
   simp only [spec_NetValid.l0] at H
   by_cases c3 : x3_1 < (l0_2.length : Int)
   ·rw [if_pos c3] at H
    have c3b0 : decide (x3_1 < (l0_2.length : Int)) = true:=decide_eq_true c3
    clear c3
    by_cases c4 : 0 ≤ x3_1
    ·rw [if_pos c4] at H
     have c4b0 : decide (0 ≤ x3_1) = true:=decide_eq_true c4
     clear c4
     replace H:=Option.bind_eq_some_iff.mp H
     obtain ⟨t114,A50,H⟩:=H
     replace H : (if t114 = true then (spec_NetValid.l0 k1 (wrap64 (x3_1 + 1)) a0_0 l0_1 l0_2 l0_3) else (some false)) = some r:=H
     have A5:=mk_ A50
     clear A50
     by_cases c6 : t114 = true
     ·subst c6
      have H1 : (spec_NetValid.l0 k1 (wrap64 (x3_1 + 1)) a0_0 l0_1 l0_2 l0_3) = some r:=by rw [if_pos rfl] at H;exact H
      clear H
      have H:=H1
      clear H1
      have H':=mk_ H
      clear H
      have hcz7_0 : wr.cell? ⟨gb112,0,none⟩ = some (.int .i64 a0_0):=(bc_ BK112.out 0).trans rfl
      have hcz7_1 : wr.cell? ⟨gb112,1,none⟩ = some (.slice A0_1 l0_1.length c0_1):=(bc_ BK112.out 1).trans rfl
      have hcz7_2 : wr.cell? ⟨gb112,2,none⟩ = some (.slice A0_2 l0_2.length c0_2):=(bc_ BK112.out 2).trans rfl
      have hcz7_3 : wr.cell? ⟨gb112,3,none⟩ = some (.slice A0_3 l0_3.length c0_3):=(bc_ BK112.out 3).trans rfl
      have hfz7_0:=bf_ BK112.out 0
      have hfz7_1:=bf_ BK112.out 1
      have hfz7_2:=bf_ BK112.out 2
      have hfz7_3:=bf_ BK112.out 3
      have p113 : 0 ≤ (x3_1 : Int):=od_ qa_
      have q113 : x3_1 < (l0_2.length : Int):=od_ qa_
      obtain ⟨ad113,e113,hx113_0⟩:=Kd.at_int HR0_2.out x3_1 p113 q113
      cases e113
      replace hx113_0:=(HB.out.cell (wl_ w _ hx113_0)).trans hx113_0
      replace p113:=eq_true p113
      replace q113:=eq_true q113
      go_wp2_with (first|(go_at_call 21;(with_reducible refine (spec_l1In.calls (rd l0_2 x3_1) 0 (wrap64 (a0_0 - 1)) true _ A5.out).mono ?_);rintro e w' ⟨rfl,⟨nd,rfl⟩⟩;(try first|exact ⟨rfl,_,World.drewN_drewN _ _ _⟩|exact ⟨rfl,_,Eq.trans (World.drewN_drewN _ _ _) (congrArg (World.drewN _) (Nat.add_assoc _ _ _))⟩)))
      repeat (go_quiet (first|(go_at_call 21;(with_reducible refine (spec_l1In.calls (rd l0_2 x3_1) 0 (wrap64 (a0_0 - 1)) true _ A5.out).mono ?_);rintro e w' ⟨rfl,⟨nd,rfl⟩⟩;(try first|exact ⟨rfl,_,World.drewN_drewN _ _ _⟩|exact ⟨rfl,_,Eq.trans (World.drewN_drewN _ _ _) (congrArg (World.drewN _) (Nat.add_assoc _ _ _))⟩)));try go_wp2_with (first|(go_at_call 21;(with_reducible refine (spec_l1In.calls (rd l0_2 x3_1) 0 (wrap64 (a0_0 - 1)) true _ A5.out).mono ?_);rintro e w' ⟨rfl,⟨nd,rfl⟩⟩;(try first|exact ⟨rfl,_,World.drewN_drewN _ _ _⟩|exact ⟨rfl,_,Eq.trans (World.drewN_drewN _ _ _) (congrArg (World.drewN _) (Nat.add_assoc _ _ _))⟩))))
      go_roundg k1
      case measure => have:=HK1.out;omega
      case rel => exact ⟨(wrap64 (x3_1 + 1)),qf_,H',⟨by have:=HK1.out;omega⟩,⟨qk_ BK112⟩,⟨u0_ HB GE112⟩⟩
     ·replace c6:=Bool.eq_false_iff.mpr c6
      subst c6
      have H1 : (some false) = some r:=by rw [if_neg (show ¬ (false = true) by decide)] at H;exact H
      clear H
      have H:=H1
      clear H1
      obtain rfl:=Option.some.inj H
      have hcz8_0 : wr.cell? ⟨gb112,0,none⟩ = some (.int .i64 a0_0):=(bc_ BK112.out 0).trans rfl
      have hcz8_1 : wr.cell? ⟨gb112,1,none⟩ = some (.slice A0_1 l0_1.length c0_1):=(bc_ BK112.out 1).trans rfl
      have hcz8_2 : wr.cell? ⟨gb112,2,none⟩ = some (.slice A0_2 l0_2.length c0_2):=(bc_ BK112.out 2).trans rfl
      have hcz8_3 : wr.cell? ⟨gb112,3,none⟩ = some (.slice A0_3 l0_3.length c0_3):=(bc_ BK112.out 3).trans rfl
      have hfz8_0:=bf_ BK112.out 0
      have hfz8_1:=bf_ BK112.out 1
      have hfz8_2:=bf_ BK112.out 2
      have hfz8_3:=bf_ BK112.out 3
      have p113 : 0 ≤ (x3_1 : Int):=od_ qa_
      have q113 : x3_1 < (l0_2.length : Int):=od_ qa_
      obtain ⟨ad113,e113,hx113_0⟩:=Kd.at_int HR0_2.out x3_1 p113 q113
      cases e113
      replace hx113_0:=(HB.out.cell (wl_ w _ hx113_0)).trans hx113_0
      replace p113:=eq_true p113
      replace q113:=eq_true q113
      go_wp2_with (first|(go_at_call 21;(with_reducible refine (spec_l1In.calls (rd l0_2 x3_1) 0 (wrap64 (a0_0 - 1)) false _ A5.out).mono ?_);rintro e w' ⟨rfl,⟨nd,rfl⟩⟩;(try first|exact ⟨rfl,_,World.drewN_drewN _ _ _⟩|exact ⟨rfl,_,Eq.trans (World.drewN_drewN _ _ _) (congrArg (World.drewN _) (Nat.add_assoc _ _ _))⟩)))
      repeat (go_quiet (first|(go_at_call 21;(with_reducible refine (spec_l1In.calls (rd l0_2 x3_1) 0 (wrap64 (a0_0 - 1)) false _ A5.out).mono ?_);rintro e w' ⟨rfl,⟨nd,rfl⟩⟩;(try first|exact ⟨rfl,_,World.drewN_drewN _ _ _⟩|exact ⟨rfl,_,Eq.trans (World.drewN_drewN _ _ _) (congrArg (World.drewN _) (Nat.add_assoc _ _ _))⟩)));try go_wp2_with (first|(go_at_call 21;(with_reducible refine (spec_l1In.calls (rd l0_2 x3_1) 0 (wrap64 (a0_0 - 1)) false _ A5.out).mono ?_);rintro e w' ⟨rfl,⟨nd,rfl⟩⟩;(try first|exact ⟨rfl,_,World.drewN_drewN _ _ _⟩|exact ⟨rfl,_,Eq.trans (World.drewN_drewN _ _ _) (congrArg (World.drewN _) (Nat.add_assoc _ _ _))⟩))))
      go_ret
      exact ⟨qe_,u0_ HB GE112⟩
    ·rw [if_neg c4] at H
     exact absurd H (by simp)
   ·rw [if_neg c3] at H
    have c3b0 : decide (x3_1 < (l0_2.length : Int)) = false:=decide_eq_false c3
    clear c3
    have H':=mk_ H
    clear H
    have hcz9_0 : wr.cell? ⟨gb112,0,none⟩ = some (.int .i64 a0_0):=(bc_ BK112.out 0).trans rfl
    have hcz9_1 : wr.cell? ⟨gb112,1,none⟩ = some (.slice A0_1 l0_1.length c0_1):=(bc_ BK112.out 1).trans rfl
    have hcz9_2 : wr.cell? ⟨gb112,2,none⟩ = some (.slice A0_2 l0_2.length c0_2):=(bc_ BK112.out 2).trans rfl
    have hcz9_3 : wr.cell? ⟨gb112,3,none⟩ = some (.slice A0_3 l0_3.length c0_3):=(bc_ BK112.out 3).trans rfl
    have hfz9_0:=bf_ BK112.out 0
    have hfz9_1:=bf_ BK112.out 1
    have hfz9_2:=bf_ BK112.out 2
    have hfz9_3:=bf_ BK112.out 3
    go_wp2
    repeat (go_quiet (fail);try go_wp2)
    go_loopg [4] k1 (fun kq v4 w' => ∃ (x4_2 : Int),v4 = .int .i64 x4_2 ∧ Aside0 (spec_NetValid.l1 kq x4_2 a0_0 l0_1 l0_2 l0_3 = some r) ∧ Aside0 (kq ≤ k1) ∧ Aside0 (w'.heap[gb112]? = some (.cells #[.int .i64 a0_0,(.slice A0_1 l0_1.length c0_1),(.slice A0_2 l0_2.length c0_2),(.slice A0_3 l0_3.length c0_3)] 30 (0,0))) ∧ Aside0 (Below w.heap.size w w'))
    case atStart => exact ⟨(0),qf_,H',⟨Nat.le_refl _⟩,⟨qk_ BK112⟩,⟨u0_ HB GE112⟩⟩
    case round =>
     clear H'
     try clear c1
     try clear p1
     try clear q1
     try clear hx1
     try clear p2
     try clear c3
     try clear c3b0
     try clear c4
     try clear c4b0
     try clear c6
     try clear p6
     try clear hcz7_0
     try clear hcz7_1
     try clear hcz7_2
     try clear hcz7_3
     try clear hcz8_0
     try clear hcz8_1
     try clear hcz8_2
     try clear hcz8_3
     try clear hcz9_0
     try clear hcz9_1
     try clear hcz9_2
     try clear hcz9_3
     try clear hfz7_0
     try clear hfz7_1
     try clear hfz7_2
     try clear hfz7_3
     try clear hfz8_0
     try clear hfz8_1
     try clear hfz8_2
     try clear hfz8_3
     try clear hfz9_0
     try clear hfz9_1
     try clear hfz9_2
     try clear hfz9_3
     try clear hx113_0
     try clear p113
     try clear p2
     try clear q113
     obtain ⟨x4_2,rfl,HA,HK2,BK112,HB⟩:=hrel
     cases gk with
     | zero => exact absurd HA.out (by simp [spec_NetValid.l1])
     | succ k2 =>
      have H:=HA.out
      clear HA
      simp only [spec_NetValid.l1] at H
      by_cases c10 : x4_2 < (l0_3.length : Int)
      ·rw [if_pos c10] at H
       have c10b0 : decide (x4_2 < (l0_3.length : Int)) = true:=decide_eq_true c10
       clear c10
       by_cases c11 : 0 ≤ x4_2
       ·rw [if_pos c11] at H
        have c11b0 : decide (0 ≤ x4_2) = true:=decide_eq_true c11
        clear c11
        replace H:=Option.bind_eq_some_iff.mp H
        obtain ⟨t116,A120,H⟩:=H
        replace H : (if t116 = true then (spec_NetValid.l1 k2 (wrap64 (x4_2 + 1)) a0_0 l0_1 l0_2 l0_3) else (some false)) = some r:=H
        have A12:=mk_ A120
        clear A120
        by_cases c13 : t116 = true
        ·subst c13
         have H1 : (spec_NetValid.l1 k2 (wrap64 (x4_2 + 1)) a0_0 l0_1 l0_2 l0_3) = some r:=by rw [if_pos rfl] at H;exact H
         clear H
         have H:=H1
         clear H1
         have H':=mk_ H
         clear H
         have hcz14_0 : wr.cell? ⟨gb112,0,none⟩ = some (.int .i64 a0_0):=(bc_ BK112.out 0).trans rfl
         have hcz14_1 : wr.cell? ⟨gb112,1,none⟩ = some (.slice A0_1 l0_1.length c0_1):=(bc_ BK112.out 1).trans rfl
         have hcz14_2 : wr.cell? ⟨gb112,2,none⟩ = some (.slice A0_2 l0_2.length c0_2):=(bc_ BK112.out 2).trans rfl
         have hcz14_3 : wr.cell? ⟨gb112,3,none⟩ = some (.slice A0_3 l0_3.length c0_3):=(bc_ BK112.out 3).trans rfl
         have hfz14_0:=bf_ BK112.out 0
         have hfz14_1:=bf_ BK112.out 1
         have hfz14_2:=bf_ BK112.out 2
         have hfz14_3:=bf_ BK112.out 3
         have p115 : 0 ≤ (x4_2 : Int):=od_ qa_
         have q115 : x4_2 < (l0_3.length : Int):=od_ qa_
         obtain ⟨ad115,e115,hx115_0⟩:=Kd.at_int HR0_3.out x4_2 p115 q115
         cases e115
         replace hx115_0:=(HB.out.cell (wl_ w _ hx115_0)).trans hx115_0
         replace p115:=eq_true p115
         replace q115:=eq_true q115
         go_wp2_with (first|(go_at_call 22;(with_reducible refine (spec_l10Vlan.calls (rd l0_3 x4_2) true _ A12.out).mono ?_);rintro e w' ⟨rfl,⟨nd,rfl⟩⟩;(try first|exact ⟨rfl,_,World.drewN_drewN _ _ _⟩|exact ⟨rfl,_,Eq.trans (World.drewN_drewN _ _ _) (congrArg (World.drewN _) (Nat.add_assoc _ _ _))⟩)))
         repeat (go_quiet (first|(go_at_call 22;(with_reducible refine (spec_l10Vlan.calls (rd l0_3 x4_2) true _ A12.out).mono ?_);rintro e w' ⟨rfl,⟨nd,rfl⟩⟩;(try first|exact ⟨rfl,_,World.drewN_drewN _ _ _⟩|exact ⟨rfl,_,Eq.trans (World.drewN_drewN _ _ _) (congrArg (World.drewN _) (Nat.add_assoc _ _ _))⟩)));try go_wp2_with (first|(go_at_call 22;(with_reducible refine (spec_l10Vlan.calls (rd l0_3 x4_2) true _ A12.out).mono ?_);rintro e w' ⟨rfl,⟨nd,rfl⟩⟩;(try first|exact ⟨rfl,_,World.drewN_drewN _ _ _⟩|exact ⟨rfl,_,Eq.trans (World.drewN_drewN _ _ _) (congrArg (World.drewN _) (Nat.add_assoc _ _ _))⟩))))
         go_roundg k2
         case measure => have:=HK1.out;have:=HK2.out;omega
         case rel => exact ⟨(wrap64 (x4_2 + 1)),qf_,H',⟨by have:=HK1.out;have:=HK2.out;omega⟩,⟨qk_ BK112⟩,⟨u0_ HB GE112⟩⟩
        ·replace c13:=Bool.eq_false_iff.mpr c13
         subst c13
         have H1 : (some false) = some r:=by rw [if_neg (show ¬ (false = true) by decide)] at H;exact H
         clear H
         have H:=H1
         clear H1
         obtain rfl:=Option.some.inj H
         have hcz15_0 : wr.cell? ⟨gb112,0,none⟩ = some (.int .i64 a0_0):=(bc_ BK112.out 0).trans rfl
         have hcz15_1 : wr.cell? ⟨gb112,1,none⟩ = some (.slice A0_1 l0_1.length c0_1):=(bc_ BK112.out 1).trans rfl
         have hcz15_2 : wr.cell? ⟨gb112,2,none⟩ = some (.slice A0_2 l0_2.length c0_2):=(bc_ BK112.out 2).trans rfl
         have hcz15_3 : wr.cell? ⟨gb112,3,none⟩ = some (.slice A0_3 l0_3.length c0_3):=(bc_ BK112.out 3).trans rfl
         have hfz15_0:=bf_ BK112.out 0
         have hfz15_1:=bf_ BK112.out 1
         have hfz15_2:=bf_ BK112.out 2
         have hfz15_3:=bf_ BK112.out 3
         have p115 : 0 ≤ (x4_2 : Int):=od_ qa_
         have q115 : x4_2 < (l0_3.length : Int):=od_ qa_
         obtain ⟨ad115,e115,hx115_0⟩:=Kd.at_int HR0_3.out x4_2 p115 q115
         cases e115
         replace hx115_0:=(HB.out.cell (wl_ w _ hx115_0)).trans hx115_0
         replace p115:=eq_true p115
         replace q115:=eq_true q115
         go_wp2_with (first|(go_at_call 22;(with_reducible refine (spec_l10Vlan.calls (rd l0_3 x4_2) false _ A12.out).mono ?_);rintro e w' ⟨rfl,⟨nd,rfl⟩⟩;(try first|exact ⟨rfl,_,World.drewN_drewN _ _ _⟩|exact ⟨rfl,_,Eq.trans (World.drewN_drewN _ _ _) (congrArg (World.drewN _) (Nat.add_assoc _ _ _))⟩)))
         repeat (go_quiet (first|(go_at_call 22;(with_reducible refine (spec_l10Vlan.calls (rd l0_3 x4_2) false _ A12.out).mono ?_);rintro e w' ⟨rfl,⟨nd,rfl⟩⟩;(try first|exact ⟨rfl,_,World.drewN_drewN _ _ _⟩|exact ⟨rfl,_,Eq.trans (World.drewN_drewN _ _ _) (congrArg (World.drewN _) (Nat.add_assoc _ _ _))⟩)));try go_wp2_with (first|(go_at_call 22;(with_reducible refine (spec_l10Vlan.calls (rd l0_3 x4_2) false _ A12.out).mono ?_);rintro e w' ⟨rfl,⟨nd,rfl⟩⟩;(try first|exact ⟨rfl,_,World.drewN_drewN _ _ _⟩|exact ⟨rfl,_,Eq.trans (World.drewN_drewN _ _ _) (congrArg (World.drewN _) (Nat.add_assoc _ _ _))⟩))))
         go_ret
         exact ⟨qe_,u0_ HB GE112⟩
       ·rw [if_neg c11] at H
        exact absurd H (by simp)
      ·rw [if_neg c10] at H
       have c10b0 : decide (x4_2 < (l0_3.length : Int)) = false:=decide_eq_false c10
       clear c10
       replace H:=Option.bind_eq_some_iff.mp H
       obtain ⟨t117,A160,H⟩:=H
       replace H : (if t117 = true then (if (l0_2.length : Int) = (l0_3.length : Int) then (some (decide ((l0_2.length : Int) ≤ 15))) else (some false)) else (some false)) = some r:=H
       have A16:=mk_ A160
       clear A160
       by_cases c17 : t117 = true
       ·subst c17
        have H1 : (if (l0_2.length : Int) = (l0_3.length : Int) then (some (decide ((l0_2.length : Int) ≤ 15))) else (some false)) = some r:=by rw [if_pos rfl] at H;exact H
        clear H
        have H:=H1
        clear H1
        by_cases c18 : (l0_2.length : Int) = (l0_3.length : Int)
        ·rw [if_pos c18] at H
         have c18b0 : ((l0_2.length : Int) == (l0_3.length : Int)) = true:=beq_iff_eq.mpr c18
         have c18b1 : ((l0_2.length : Int) != (l0_3.length : Int)) = false:=bne_eq_false_iff_eq.mpr c18
         have c18b2 : (l0_2.length == l0_3.length) = true:=by first|simpa using c18|(simp at c18 ⊢;omega)
         clear c18
         obtain rfl:=Option.some.inj H
         have hcz19_0 : wr.cell? ⟨gb112,0,none⟩ = some (.int .i64 a0_0):=(bc_ BK112.out 0).trans rfl
         have hcz19_1 : wr.cell? ⟨gb112,1,none⟩ = some (.slice A0_1 l0_1.length c0_1):=(bc_ BK112.out 1).trans rfl
         have hcz19_2 : wr.cell? ⟨gb112,2,none⟩ = some (.slice A0_2 l0_2.length c0_2):=(bc_ BK112.out 2).trans rfl
         have hcz19_3 : wr.cell? ⟨gb112,3,none⟩ = some (.slice A0_3 l0_3.length c0_3):=(bc_ BK112.out 3).trans rfl
         have hfz19_0:=bf_ BK112.out 0
         have hfz19_1:=bf_ BK112.out 1
         have hfz19_2:=bf_ BK112.out 2
         have hfz19_3:=bf_ BK112.out 3
         go_wp2_with (first|(go_at_call 23;(with_reducible refine (spec_CablesValid.calls k2 a0_0 _ _ l0_1 true _ ?side1 ?side2 A16.out).mono ?_);(case side1 => exact qn_ HR0_1 HB);(case side2 => exact HC0_1.out);rintro e w20 ⟨rfl,hb⟩;have n0_:=mk_ (blk_below (g:=gb112) (o:=.cells #[.int .i64 a0_0,.slice A0_1 l0_1.length c0_1,.slice A0_2 l0_2.length c0_2,.slice A0_3 l0_3.length c0_3] 30 (0,0)) (qk_ BK112) hb);have n1_:=mk_ (st_ (qc_ HB GE112) hb);clear BK112 HB;have BK112:=n0_;have HB:=n1_;clear n0_ n1_;(try clear hb);(try clear hb2);(try clear hk);(try clear hi);have hcz21_0 : w20.cell? ⟨gb112,0,none⟩ = some (.int .i64 a0_0):=(bc_ BK112.out 0).trans rfl;have hcz21_1 : w20.cell? ⟨gb112,1,none⟩ = some (.slice A0_1 l0_1.length c0_1):=(bc_ BK112.out 1).trans rfl;have hcz21_2 : w20.cell? ⟨gb112,2,none⟩ = some (.slice A0_2 l0_2.length c0_2):=(bc_ BK112.out 2).trans rfl;have hcz21_3 : w20.cell? ⟨gb112,3,none⟩ = some (.slice A0_3 l0_3.length c0_3):=(bc_ BK112.out 3).trans rfl;have hfz21_0:=bf_ BK112.out 0;have hfz21_1:=bf_ BK112.out 1;have hfz21_2:=bf_ BK112.out 2;have hfz21_3:=bf_ BK112.out 3))
         repeat (go_quiet (first|(go_at_call 23;(with_reducible refine (spec_CablesValid.calls k2 a0_0 _ _ l0_1 true _ ?side1 ?side2 A16.out).mono ?_);(case side1 => exact qn_ HR0_1 HB);(case side2 => exact HC0_1.out);rintro e w20 ⟨rfl,hb⟩;have n0_:=mk_ (blk_below (g:=gb112) (o:=.cells #[.int .i64 a0_0,.slice A0_1 l0_1.length c0_1,.slice A0_2 l0_2.length c0_2,.slice A0_3 l0_3.length c0_3] 30 (0,0)) (qk_ BK112) hb);have n1_:=mk_ (st_ (qc_ HB GE112) hb);clear BK112 HB;have BK112:=n0_;have HB:=n1_;clear n0_ n1_;(try clear hb);(try clear hb2);(try clear hk);(try clear hi);have hcz21_0 : w20.cell? ⟨gb112,0,none⟩ = some (.int .i64 a0_0):=(bc_ BK112.out 0).trans rfl;have hcz21_1 : w20.cell? ⟨gb112,1,none⟩ = some (.slice A0_1 l0_1.length c0_1):=(bc_ BK112.out 1).trans rfl;have hcz21_2 : w20.cell? ⟨gb112,2,none⟩ = some (.slice A0_2 l0_2.length c0_2):=(bc_ BK112.out 2).trans rfl;have hcz21_3 : w20.cell? ⟨gb112,3,none⟩ = some (.slice A0_3 l0_3.length c0_3):=(bc_ BK112.out 3).trans rfl;have hfz21_0:=bf_ BK112.out 0;have hfz21_1:=bf_ BK112.out 1;have hfz21_2:=bf_ BK112.out 2;have hfz21_3:=bf_ BK112.out 3));try go_wp2_with (first|(go_at_call 23;(with_reducible refine (spec_CablesValid.calls k2 a0_0 _ _ l0_1 true _ ?side1 ?side2 A16.out).mono ?_);(case side1 => exact qn_ HR0_1 HB);(case side2 => exact HC0_1.out);rintro e w20 ⟨rfl,hb⟩;have n0_:=mk_ (blk_below (g:=gb112) (o:=.cells #[.int .i64 a0_0,.slice A0_1 l0_1.length c0_1,.slice A0_2 l0_2.length c0_2,.slice A0_3 l0_3.length c0_3] 30 (0,0)) (qk_ BK112) hb);have n1_:=mk_ (st_ (qc_ HB GE112) hb);clear BK112 HB;have BK112:=n0_;have HB:=n1_;clear n0_ n1_;(try clear hb);(try clear hb2);(try clear hk);(try clear hi);have hcz21_0 : w20.cell? ⟨gb112,0,none⟩ = some (.int .i64 a0_0):=(bc_ BK112.out 0).trans rfl;have hcz21_1 : w20.cell? ⟨gb112,1,none⟩ = some (.slice A0_1 l0_1.length c0_1):=(bc_ BK112.out 1).trans rfl;have hcz21_2 : w20.cell? ⟨gb112,2,none⟩ = some (.slice A0_2 l0_2.length c0_2):=(bc_ BK112.out 2).trans rfl;have hcz21_3 : w20.cell? ⟨gb112,3,none⟩ = some (.slice A0_3 l0_3.length c0_3):=(bc_ BK112.out 3).trans rfl;have hfz21_0:=bf_ BK112.out 0;have hfz21_1:=bf_ BK112.out 1;have hfz21_2:=bf_ BK112.out 2;have hfz21_3:=bf_ BK112.out 3)))
         go_ret
         exact ⟨qe_,u0_ HB GE112⟩
        ·rw [if_neg c18] at H
         have c18b0 : ((l0_2.length : Int) == (l0_3.length : Int)) = false:=beq_eq_false_iff_ne.mpr c18
         have c18b1 : ((l0_2.length : Int) != (l0_3.length : Int)) = true:=bne_iff_ne.mpr c18
         have c18b2 : (l0_2.length == l0_3.length) = false:=by first|simpa using c18|(simp at c18 ⊢;omega)
         obtain rfl:=Option.some.inj H
         have hcz22_0 : wr.cell? ⟨gb112,0,none⟩ = some (.int .i64 a0_0):=(bc_ BK112.out 0).trans rfl
         have hcz22_1 : wr.cell? ⟨gb112,1,none⟩ = some (.slice A0_1 l0_1.length c0_1):=(bc_ BK112.out 1).trans rfl
         have hcz22_2 : wr.cell? ⟨gb112,2,none⟩ = some (.slice A0_2 l0_2.length c0_2):=(bc_ BK112.out 2).trans rfl
         have hcz22_3 : wr.cell? ⟨gb112,3,none⟩ = some (.slice A0_3 l0_3.length c0_3):=(bc_ BK112.out 3).trans rfl
         have hfz22_0:=bf_ BK112.out 0
         have hfz22_1:=bf_ BK112.out 1
         have hfz22_2:=bf_ BK112.out 2
         have hfz22_3:=bf_ BK112.out 3
         go_wp2_with (first|(go_at_call 23;(with_reducible refine (spec_CablesValid.calls k2 a0_0 _ _ l0_1 true _ ?side1 ?side2 A16.out).mono ?_);(case side1 => exact qn_ HR0_1 HB);(case side2 => exact HC0_1.out);rintro e w23 ⟨rfl,hb⟩;have n0_:=mk_ (blk_below (g:=gb112) (o:=.cells #[.int .i64 a0_0,.slice A0_1 l0_1.length c0_1,.slice A0_2 l0_2.length c0_2,.slice A0_3 l0_3.length c0_3] 30 (0,0)) (qk_ BK112) hb);have n1_:=mk_ (st_ (qc_ HB GE112) hb);clear BK112 HB;have BK112:=n0_;have HB:=n1_;clear n0_ n1_;(try clear hb);(try clear hb2);(try clear hk);(try clear hi);have hcz24_0 : w23.cell? ⟨gb112,0,none⟩ = some (.int .i64 a0_0):=(bc_ BK112.out 0).trans rfl;have hcz24_1 : w23.cell? ⟨gb112,1,none⟩ = some (.slice A0_1 l0_1.length c0_1):=(bc_ BK112.out 1).trans rfl;have hcz24_2 : w23.cell? ⟨gb112,2,none⟩ = some (.slice A0_2 l0_2.length c0_2):=(bc_ BK112.out 2).trans rfl;have hcz24_3 : w23.cell? ⟨gb112,3,none⟩ = some (.slice A0_3 l0_3.length c0_3):=(bc_ BK112.out 3).trans rfl;have hfz24_0:=bf_ BK112.out 0;have hfz24_1:=bf_ BK112.out 1;have hfz24_2:=bf_ BK112.out 2;have hfz24_3:=bf_ BK112.out 3))
         repeat (go_quiet (first|(go_at_call 23;(with_reducible refine (spec_CablesValid.calls k2 a0_0 _ _ l0_1 true _ ?side1 ?side2 A16.out).mono ?_);(case side1 => exact qn_ HR0_1 HB);(case side2 => exact HC0_1.out);rintro e w23 ⟨rfl,hb⟩;have n0_:=mk_ (blk_below (g:=gb112) (o:=.cells #[.int .i64 a0_0,.slice A0_1 l0_1.length c0_1,.slice A0_2 l0_2.length c0_2,.slice A0_3 l0_3.length c0_3] 30 (0,0)) (qk_ BK112) hb);have n1_:=mk_ (st_ (qc_ HB GE112) hb);clear BK112 HB;have BK112:=n0_;have HB:=n1_;clear n0_ n1_;(try clear hb);(try clear hb2);(try clear hk);(try clear hi);have hcz24_0 : w23.cell? ⟨gb112,0,none⟩ = some (.int .i64 a0_0):=(bc_ BK112.out 0).trans rfl;have hcz24_1 : w23.cell? ⟨gb112,1,none⟩ = some (.slice A0_1 l0_1.length c0_1):=(bc_ BK112.out 1).trans rfl;have hcz24_2 : w23.cell? ⟨gb112,2,none⟩ = some (.slice A0_2 l0_2.length c0_2):=(bc_ BK112.out 2).trans rfl;have hcz24_3 : w23.cell? ⟨gb112,3,none⟩ = some (.slice A0_3 l0_3.length c0_3):=(bc_ BK112.out 3).trans rfl;have hfz24_0:=bf_ BK112.out 0;have hfz24_1:=bf_ BK112.out 1;have hfz24_2:=bf_ BK112.out 2;have hfz24_3:=bf_ BK112.out 3));try go_wp2_with (first|(go_at_call 23;(with_reducible refine (spec_CablesValid.calls k2 a0_0 _ _ l0_1 true _ ?side1 ?side2 A16.out).mono ?_);(case side1 => exact qn_ HR0_1 HB);(case side2 => exact HC0_1.out);rintro e w23 ⟨rfl,hb⟩;have n0_:=mk_ (blk_below (g:=gb112) (o:=.cells #[.int .i64 a0_0,.slice A0_1 l0_1.length c0_1,.slice A0_2 l0_2.length c0_2,.slice A0_3 l0_3.length c0_3] 30 (0,0)) (qk_ BK112) hb);have n1_:=mk_ (st_ (qc_ HB GE112) hb);clear BK112 HB;have BK112:=n0_;have HB:=n1_;clear n0_ n1_;(try clear hb);(try clear hb2);(try clear hk);(try clear hi);have hcz24_0 : w23.cell? ⟨gb112,0,none⟩ = some (.int .i64 a0_0):=(bc_ BK112.out 0).trans rfl;have hcz24_1 : w23.cell? ⟨gb112,1,none⟩ = some (.slice A0_1 l0_1.length c0_1):=(bc_ BK112.out 1).trans rfl;have hcz24_2 : w23.cell? ⟨gb112,2,none⟩ = some (.slice A0_2 l0_2.length c0_2):=(bc_ BK112.out 2).trans rfl;have hcz24_3 : w23.cell? ⟨gb112,3,none⟩ = some (.slice A0_3 l0_3.length c0_3):=(bc_ BK112.out 3).trans rfl;have hfz24_0:=bf_ BK112.out 0;have hfz24_1:=bf_ BK112.out 1;have hfz24_2:=bf_ BK112.out 2;have hfz24_3:=bf_ BK112.out 3)))
         go_ret
         exact ⟨qe_,u0_ HB GE112⟩
       ·replace c17:=Bool.eq_false_iff.mpr c17
        subst c17
        have H1 : (some false) = some r:=by rw [if_neg (show ¬ (false = true) by decide)] at H;exact H
        clear H
        have H:=H1
        clear H1
        obtain rfl:=Option.some.inj H
        have hcz25_0 : wr.cell? ⟨gb112,0,none⟩ = some (.int .i64 a0_0):=(bc_ BK112.out 0).trans rfl
        have hcz25_1 : wr.cell? ⟨gb112,1,none⟩ = some (.slice A0_1 l0_1.length c0_1):=(bc_ BK112.out 1).trans rfl
        have hcz25_2 : wr.cell? ⟨gb112,2,none⟩ = some (.slice A0_2 l0_2.length c0_2):=(bc_ BK112.out 2).trans rfl
        have hcz25_3 : wr.cell? ⟨gb112,3,none⟩ = some (.slice A0_3 l0_3.length c0_3):=(bc_ BK112.out 3).trans rfl
        have hfz25_0:=bf_ BK112.out 0
        have hfz25_1:=bf_ BK112.out 1
        have hfz25_2:=bf_ BK112.out 2
        have hfz25_3:=bf_ BK112.out 3
        go_wp2_with (first|(go_at_call 23;(with_reducible refine (spec_CablesValid.calls k2 a0_0 _ _ l0_1 false _ ?side1 ?side2 A16.out).mono ?_);(case side1 => exact qn_ HR0_1 HB);(case side2 => exact HC0_1.out);rintro e w26 ⟨rfl,hb⟩;have n0_:=mk_ (blk_below (g:=gb112) (o:=.cells #[.int .i64 a0_0,.slice A0_1 l0_1.length c0_1,.slice A0_2 l0_2.length c0_2,.slice A0_3 l0_3.length c0_3] 30 (0,0)) (qk_ BK112) hb);have n1_:=mk_ (st_ (qc_ HB GE112) hb);clear BK112 HB;have BK112:=n0_;have HB:=n1_;clear n0_ n1_;(try clear hb);(try clear hb2);(try clear hk);(try clear hi)))
        repeat (go_quiet (first|(go_at_call 23;(with_reducible refine (spec_CablesValid.calls k2 a0_0 _ _ l0_1 false _ ?side1 ?side2 A16.out).mono ?_);(case side1 => exact qn_ HR0_1 HB);(case side2 => exact HC0_1.out);rintro e w26 ⟨rfl,hb⟩;have n0_:=mk_ (blk_below (g:=gb112) (o:=.cells #[.int .i64 a0_0,.slice A0_1 l0_1.length c0_1,.slice A0_2 l0_2.length c0_2,.slice A0_3 l0_3.length c0_3] 30 (0,0)) (qk_ BK112) hb);have n1_:=mk_ (st_ (qc_ HB GE112) hb);clear BK112 HB;have BK112:=n0_;have HB:=n1_;clear n0_ n1_;(try clear hb);(try clear hb2);(try clear hk);(try clear hi)));try go_wp2_with (first|(go_at_call 23;(with_reducible refine (spec_CablesValid.calls k2 a0_0 _ _ l0_1 false _ ?side1 ?side2 A16.out).mono ?_);(case side1 => exact qn_ HR0_1 HB);(case side2 => exact HC0_1.out);rintro e w26 ⟨rfl,hb⟩;have n0_:=mk_ (blk_below (g:=gb112) (o:=.cells #[.int .i64 a0_0,.slice A0_1 l0_1.length c0_1,.slice A0_2 l0_2.length c0_2,.slice A0_3 l0_3.length c0_3] 30 (0,0)) (qk_ BK112) hb);have n1_:=mk_ (st_ (qc_ HB GE112) hb);clear BK112 HB;have BK112:=n0_;have HB:=n1_;clear n0_ n1_;(try clear hb);(try clear hb2);(try clear hk);(try clear hi))))
        go_ret
        exact ⟨qe_,u0_ HB GE112⟩

/-! ### spec_l21Dec: function 24 -/
mutual
def spec_l21Dec.l0 : Nat → Int → ByteArray → Option (ByteArray)
 | 0,_,_ => none
 | k + 1,x0,x3 => if x0 > 9 then ((some (([(wrap64 (48 + (Int.tmod x0 10))) % 256] : List Int) : List Int)).bind fun y119 => (if (strOfNums y119).size + x3.size ≤ 9223372036854775807 then (spec_l21Dec.l0 k (wrap64 (Int.tdiv x0 10)) ((strOfNums y119) ++ x3)) else (none))) else ((some (([(wrap64 (48 + x0)) % 256] : List Int) : List Int)).bind fun y122 => (if (strOfNums y122).size + x3.size ≤ 9223372036854775807 then (some ((strOfNums y122) ++ x3)) else (none)))
def spec_l21Dec.f : Nat → Int → Option (ByteArray)
 | 0,_ => none
 | k + 1,a0 => if a0 < (-9223372036854775807) then (some (⟨#[45,57,50,50,51,51,55,50,48,51,54,56,53,52,55,55,53,56,48,56]⟩ : ByteArray)) else (if a0 < 0 then ((spec_l21Dec.f k (wrap64 (-a0))).bind fun t118 => (if 1 + t118.size ≤ 9223372036854775807 then (some ((⟨#[45]⟩ : ByteArray) ++ t118)) else (none))) else (spec_l21Dec.l0 k a0 (⟨#[]⟩ : ByteArray)))
end
theorem spec_l21Dec.mono_l : ∀ k,(∀ y0,LeO (spec_l21Dec.f k y0) (spec_l21Dec.f (k + 1) y0)) ∧ (∀ y0 y1,LeO (spec_l21Dec.l0 k y0 y1) (spec_l21Dec.l0 (k + 1) y0 y1))
 | 0 => ⟨fun _ r h => by simp [spec_l21Dec.f] at h,fun _ _ r h => by simp [spec_l21Dec.l0] at h⟩
 | k + 1 => by
  obtain ⟨ih0,ih1⟩:=spec_l21Dec.mono_l k
  refine ⟨?_,?_⟩
  ·intro y0
   unfold spec_l21Dec.f
   repeat' first
   | (with_reducible exact ih0 _)
   | (with_reducible exact ih1 _ _)
   | (with_reducible exact LeO.refl _)
   | (with_reducible exact LeO.none _)
   | (with_reducible refine LeO.ite ?_ ?_)
   | (with_reducible refine LeO.bind ?_ (fun _ => ?_))
   | exact ih0 _
   | exact ih1 _ _
   | exact LeO.none _
   | refine LeO.ite ?_ ?_
   | refine LeO.bind ?_ (fun _ => ?_)
  ·intro y0 y1
   unfold spec_l21Dec.l0
   repeat' first
   | (with_reducible exact ih0 _)
   | (with_reducible exact ih1 _ _)
   | (with_reducible exact LeO.refl _)
   | (with_reducible exact LeO.none _)
   | (with_reducible refine LeO.ite ?_ ?_)
   | (with_reducible refine LeO.bind ?_ (fun _ => ?_))
   | exact ih0 _
   | exact ih1 _ _
   | exact LeO.none _
   | refine LeO.ite ?_ ?_
   | refine LeO.bind ?_ (fun _ => ?_)
theorem spec_l21Dec.mono : ∀ a0 k,LeO (spec_l21Dec.f k a0) (spec_l21Dec.f (k + 1) a0):=by
 intro a0 k
 obtain ⟨ih0,ih1⟩:=spec_l21Dec.mono_l k
 exact ih0 a0
set_option maxHeartbeats 8000000 in
set_option maxRecDepth 100000 in
theorem spec_l21Dec.calls (k : Nat) : ∀ (a0 : Int) (r : ByteArray) (w : World) (h : spec_l21Dec.f k a0 = some r),
  Calls Tryd.prog 24 #[.int .i64 a0] w fun e w' => e = .returned (.string r) ∧ Below w.heap.size w w':=by
 induction k using Nat.strongRecOn with
 | _ k ih =>
 intro a0 r w h
 cases k with
 | zero => exact absurd h (by simp [spec_l21Dec.f])
 | succ k =>
 simp only [spec_l21Dec.f] at h
 have HB:=mk_ (Below.refl w.heap.size w)
 have H : (if a0 < (-9223372036854775807) then (some (⟨#[45,57,50,50,51,51,55,50,48,51,54,56,53,52,55,55,53,56,48,56]⟩ : ByteArray)) else (if a0 < 0 then ((spec_l21Dec.f k (wrap64 (-a0))).bind fun t118 => (if 1 + t118.size ≤ 9223372036854775807 then (some ((⟨#[45]⟩ : ByteArray) ++ t118)) else (none))) else (spec_l21Dec.l0 k a0 (⟨#[]⟩ : ByteArray)))) = some r:=h
 clear h
 by_cases c2 : a0 < (-9223372036854775807)
 ·rw [if_pos c2] at H
  have c2b0 : decide (a0 < (-9223372036854775807)) = true:=decide_eq_true c2
  clear c2
  obtain rfl:=Option.some.inj H
  go_enter Tryd.func24,Tryd.ntmps24
  go_wp2
  go_ret
  exact ⟨qe_,u1_ HB⟩
 ·rw [if_neg c2] at H
  have c2b0 : decide (a0 < (-9223372036854775807)) = false:=decide_eq_false c2
  clear c2
  by_cases c3 : a0 < 0
  ·rw [if_pos c3] at H
   have c3b0 : decide (a0 < 0) = true:=decide_eq_true c3
   clear c3
   replace H:=Option.bind_eq_some_iff.mp H
   obtain ⟨t118,A40,H⟩:=H
   replace H : (if 1 + t118.size ≤ 9223372036854775807 then (some ((⟨#[45]⟩ : ByteArray) ++ t118)) else (none)) = some r:=H
   have A4:=mk_ A40
   clear A40
   by_cases c5 : 1 + t118.size ≤ 9223372036854775807
   ·rw [if_pos c5] at H
    have c5b0:=eq_true c5
    have c5b1 : decide (1 + t118.size ≤ 9223372036854775807) = true:=decide_eq_true c5
    try have c5b2 : (9223372036854775807 < 1 + t118.size) = False:=eq_false (Nat.not_lt.2 c5)
    obtain rfl:=Option.some.inj H
    go_enter Tryd.func24,Tryd.ntmps24
    go_wp2_with (first|((with_reducible refine gate_callee (f:=24) rfl ?_);refine goesL_ (some 10) rfl rfl Tryd.func24 (by kernel_rfl) rfl #[.int .i64 (wrap64 (-a0))] rfl qm_ ?_;(with_reducible refine (ih k (by omega) (wrap64 (-a0)) t118 _ A4.out).mono ?_);rintro e w6 ⟨rfl,hb⟩;refine ⟨_,rfl,?_⟩;have n0_:=mk_ (st_ (qb_ HB) hb);clear HB;have HB:=n0_;clear n0_;(try clear hb);(try clear hb2);(try clear hk);(try clear hi)))
    go_ret
    exact ⟨qe_,u1_ HB⟩
   ·rw [if_neg c5] at H
    exact absurd H (by simp)
  ·rw [if_neg c3] at H
   have c3b0 : decide (a0 < 0) = false:=decide_eq_false c3
   clear c3
   have H':=mk_ H
   clear H
   go_enter Tryd.func24,Tryd.ntmps24
   go_wp2
   go_loopg [0,3] k (fun kq v0 v3 w' => ∃ (x0_1 : Int) (x3_1 : ByteArray),v0 = .int .i64 x0_1 ∧ v3 = .string x3_1 ∧ Aside0 (spec_l21Dec.l0 kq x0_1 x3_1 = some r) ∧ Aside0 (kq ≤ k) ∧ Aside0 (Below w.heap.size w w'))
   case atStart => exact ⟨(a0),((⟨#[]⟩ : ByteArray)),qf_,qf_,H',⟨Nat.le_refl _⟩,⟨u1_ HB⟩⟩
   case round =>
    clear H'
    try clear c2
    try clear c2b0
    try clear p2
    try clear c3
    try clear c3b0
    try clear c5
    try clear c5b0
    try clear c5b1
    try clear c5b2
    try clear p6
    obtain ⟨x0_1,x3_1,rfl,rfl,HA,HK1,HB⟩:=hrel
    cases gk with
    | zero => exact absurd HA.out (by simp [spec_l21Dec.l0])
    | succ k1 =>
     have H:=HA.out
     clear HA
     simp only [spec_l21Dec.l0] at H
     by_cases c7 : x0_1 > 9
     ·rw [if_pos c7] at H
      have c7b0 : decide (9 < x0_1) = true:=decide_eq_true c7
      clear c7
      obtain ⟨y119,hy119⟩ : ∃ y_ : List Int,y_ = (([(wrap64 (48 + (Int.tmod x0_1 10))) % 256] : List Int)):=⟨_,rfl⟩
      replace H : (if (strOfNums y119).size + x3_1.size ≤ 9223372036854775807 then (spec_l21Dec.l0 k1 (wrap64 (Int.tdiv x0_1 10)) ((strOfNums y119) ++ x3_1)) else (none)) = some r:=by first|(rw [hy119];with_reducible exact H)|(have H2_:=(Option.bind_some _ _).symm.trans H;rw [hy119];with_reducible exact H2_)|(have H2_:=(Option.bind_some _ _).symm.trans H;with_reducible exact H2_)|with_reducible exact H|(rw [hy119];exact H)|exact H
      have Ny119:=mk_ hy119
      clear hy119
      by_cases c8 : (strOfNums y119).size + x3_1.size ≤ 9223372036854775807
      ·rw [if_pos c8] at H
       have c8b0:=eq_true c8
       have c8b1 : decide ((strOfNums y119).size + x3_1.size ≤ 9223372036854775807) = true:=decide_eq_true c8
       try have c8b2 : (9223372036854775807 < (strOfNums y119).size + x3_1.size) = False:=eq_false (Nat.not_lt.2 c8)
       have H':=mk_ H
       clear H
       go_wp2_with (first|((with_reducible refine gate_dst (N:=18) rfl ?_);refine Kd.R_lit (Kd.int .u8) _ 5 ?hg (N:=18) ?hd (xs:=([(wrap64 (48 + (Int.tmod x0_1 10))) % 256] : List Int)) (inner:=[.int .u8 ((wrap64 (48 + (Int.tmod x0_1 10))) % 256)]) (ok:=fun _ => True) (okp:=fun _ => True) ?hr ?hp (fun _ hk => hk) trivial (Below.refl _ _) (Nat.le_refl _) (by simp) ?_;(case hd => rfl);(case hg => rfl);(case hr => first|(go_simp;done)|(go_simp;rfl));(case hp => exact (Reps.one (show Kd.M (Kd.int .u8) _ _ _ ((wrap64 (48 + (Int.tmod x0_1 10))) % 256) [.int .u8 ((wrap64 (48 + (Int.tmod x0_1 10))) % 256)] from rfl) (Reps.none _ _)));intro v120 w9 ho10 hb hg_ hnew_;clear hg_ hnew_;(first|rw [← Ny119.out] at ho10|(simp only [Int.reduceToNat] at ho10;rw [← Ny119.out] at ho10));have n0_:=mk_ (Kd.R_lower ho10 (bz_ (qb_ HB)));have n1_:=mk_ (st_ (qb_ HB) hb);clear HB;have HO121:=n0_;have HB:=n1_;clear n0_ n1_ hb ho10;have hcv11:=own_string (P:=Tryd.prog) Tryd.underlying43 Tryd.underlying5 Tryd.underlying9 (Kd.own_of_R HO121.out)))
       go_roundg k1
       case measure => have:=HK1.out;omega
       case rel => exact ⟨(wrap64 (Int.tdiv x0_1 10)),((strOfNums y119) ++ x3_1),qf_,qf_,H',⟨by have:=HK1.out;omega⟩,⟨u1_ HB⟩⟩
      ·rw [if_neg c8] at H
       exact absurd H (by simp)
     ·rw [if_neg c7] at H
      have c7b0 : decide (9 < x0_1) = false:=decide_eq_false c7
      clear c7
      obtain ⟨y122,hy122⟩ : ∃ y_ : List Int,y_ = (([(wrap64 (48 + x0_1)) % 256] : List Int)):=⟨_,rfl⟩
      replace H : (if (strOfNums y122).size + x3_1.size ≤ 9223372036854775807 then (some ((strOfNums y122) ++ x3_1)) else (none)) = some r:=by first|(rw [hy122];with_reducible exact H)|(have H2_:=(Option.bind_some _ _).symm.trans H;rw [hy122];with_reducible exact H2_)|(have H2_:=(Option.bind_some _ _).symm.trans H;with_reducible exact H2_)|with_reducible exact H|(rw [hy122];exact H)|exact H
      have Ny122:=mk_ hy122
      clear hy122
      by_cases c12 : (strOfNums y122).size + x3_1.size ≤ 9223372036854775807
      ·rw [if_pos c12] at H
       have c12b0:=eq_true c12
       have c12b1 : decide ((strOfNums y122).size + x3_1.size ≤ 9223372036854775807) = true:=decide_eq_true c12
       try have c12b2 : (9223372036854775807 < (strOfNums y122).size + x3_1.size) = False:=eq_false (Nat.not_lt.2 c12)
       obtain rfl:=Option.some.inj H
       go_wp2_with (first|((with_reducible refine gate_dst (N:=27) rfl ?_);refine Kd.R_lit (Kd.int .u8) _ 5 ?hg (N:=27) ?hd (xs:=([(wrap64 (48 + x0_1)) % 256] : List Int)) (inner:=[.int .u8 ((wrap64 (48 + x0_1)) % 256)]) (ok:=fun _ => True) (okp:=fun _ => True) ?hr ?hp (fun _ hk => hk) trivial (Below.refl _ _) (Nat.le_refl _) (by simp) ?_;(case hd => rfl);(case hg => rfl);(case hr => first|(go_simp;done)|(go_simp;rfl));(case hp => exact (Reps.one (show Kd.M (Kd.int .u8) _ _ _ ((wrap64 (48 + x0_1)) % 256) [.int .u8 ((wrap64 (48 + x0_1)) % 256)] from rfl) (Reps.none _ _)));intro v123 w13 ho14 hb hg_ hnew_;clear hg_ hnew_;(first|rw [← Ny122.out] at ho14|(simp only [Int.reduceToNat] at ho14;rw [← Ny122.out] at ho14));have n0_:=mk_ (Kd.R_lower ho14 (bz_ (qb_ HB)));have n1_:=mk_ (st_ (qb_ HB) hb);clear HB;have HO124:=n0_;have HB:=n1_;clear n0_ n1_ hb ho14;have hcv15:=own_string (P:=Tryd.prog) Tryd.underlying43 Tryd.underlying5 Tryd.underlying9 (Kd.own_of_R HO124.out)))
       go_ret
       exact ⟨qe_,u1_ HB⟩
      ·rw [if_neg c12] at H
       exact absurd H (by simp)

/-! ### spec_l20Line: function 12 -/
def spec_l20Line.l0 : Nat → ByteArray → List Int → Int → Option (ByteArray)
 | 0,_,_,_ => none
 | k + 1,x0,x1,x5 => if x5 < (x1.length : Int) then (if x0.size + 1 ≤ 9223372036854775807 then (if 0 ≤ x5 then ((spec_l21Dec.f k (rd x1 x5)).bind fun t126 => (if (x0 ++ (⟨#[32]⟩ : ByteArray)).size + t126.size ≤ 9223372036854775807 then (spec_l20Line.l0 k ((x0 ++ (⟨#[32]⟩ : ByteArray)) ++ t126) x1 (wrap64 (x5 + 1))) else (none))) else (none)) else (none)) else (some x0)
def spec_l20Line.f (k : Nat) (a0 : ByteArray) (l1 : List Int) : Option (ByteArray):=spec_l20Line.l0 k a0 l1 0
theorem spec_l20Line.mono_l : ∀ k,(∀ y0 y1 y2,LeO (spec_l20Line.l0 k y0 y1 y2) (spec_l20Line.l0 (k + 1) y0 y1 y2))
 | 0 => fun _ _ _ r h => by simp [spec_l20Line.l0] at h
 | k + 1 => by
  have ih0:=spec_l20Line.mono_l k
  ·intro y0 y1 y2
   unfold spec_l20Line.l0
   repeat' first
   | (with_reducible exact ih0 _ _ _)
   | (with_reducible exact spec_l21Dec.mono _ _)
   | (with_reducible exact LeO.refl _)
   | (with_reducible exact LeO.none _)
   | (with_reducible refine LeO.ite ?_ ?_)
   | (with_reducible refine LeO.bind ?_ (fun _ => ?_))
   | exact ih0 _ _ _
   | exact spec_l21Dec.mono _ _
   | exact LeO.none _
   | refine LeO.ite ?_ ?_
   | refine LeO.bind ?_ (fun _ => ?_)
theorem spec_l20Line.mono : ∀ a0 a1 k,LeO (spec_l20Line.f k a0 a1) (spec_l20Line.f (k + 1) a0 a1):=by
 intro a0 a1 k
 have ih0:=spec_l20Line.mono_l k
 unfold spec_l20Line.f
 repeat' first
   | (with_reducible exact ih0 _ _ _)
   | (with_reducible exact spec_l21Dec.mono _ _)
   | (with_reducible exact LeO.refl _)
   | (with_reducible exact LeO.none _)
   | (with_reducible refine LeO.ite ?_ ?_)
   | (with_reducible refine LeO.bind ?_ (fun _ => ?_))
   | exact ih0 _ _ _
   | exact spec_l21Dec.mono _ _
   | exact LeO.none _
   | refine LeO.ite ?_ ?_
   | refine LeO.bind ?_ (fun _ => ?_)
set_option maxHeartbeats 8000000 in
set_option maxRecDepth 100000 in
theorem spec_l20Line.calls (k : Nat) (a0 : ByteArray) (A1 : Option Addr) (c1 : Nat) (l1 : List Int) (r : ByteArray) (w : World) (hr1 : Kd.C (Kd.int .i64) w A1 l1.length l1) (hc1 : l1.length ≤ c1) (h : spec_l20Line.f k a0 l1 = some r) :
  Calls Tryd.prog 12 #[.string a0,.slice A1 l1.length c1] w fun e w' => e = .returned (.string r) ∧ Below w.heap.size w w':=by
 have HR1:=mk_ hr1
 have HC1:=mk_ hc1
 clear hr1 hc1
 have HB:=mk_ (Below.refl w.heap.size w)
 have H : (spec_l20Line.l0 k a0 l1 0) = some r:=h
 clear h
 have H':=mk_ H
 clear H
 go_enter Tryd.func12,Tryd.ntmps12
 go_wp2
 go_loopg [0,5] k (fun kq v0 v5 w' => ∃ (x0_1 : ByteArray) (x5_1 : Int),v0 = .string x0_1 ∧ v5 = .int .i64 x5_1 ∧ Aside0 (spec_l20Line.l0 kq x0_1 l1 x5_1 = some r) ∧ Aside0 (kq ≤ k) ∧ Aside0 (Below w.heap.size w w'))
 case atStart => exact ⟨(a0),(0),qf_,qf_,H',⟨Nat.le_refl _⟩,⟨u1_ HB⟩⟩
 case round =>
  clear H'
  try clear c1
  try clear p2
  obtain ⟨x0_1,x5_1,rfl,rfl,HA,HK1,HB⟩:=hrel
  cases gk with
  | zero => exact absurd HA.out (by simp [spec_l20Line.l0])
  | succ k1 =>
   have H:=HA.out
   clear HA
   simp only [spec_l20Line.l0] at H
   by_cases c3 : x5_1 < (l1.length : Int)
   ·rw [if_pos c3] at H
    have c3b0 : decide (x5_1 < (l1.length : Int)) = true:=decide_eq_true c3
    clear c3
    by_cases c4 : x0_1.size + 1 ≤ 9223372036854775807
    ·rw [if_pos c4] at H
     have c4b0:=eq_true c4
     have c4b1 : decide (x0_1.size + 1 ≤ 9223372036854775807) = true:=decide_eq_true c4
     try have c4b2 : (9223372036854775807 < x0_1.size + 1) = False:=eq_false (Nat.not_lt.2 c4)
     by_cases c5 : 0 ≤ x5_1
     ·rw [if_pos c5] at H
      have c5b0 : decide (0 ≤ x5_1) = true:=decide_eq_true c5
      clear c5
      replace H:=Option.bind_eq_some_iff.mp H
      obtain ⟨t126,A60,H⟩:=H
      replace H : (if (x0_1 ++ (⟨#[32]⟩ : ByteArray)).size + t126.size ≤ 9223372036854775807 then (spec_l20Line.l0 k1 ((x0_1 ++ (⟨#[32]⟩ : ByteArray)) ++ t126) l1 (wrap64 (x5_1 + 1))) else (none)) = some r:=H
      have A6:=mk_ A60
      clear A60
      by_cases c7 : (x0_1 ++ (⟨#[32]⟩ : ByteArray)).size + t126.size ≤ 9223372036854775807
      ·rw [if_pos c7] at H
       have c7b0:=eq_true c7
       have c7b1 : decide ((x0_1 ++ (⟨#[32]⟩ : ByteArray)).size + t126.size ≤ 9223372036854775807) = true:=decide_eq_true c7
       try have c7b3 : (9223372036854775807 < x0_1.size + 1 + t126.size) = False:=by have h_:=c7;simp only [ByteArray.size_append] at h_;exact eq_false (Nat.not_lt.2 h_)
       try have c7b2 : (9223372036854775807 < (x0_1 ++ (⟨#[32]⟩ : ByteArray)).size + t126.size) = False:=eq_false (Nat.not_lt.2 c7)
       have H':=mk_ H
       clear H
       have p125 : 0 ≤ (x5_1 : Int):=od_ qa_
       have q125 : x5_1 < (l1.length : Int):=od_ qa_
       obtain ⟨ad125,e125,hx125_0⟩:=Kd.at_int HR1.out x5_1 p125 q125
       cases e125
       replace hx125_0:=(HB.out.cell (wl_ w _ hx125_0)).trans hx125_0
       replace p125:=eq_true p125
       replace q125:=eq_true q125
       go_wp2_with (first|((with_reducible refine gate_callee (f:=24) rfl ?_);refine goesL_ (some 18) rfl rfl Tryd.func24 (by kernel_rfl) rfl #[.int .i64 (rd l1 x5_1)] rfl qm_ ?_;(with_reducible refine (spec_l21Dec.calls k1 (rd l1 x5_1) t126 _ A6.out).mono ?_);rintro e w8 ⟨rfl,hb⟩;refine ⟨_,rfl,?_⟩;have n0_:=mk_ (st_ (qb_ HB) hb);clear HB;have HB:=n0_;clear n0_;(try clear hb);(try clear hb2);(try clear hk);(try clear hi)))
       go_roundg k1
       case measure => have:=HK1.out;omega
       case rel => exact ⟨((x0_1 ++ (⟨#[32]⟩ : ByteArray)) ++ t126),(wrap64 (x5_1 + 1)),qf_,qf_,H',⟨by have:=HK1.out;omega⟩,⟨u1_ HB⟩⟩
      ·rw [if_neg c7] at H
       exact absurd H (by simp)
     ·rw [if_neg c5] at H
      exact absurd H (by simp)
    ·rw [if_neg c4] at H
     exact absurd H (by simp)
   ·rw [if_neg c3] at H
    have c3b0 : decide (x5_1 < (l1.length : Int)) = false:=decide_eq_false c3
    clear c3
    obtain rfl:=Option.some.inj H
    go_wp2
    go_ret
    exact ⟨qe_,u1_ HB⟩

/-! ### spec_NetText: function 5 -/
mutual
def spec_NetText.l0 : Nat → ByteArray → Int → Int → List (S39) → List Int → List Int → Option (ByteArray)
 | 0,_,_,_,_,_,_ => none
 | k + 1,x3,x4,z4_,z5_,z6_,z7_ => if x4 < (z5_.length : Int) then (if 0 ≤ x4 then ((spec_l20Line.f k (⟨#[99,97,98,108,101]⟩ : ByteArray) (([(rd_T39 z5_ x4).f0,(rd_T39 z5_ x4).f1,(rd_T39 z5_ x4).f2] : List Int))).bind fun t138 => (if x3.size + t138.size ≤ 9223372036854775807 then (if (x3 ++ t138).size + 1 ≤ 9223372036854775807 then (spec_NetText.l0 k ((x3 ++ t138) ++ (⟨#[10]⟩ : ByteArray)) (wrap64 (x4 + 1)) z4_ z5_ z6_ z7_) else (none)) else (none))) else (none)) else (spec_NetText.l1 k x3 0 z4_ z5_ z6_ z7_)
def spec_NetText.l1 : Nat → ByteArray → Int → Int → List (S39) → List Int → List Int → Option (ByteArray)
 | 0,_,_,_,_,_,_ => none
 | k + 1,x3,x6,z4_,z5_,z6_,z7_ => if x6 < (z6_.length : Int) then (if 0 ≤ x6 then (if x6 < (z7_.length : Int) then ((spec_l20Line.f k (⟨#[115,116,97,116,105,111,110]⟩ : ByteArray) (([rd z6_ x6,rd z7_ x6] : List Int))).bind fun t144 => (if x3.size + t144.size ≤ 9223372036854775807 then (if (x3 ++ t144).size + 1 ≤ 9223372036854775807 then (spec_NetText.l1 k ((x3 ++ t144) ++ (⟨#[10]⟩ : ByteArray)) (wrap64 (x6 + 1)) z4_ z5_ z6_ z7_) else (none)) else (none))) else (none)) else (none)) else (some x3)
end
def spec_NetText.f (k : Nat) (a0_0 : Int) (l0_1 : List (S39)) (l0_2 : List Int) (l0_3 : List Int) : Option (ByteArray):=(spec_NetValid.f k a0_0 l0_1 l0_2 l0_3).bind fun t128 => (if t128 = true then ((spec_l20Line.f k (⟨#[98,114,105,100,103,101,115]⟩ : ByteArray) (([a0_0] : List Int))).bind fun t132 => (if t132.size + 1 ≤ 9223372036854775807 then (spec_NetText.l0 k (t132 ++ (⟨#[10]⟩ : ByteArray)) 0 a0_0 l0_1 l0_2 l0_3) else (none))) else (some (⟨#[]⟩ : ByteArray)))
theorem spec_NetText.mono_l : ∀ k,(∀ y0 y1 y2 y3 y4 y5,LeO (spec_NetText.l0 k y0 y1 y2 y3 y4 y5) (spec_NetText.l0 (k + 1) y0 y1 y2 y3 y4 y5)) ∧ (∀ y0 y1 y2 y3 y4 y5,LeO (spec_NetText.l1 k y0 y1 y2 y3 y4 y5) (spec_NetText.l1 (k + 1) y0 y1 y2 y3 y4 y5))
 | 0 => ⟨fun _ _ _ _ _ _ r h => by simp [spec_NetText.l0] at h,fun _ _ _ _ _ _ r h => by simp [spec_NetText.l1] at h⟩
 | k + 1 => by
  obtain ⟨ih0,ih1⟩:=spec_NetText.mono_l k
  refine ⟨?_,?_⟩
  ·intro y0 y1 y2 y3 y4 y5
   unfold spec_NetText.l0
   repeat' first
   | (with_reducible exact ih0 _ _ _ _ _ _)
   | (with_reducible exact ih1 _ _ _ _ _ _)
   | (with_reducible exact spec_NetValid.mono _ _ _ _ _)
   | (with_reducible exact spec_l20Line.mono _ _ _)
   | (with_reducible exact LeO.refl _)
   | (with_reducible exact LeO.none _)
   | (with_reducible refine LeO.ite ?_ ?_)
   | (with_reducible refine LeO.bind ?_ (fun _ => ?_))
   | exact ih0 _ _ _ _ _ _
   | exact ih1 _ _ _ _ _ _
   | exact spec_NetValid.mono _ _ _ _ _
   | exact spec_l20Line.mono _ _ _
   | exact LeO.none _
   | refine LeO.ite ?_ ?_
   | refine LeO.bind ?_ (fun _ => ?_)
  ·intro y0 y1 y2 y3 y4 y5
   unfold spec_NetText.l1
   repeat' first
   | (with_reducible exact ih0 _ _ _ _ _ _)
   | (with_reducible exact ih1 _ _ _ _ _ _)
   | (with_reducible exact spec_NetValid.mono _ _ _ _ _)
   | (with_reducible exact spec_l20Line.mono _ _ _)
   | (with_reducible exact LeO.refl _)
   | (with_reducible exact LeO.none _)
   | (with_reducible refine LeO.ite ?_ ?_)
   | (with_reducible refine LeO.bind ?_ (fun _ => ?_))
   | exact ih0 _ _ _ _ _ _
   | exact ih1 _ _ _ _ _ _
   | exact spec_NetValid.mono _ _ _ _ _
   | exact spec_l20Line.mono _ _ _
   | exact LeO.none _
   | refine LeO.ite ?_ ?_
   | refine LeO.bind ?_ (fun _ => ?_)
theorem spec_NetText.mono : ∀ a0 a1 a2 a3 k,LeO (spec_NetText.f k a0 a1 a2 a3) (spec_NetText.f (k + 1) a0 a1 a2 a3):=by
 intro a0 a1 a2 a3 k
 obtain ⟨ih0,ih1⟩:=spec_NetText.mono_l k
 unfold spec_NetText.f
 repeat' first
   | (with_reducible exact ih0 _ _ _ _ _ _)
   | (with_reducible exact ih1 _ _ _ _ _ _)
   | (with_reducible exact spec_NetValid.mono _ _ _ _ _)
   | (with_reducible exact spec_l20Line.mono _ _ _)
   | (with_reducible exact LeO.refl _)
   | (with_reducible exact LeO.none _)
   | (with_reducible refine LeO.ite ?_ ?_)
   | (with_reducible refine LeO.bind ?_ (fun _ => ?_))
   | exact ih0 _ _ _ _ _ _
   | exact ih1 _ _ _ _ _ _
   | exact spec_NetValid.mono _ _ _ _ _
   | exact spec_l20Line.mono _ _ _
   | exact LeO.none _
   | refine LeO.ite ?_ ?_
   | refine LeO.bind ?_ (fun _ => ?_)
def spec_NetText.T12 : Bool × List (List Nat × List Nat):=(true,[([],[]),([],[]),([1],[1]),([],[]),([2,3],[2,3]),([4],[4]),([],[]),([6],[6]),([],[]),([7,8],[7,8]),([9],[9]),([5,10],[5,10]),([11],[11]),([0,12],[0,12]),([13],[13]),([14,12,0,1,2,3,4,5,6,7,8,9,10,11,12,13,14],[0,14])])
def spec_NetText.B12 : List Nat:=[0,0,2,0,14,30,0,64,0,448,960,2046,4094,8191,16383,32767]
theorem spec_NetText.tab12 : rtab .any (opsOf Tryd.f5 12) = spec_NetText.T12:=by kernel_rfl
theorem spec_NetText.bits12 : waitsOk spec_NetText.T12.2 spec_NetText.B12 = true:=by kernel_rfl
set_option maxHeartbeats 8000000 in
set_option maxRecDepth 100000 in
theorem spec_NetText.calls (k : Nat) (a0_0 : Int) (A0_1 : Option Addr) (c0_1 : Nat) (l0_1 : List (S39)) (A0_2 : Option Addr) (c0_2 : Nat) (l0_2 : List Int) (A0_3 : Option Addr) (c0_3 : Nat) (l0_3 : List Int) (r : ByteArray) (w : World) (hr0_1 : Kd.C k39 w A0_1 l0_1.length l0_1) (hc0_1 : l0_1.length ≤ c0_1) (hr0_2 : Kd.C (Kd.int .i64) w A0_2 l0_2.length l0_2) (hc0_2 : l0_2.length ≤ c0_2) (hr0_3 : Kd.C (Kd.int .i64) w A0_3 l0_3.length l0_3) (hc0_3 : l0_3.length ≤ c0_3) (h : spec_NetText.f k a0_0 l0_1 l0_2 l0_3 = some r) :
  Calls Tryd.prog 5 #[.agg #[.int .i64 a0_0,.slice A0_1 l0_1.length c0_1,.slice A0_2 l0_2.length c0_2,.slice A0_3 l0_3.length c0_3]] w fun e w' => e = .returned (.string r) ∧ Below w.heap.size w w':=by
 have hu30:=Tryd.underlying30
 have hu39:=Tryd.underlying39
 have HR0_1:=mk_ hr0_1
 have HC0_1:=mk_ hc0_1
 clear hr0_1 hc0_1
 have HR0_2:=mk_ hr0_2
 have HC0_2:=mk_ hc0_2
 clear hr0_2 hc0_2
 have HR0_3:=mk_ hr0_3
 have HC0_3:=mk_ hc0_3
 clear hr0_3 hc0_3
 have HB:=mk_ (Below.refl w.heap.size w)
 have H : ((spec_NetValid.f k a0_0 l0_1 l0_2 l0_3).bind fun t128 => (if t128 = true then ((spec_l20Line.f k (⟨#[98,114,105,100,103,101,115]⟩ : ByteArray) (([a0_0] : List Int))).bind fun t132 => (if t132.size + 1 ≤ 9223372036854775807 then (spec_NetText.l0 k (t132 ++ (⟨#[10]⟩ : ByteArray)) 0 a0_0 l0_1 l0_2 l0_3) else (none))) else (some (⟨#[]⟩ : ByteArray)))) = some r:=h
 clear h
 replace H:=Option.bind_eq_some_iff.mp H
 obtain ⟨t128,A20,H⟩:=H
 replace H : (if t128 = true then ((spec_l20Line.f k (⟨#[98,114,105,100,103,101,115]⟩ : ByteArray) (([a0_0] : List Int))).bind fun t132 => (if t132.size + 1 ≤ 9223372036854775807 then (spec_NetText.l0 k (t132 ++ (⟨#[10]⟩ : ByteArray)) 0 a0_0 l0_1 l0_2 l0_3) else (none))) else (some (⟨#[]⟩ : ByteArray))) = some r:=H
 have A2:=mk_ A20
 clear A20
 by_cases c3 : t128 = true
 ·subst c3
  have H1 : ((spec_l20Line.f k (⟨#[98,114,105,100,103,101,115]⟩ : ByteArray) (([a0_0] : List Int))).bind fun t132 => (if t132.size + 1 ≤ 9223372036854775807 then (spec_NetText.l0 k (t132 ++ (⟨#[10]⟩ : ByteArray)) 0 a0_0 l0_1 l0_2 l0_3) else (none))) = some r:=by rw [if_pos rfl] at H;exact H
  clear H
  have H:=H1
  clear H1
  obtain ⟨y129,hy129⟩ : ∃ y_ : List Int,y_ = (([a0_0] : List Int)):=⟨_,rfl⟩
  replace H : ((spec_l20Line.f k (⟨#[98,114,105,100,103,101,115]⟩ : ByteArray) y129).bind fun t132 => (if t132.size + 1 ≤ 9223372036854775807 then (spec_NetText.l0 k (t132 ++ (⟨#[10]⟩ : ByteArray)) 0 a0_0 l0_1 l0_2 l0_3) else (none))) = some r:=by first|(rw [hy129];with_reducible exact H)|(have H2_:=(Option.bind_some _ _).symm.trans H;rw [hy129];with_reducible exact H2_)|(have H2_:=(Option.bind_some _ _).symm.trans H;with_reducible exact H2_)|with_reducible exact H|(rw [hy129];exact H)|exact H
  have Ny129:=mk_ hy129
  clear hy129
  replace H:=Option.bind_eq_some_iff.mp H
  obtain ⟨t132,A40,H⟩:=H
  replace H : (if t132.size + 1 ≤ 9223372036854775807 then (spec_NetText.l0 k (t132 ++ (⟨#[10]⟩ : ByteArray)) 0 a0_0 l0_1 l0_2 l0_3) else (none)) = some r:=H
  have A4:=mk_ A40
  clear A40
  by_cases c5 : t132.size + 1 ≤ 9223372036854775807
  ·rw [if_pos c5] at H
   have c5b0:=eq_true c5
   have c5b1 : decide (t132.size + 1 ≤ 9223372036854775807) = true:=decide_eq_true c5
   try have c5b2 : (9223372036854775807 < t132.size + 1) = False:=eq_false (Nat.not_lt.2 c5)
   have H':=mk_ H
   clear H
   go_enter Tryd.func5,Tryd.ntmps5
   go_wp2_with (first|((with_reducible refine gate_dst (N:=1) rfl ?_);refine box_event ?hg (N:=1) ?hd (cs:=#[.int .i64 a0_0,.slice A0_1 l0_1.length c0_1,.slice A0_2 l0_2.length c0_2,.slice A0_3 l0_3.length c0_3]) (t:=30) ?hr ?_;(case hd => rfl);(case hg => rfl);(case hr => first|(go_simp;done)|(go_simp;rfl));intro gb127 hg w6 hbox hb;have n0_:=mk_ (st_ (qb_ HB) hb);have n1_:=mk_ (hbox);have n2_:=mk_ ((by rw [hg];exact (bz_ (qb_ HB)) : w.heap.size ≤ gb127));have n3_:=mk_ ((by rw [hg];exact (bz_ (qb_ HB)) : w.heap.size ≤ gb127));clear HB;have HB:=n0_;have BK127:=n1_;have GW127:=n2_;have GE127:=n3_;clear n0_ n1_ n2_ n3_ hb hbox hg;have hcz7_0 : w6.cell? ⟨gb127,0,none⟩ = some (.int .i64 a0_0):=(bc_ BK127.out 0).trans rfl;have hcz7_1 : w6.cell? ⟨gb127,1,none⟩ = some (.slice A0_1 l0_1.length c0_1):=(bc_ BK127.out 1).trans rfl;have hcz7_2 : w6.cell? ⟨gb127,2,none⟩ = some (.slice A0_2 l0_2.length c0_2):=(bc_ BK127.out 2).trans rfl;have hcz7_3 : w6.cell? ⟨gb127,3,none⟩ = some (.slice A0_3 l0_3.length c0_3):=(bc_ BK127.out 3).trans rfl;have hfz7_0:=bf_ BK127.out 0;have hfz7_1:=bf_ BK127.out 1;have hfz7_2:=bf_ BK127.out 2;have hfz7_3:=bf_ BK127.out 3)|((with_reducible refine gate_callee (f:=11) rfl ?_);refine goesL_ (some 8) rfl rfl Tryd.func11 (by kernel_rfl) rfl #[.agg #[.int .i64 a0_0,.slice A0_1 l0_1.length c0_1,.slice A0_2 l0_2.length c0_2,.slice A0_3 l0_3.length c0_3]] rfl qm_ ?_;(with_reducible refine (spec_NetValid.calls k a0_0 _ _ l0_1 _ _ l0_2 _ _ l0_3 true _ ?side1 ?side2 ?side3 ?side4 ?side5 ?side6 A2.out).mono ?_);(case side1 => exact qn_ HR0_1 HB);(case side2 => exact HC0_1.out);(case side3 => exact qn_ HR0_2 HB);(case side4 => exact HC0_2.out);(case side5 => exact qn_ HR0_3 HB);(case side6 => exact HC0_3.out);rintro e w8 ⟨rfl,hb⟩;refine ⟨_,rfl,?_⟩;have n0_:=mk_ (blk_below (g:=gb127) (o:=.cells #[.int .i64 a0_0,.slice A0_1 l0_1.length c0_1,.slice A0_2 l0_2.length c0_2,.slice A0_3 l0_3.length c0_3] 30 (0,0)) (qk_ BK127) hb);have n1_:=mk_ (st_ (qc_ HB GE127) hb);clear BK127 HB;have BK127:=n0_;have HB:=n1_;clear n0_ n1_;(try clear hb);(try clear hb2);(try clear hk);(try clear hi);have hcz9_0 : w8.cell? ⟨gb127,0,none⟩ = some (.int .i64 a0_0):=(bc_ BK127.out 0).trans rfl;have hcz9_1 : w8.cell? ⟨gb127,1,none⟩ = some (.slice A0_1 l0_1.length c0_1):=(bc_ BK127.out 1).trans rfl;have hcz9_2 : w8.cell? ⟨gb127,2,none⟩ = some (.slice A0_2 l0_2.length c0_2):=(bc_ BK127.out 2).trans rfl;have hcz9_3 : w8.cell? ⟨gb127,3,none⟩ = some (.slice A0_3 l0_3.length c0_3):=(bc_ BK127.out 3).trans rfl;have hfz9_0:=bf_ BK127.out 0;have hfz9_1:=bf_ BK127.out 1;have hfz9_2:=bf_ BK127.out 2;have hfz9_3:=bf_ BK127.out 3)|((with_reducible refine gate_dst (N:=12) rfl ?_);refine Kd.R_lit (Kd.int .i64) _ 3 ?hg (N:=12) ?hd (xs:=([a0_0] : List Int)) (inner:=[.int .i64 a0_0]) (ok:=fun _ => True) (okp:=fun _ => True) ?hr ?hp (fun _ hk => hk) trivial (Below.refl _ _) (Nat.le_refl _) (by simp) ?_;(case hd => rfl);(case hg => rfl);(case hr => first|(go_simp;done)|(go_simp;rfl));(case hp => exact (Reps.one (show Kd.M (Kd.int .i64) _ _ _ a0_0 [.int .i64 a0_0] from rfl) (Reps.none _ _)));intro v130 w10 ho11 hb hg_ hnew_;clear hg_ hnew_;(first|rw [← Ny129.out] at ho11|(simp only [Int.reduceToNat] at ho11;rw [← Ny129.out] at ho11));have n0_:=mk_ (Kd.R_lower ho11 (bz_ (qc_ HB GE127)));have n1_:=mk_ (blk_below (g:=gb127) (o:=.cells #[.int .i64 a0_0,.slice A0_1 l0_1.length c0_1,.slice A0_2 l0_2.length c0_2,.slice A0_3 l0_3.length c0_3] 30 (0,0)) (qk_ BK127) hb);have n2_:=mk_ (st_ (qc_ HB GE127) hb);clear BK127 HB;have HO131:=n0_;have BK127:=n1_;have HB:=n2_;clear n0_ n1_ n2_ hb ho11;obtain ⟨Ao12,co12,eo12⟩:=Kd.R_slice HO131.out;subst eo12)|((with_reducible refine gate_callee (f:=12) rfl ?_);refine goesL_ (some 13) rfl rfl Tryd.func12 (by kernel_rfl) rfl #[.string (⟨#[98,114,105,100,103,101,115]⟩ : ByteArray),.slice Ao12 y129.length co12] rfl qm_ ?_;(with_reducible refine (spec_l20Line.calls k (⟨#[98,114,105,100,103,101,115]⟩ : ByteArray) _ _ y129 t132 _ ?side1 ?side2 A4.out).mono ?_);(case side1 => repeat (first|exact (rr_ HO131.out).2.2|(with_reducible refine ca_ ?_ _)|(with_reducible refine cn_ ?_ _)|(with_reducible refine cd_ ?_)));(case side2 => exact (rr_ HO131.out).2.1);rintro e w13 ⟨rfl,hb⟩;refine ⟨_,rfl,?_⟩;have n0_:=mk_ (rb_ (qr_ HO131) hb);have n1_:=mk_ (blk_below (g:=gb127) (o:=.cells #[.int .i64 a0_0,.slice A0_1 l0_1.length c0_1,.slice A0_2 l0_2.length c0_2,.slice A0_3 l0_3.length c0_3] 30 (0,0)) (qk_ BK127) hb);have n2_:=mk_ (st_ (qc_ HB GE127) hb);clear HO131 BK127 HB;have HO131:=n0_;have BK127:=n1_;have HB:=n2_;clear n0_ n1_ n2_;(try clear hb);(try clear hb2);(try clear hk);(try clear hi)))
   go_loopg [3,4] k (fun kq v3 v4 w' => ∃ (x3_1 : ByteArray) (x4_1 : Int),v3 = .string x3_1 ∧ v4 = .int .i64 x4_1 ∧ Aside0 (spec_NetText.l0 kq x3_1 x4_1 a0_0 l0_1 l0_2 l0_3 = some r) ∧ Aside0 (kq ≤ k) ∧ Aside0 (w'.heap[gb127]? = some (.cells #[.int .i64 a0_0,(.slice A0_1 l0_1.length c0_1),(.slice A0_2 l0_2.length c0_2),(.slice A0_3 l0_3.length c0_3)] 30 (0,0))) ∧ Aside0 (Below w.heap.size w w'))
   case atStart => exact ⟨(t132 ++ (⟨#[10]⟩ : ByteArray)),(0),qf_,qf_,H',⟨Nat.le_refl _⟩,⟨qk_ BK127⟩,⟨u0_ HB GE127⟩⟩
   case round =>
    clear H'
    try clear c1
    try clear p2
    try clear c3
    try clear c5
    try clear c5b0
    try clear c5b1
    try clear c5b2
    try clear c11
    try clear c12
    try clear hcz7_0
    try clear hcz7_1
    try clear hcz7_2
    try clear hcz7_3
    try clear hcz9_0
    try clear hcz9_1
    try clear hcz9_2
    try clear hcz9_3
    try clear hfz7_0
    try clear hfz7_1
    try clear hfz7_2
    try clear hfz7_3
    try clear hfz9_0
    try clear hfz9_1
    try clear hfz9_2
    try clear hfz9_3
    obtain ⟨x3_1,x4_1,rfl,rfl,HA,HK1,BK127,HB⟩:=hrel
    cases gk with
    | zero => exact absurd HA.out (by simp [spec_NetText.l0])
    | succ k1 =>
     have H:=HA.out
     clear HA
     simp only [spec_NetText.l0] at H
     by_cases c14 : x4_1 < (l0_1.length : Int)
     ·rw [if_pos c14] at H
      have c14b0 : decide (x4_1 < (l0_1.length : Int)) = true:=decide_eq_true c14
      clear c14
      by_cases c15 : 0 ≤ x4_1
      ·rw [if_pos c15] at H
       have c15b0 : decide (0 ≤ x4_1) = true:=decide_eq_true c15
       clear c15
       obtain ⟨y135,hy135⟩ : ∃ y_ : List Int,y_ = (([(rd_T39 l0_1 x4_1).f0,(rd_T39 l0_1 x4_1).f1,(rd_T39 l0_1 x4_1).f2] : List Int)):=⟨_,rfl⟩
       replace H : ((spec_l20Line.f k1 (⟨#[99,97,98,108,101]⟩ : ByteArray) y135).bind fun t138 => (if x3_1.size + t138.size ≤ 9223372036854775807 then (if (x3_1 ++ t138).size + 1 ≤ 9223372036854775807 then (spec_NetText.l0 k1 ((x3_1 ++ t138) ++ (⟨#[10]⟩ : ByteArray)) (wrap64 (x4_1 + 1)) a0_0 l0_1 l0_2 l0_3) else (none)) else (none))) = some r:=by first|(rw [hy135];with_reducible exact H)|(have H2_:=(Option.bind_some _ _).symm.trans H;rw [hy135];with_reducible exact H2_)|(have H2_:=(Option.bind_some _ _).symm.trans H;with_reducible exact H2_)|with_reducible exact H|(rw [hy135];exact H)|exact H
       have Ny135:=mk_ hy135
       clear hy135
       replace H:=Option.bind_eq_some_iff.mp H
       obtain ⟨t138,A160,H⟩:=H
       replace H : (if x3_1.size + t138.size ≤ 9223372036854775807 then (if (x3_1 ++ t138).size + 1 ≤ 9223372036854775807 then (spec_NetText.l0 k1 ((x3_1 ++ t138) ++ (⟨#[10]⟩ : ByteArray)) (wrap64 (x4_1 + 1)) a0_0 l0_1 l0_2 l0_3) else (none)) else (none)) = some r:=H
       have A16:=mk_ A160
       clear A160
       by_cases c17 : x3_1.size + t138.size ≤ 9223372036854775807
       ·rw [if_pos c17] at H
        have c17b0:=eq_true c17
        have c17b1 : decide (x3_1.size + t138.size ≤ 9223372036854775807) = true:=decide_eq_true c17
        try have c17b2 : (9223372036854775807 < x3_1.size + t138.size) = False:=eq_false (Nat.not_lt.2 c17)
        by_cases c18 : (x3_1 ++ t138).size + 1 ≤ 9223372036854775807
        ·rw [if_pos c18] at H
         have c18b0:=eq_true c18
         have c18b1 : decide ((x3_1 ++ t138).size + 1 ≤ 9223372036854775807) = true:=decide_eq_true c18
         try have c18b3 : (9223372036854775807 < x3_1.size + t138.size + 1) = False:=by have h_:=c18;simp only [ByteArray.size_append] at h_;exact eq_false (Nat.not_lt.2 h_)
         try have c18b2 : (9223372036854775807 < (x3_1 ++ t138).size + 1) = False:=eq_false (Nat.not_lt.2 c18)
         have H':=mk_ H
         clear H
         have hcz19_0 : wr.cell? ⟨gb127,0,none⟩ = some (.int .i64 a0_0):=(bc_ BK127.out 0).trans rfl
         have hcz19_1 : wr.cell? ⟨gb127,1,none⟩ = some (.slice A0_1 l0_1.length c0_1):=(bc_ BK127.out 1).trans rfl
         have hcz19_2 : wr.cell? ⟨gb127,2,none⟩ = some (.slice A0_2 l0_2.length c0_2):=(bc_ BK127.out 2).trans rfl
         have hcz19_3 : wr.cell? ⟨gb127,3,none⟩ = some (.slice A0_3 l0_3.length c0_3):=(bc_ BK127.out 3).trans rfl
         have hfz19_0:=bf_ BK127.out 0
         have hfz19_1:=bf_ BK127.out 1
         have hfz19_2:=bf_ BK127.out 2
         have hfz19_3:=bf_ BK127.out 3
         have p133 : 0 ≤ (x4_1 : Int):=od_ qa_
         have q133 : x4_1 < (l0_1.length : Int):=od_ qa_
         obtain ⟨ad133,e133,hx133_0,hx133_1,hx133_2⟩:=at_T39 HR0_1.out x4_1 p133 q133
         cases e133
         replace hx133_0:=(HB.out.cell (wl_ w _ hx133_0)).trans hx133_0
         replace hx133_1:=(HB.out.cell (wl_ w _ hx133_1)).trans hx133_1
         replace hx133_2:=(HB.out.cell (wl_ w _ hx133_2)).trans hx133_2
         replace p133:=eq_true p133
         replace q133:=eq_true q133
         go_wp2_with (first|((with_reducible refine gate_dst (N:=5) rfl ?_);refine box_event ?hg (N:=5) ?hd (cs:=#[.int .i64 0,.int .i64 0,.int .i64 0]) (t:=39) ?hr ?_;(case hd => rfl);(case hg => rfl);(case hr => first|(go_simp;done)|(go_simp;rfl));intro gb134 hg w20 hbox hb;have n0_:=mk_ (blk_below (g:=gb127) (o:=.cells #[.int .i64 a0_0,.slice (some ad133) l0_1.length c0_1,.slice A0_2 l0_2.length c0_2,.slice A0_3 l0_3.length c0_3] 30 (0,0)) (qk_ BK127) hb);have n1_:=mk_ (st_ (qc_ HB GE127) hb);have n2_:=mk_ (hbox);have n3_:=mk_ ((by rw [hg];exact (bz_ (qc_ HB GE127)) : w.heap.size ≤ gb134));have n4_:=mk_ ((by rw [hg];exact (bz_ (qc_ HB GE127)) : w.heap.size ≤ gb134));have n5_:=mk_ ((by rw [hg];exact Nat.ne_of_lt (blk_lt (g:=gb127) (o:=.cells #[.int .i64 a0_0,.slice (some ad133) l0_1.length c0_1,.slice A0_2 l0_2.length c0_2,.slice A0_3 l0_3.length c0_3] 30 (0,0)) (qk_ BK127)) : gb127 ≠ gb134));have n6_:=mk_ ((by rw [hg];exact Nat.ne_of_gt (blk_lt (g:=gb127) (o:=.cells #[.int .i64 a0_0,.slice (some ad133) l0_1.length c0_1,.slice A0_2 l0_2.length c0_2,.slice A0_3 l0_3.length c0_3] 30 (0,0)) (qk_ BK127)) : gb134 ≠ gb127));clear BK127 HB;have BK127:=n0_;have HB:=n1_;have BK134:=n2_;have GW134:=n3_;have GE134:=n4_;have NB127_134:=n5_;have NB134_127:=n6_;clear n0_ n1_ n2_ n3_ n4_ n5_ n6_ hb hbox hg;have hnb21:=NB134_127.out;have hnc21:=NB127_134.out;have hcz22_0 : w20.cell? ⟨gb134,0,none⟩ = some (.int .i64 0):=(bc_ BK134.out 0).trans rfl;have hcz22_1 : w20.cell? ⟨gb134,1,none⟩ = some (.int .i64 0):=(bc_ BK134.out 1).trans rfl;have hcz22_2 : w20.cell? ⟨gb134,2,none⟩ = some (.int .i64 0):=(bc_ BK134.out 2).trans rfl;have hfz22_0:=bf_ BK134.out 0;have hfz22_1:=bf_ BK134.out 1;have hfz22_2:=bf_ BK134.out 2)|((with_reducible refine gate_dst (N:=34) rfl ?_);refine Kd.R_lit (Kd.int .i64) _ 3 ?hg (N:=34) ?hd (xs:=([(rd_T39 l0_1 x4_1).f0,(rd_T39 l0_1 x4_1).f1,(rd_T39 l0_1 x4_1).f2] : List Int)) (inner:=[.int .i64 ((rd_T39 l0_1 x4_1).f0),.int .i64 ((rd_T39 l0_1 x4_1).f1),.int .i64 ((rd_T39 l0_1 x4_1).f2)]) (ok:=fun _ => True) (okp:=fun _ => True) ?hr ?hp (fun _ hk => hk) trivial (Below.refl _ _) (Nat.le_refl _) (by simp) ?_;(case hd => rfl);(case hg => rfl);(case hr => first|(go_simp;done)|(go_simp;rfl));(case hp => exact (Reps.one (show Kd.M (Kd.int .i64) _ _ _ ((rd_T39 l0_1 x4_1).f0) [.int .i64 ((rd_T39 l0_1 x4_1).f0)] from rfl) (Reps.one (show Kd.M (Kd.int .i64) _ _ _ ((rd_T39 l0_1 x4_1).f1) [.int .i64 ((rd_T39 l0_1 x4_1).f1)] from rfl) (Reps.one (show Kd.M (Kd.int .i64) _ _ _ ((rd_T39 l0_1 x4_1).f2) [.int .i64 ((rd_T39 l0_1 x4_1).f2)] from rfl) (Reps.none _ _)))));intro v136 w23 ho24 hb hg_ hnew_;clear hg_ hnew_;(first|rw [← Ny135.out] at ho24|(simp only [Int.reduceToNat] at ho24;rw [← Ny135.out] at ho24));have n0_:=mk_ (Kd.R_lower ho24 (bz_ (qd_ HB GE127 GE134)));have n1_:=mk_ (blk_below (g:=gb127) (o:=.cells #[.int .i64 a0_0,.slice (some ad133) l0_1.length c0_1,.slice A0_2 l0_2.length c0_2,.slice A0_3 l0_3.length c0_3] 30 (0,0)) (by (with_reducible repeat (first|apply kn_|apply kd_|apply ka_));refine blk_far ?_ NB127_134.out _;(with_reducible repeat (first|apply kn_|apply kd_|apply ka_));refine blk_far ?_ NB127_134.out _;(with_reducible repeat (first|apply kn_|apply kd_|apply ka_));refine blk_far ?_ NB127_134.out _;(with_reducible repeat (first|apply kn_|apply kd_|apply ka_));exact BK127.out) hb);have n2_:=mk_ (blk_below (g:=gb134) (o:=.cells #[.int .i64 ((rd_T39 l0_1 x4_1).f0),.int .i64 ((rd_T39 l0_1 x4_1).f1),.int .i64 ((rd_T39 l0_1 x4_1).f2)] 39 (0,0)) (by (with_reducible repeat (first|apply kn_|apply kd_|apply ka_));refine blk_put (cs:=#[.int .i64 ((rd_T39 l0_1 x4_1).f0),.int .i64 ((rd_T39 l0_1 x4_1).f1),.int .i64 0]) ?_ 2 _ rfl;(with_reducible repeat (first|apply kn_|apply kd_|apply ka_));refine blk_put (cs:=#[.int .i64 ((rd_T39 l0_1 x4_1).f0),.int .i64 0,.int .i64 0]) ?_ 1 _ rfl;(with_reducible repeat (first|apply kn_|apply kd_|apply ka_));refine blk_put (cs:=#[.int .i64 0,.int .i64 0,.int .i64 0]) ?_ 0 _ rfl;(with_reducible repeat (first|apply kn_|apply kd_|apply ka_));exact BK134.out) hb);have n3_:=mk_ (st_ (qd_ HB GE127 GE134) hb);clear BK127 BK134 HB;have HO137:=n0_;have BK127:=n1_;have BK134:=n2_;have HB:=n3_;clear n0_ n1_ n2_ n3_ hb ho24;obtain ⟨Ao25,co25,eo25⟩:=Kd.R_slice HO137.out;subst eo25)|((with_reducible refine gate_callee (f:=12) rfl ?_);refine goesL_ (some 35) rfl rfl Tryd.func12 (by kernel_rfl) rfl #[.string (⟨#[99,97,98,108,101]⟩ : ByteArray),.slice Ao25 y135.length co25] rfl qm_ ?_;(with_reducible refine (spec_l20Line.calls k1 (⟨#[99,97,98,108,101]⟩ : ByteArray) _ _ y135 t138 _ ?side1 ?side2 A16.out).mono ?_);(case side1 => repeat (first|exact (rr_ HO137.out).2.2|(with_reducible refine ca_ ?_ _)|(with_reducible refine cn_ ?_ _)|(with_reducible refine cd_ ?_)));(case side2 => exact (rr_ HO137.out).2.1);rintro e w26 ⟨rfl,hb⟩;refine ⟨_,rfl,?_⟩;have n0_:=mk_ (rb_ (qr_ HO137) hb);have n1_:=mk_ (blk_below (g:=gb127) (o:=.cells #[.int .i64 a0_0,.slice (some ad133) l0_1.length c0_1,.slice A0_2 l0_2.length c0_2,.slice A0_3 l0_3.length c0_3] 30 (0,0)) (qk_ BK127) hb);have n2_:=mk_ (blk_below (g:=gb134) (o:=.cells #[.int .i64 ((rd_T39 l0_1 x4_1).f0),.int .i64 ((rd_T39 l0_1 x4_1).f1),.int .i64 ((rd_T39 l0_1 x4_1).f2)] 39 (0,0)) (qk_ BK134) hb);have n3_:=mk_ (st_ (qd_ HB GE127 GE134) hb);clear HO137 BK127 BK134 HB;have HO137:=n0_;have BK127:=n1_;have BK134:=n2_;have HB:=n3_;clear n0_ n1_ n2_ n3_;(try clear hb);(try clear hb2);(try clear hk);(try clear hi)))
         go_roundg k1
         case measure => have:=HK1.out;omega
         case rel => exact ⟨((x3_1 ++ t138) ++ (⟨#[10]⟩ : ByteArray)),(wrap64 (x4_1 + 1)),qf_,qf_,H',⟨by have:=HK1.out;omega⟩,⟨qk_ BK127⟩,⟨u2_ HB GE127 GE134⟩⟩
        ·rw [if_neg c18] at H
         exact absurd H (by simp)
       ·rw [if_neg c17] at H
        exact absurd H (by simp)
      ·rw [if_neg c15] at H
       exact absurd H (by simp)
     ·rw [if_neg c14] at H
      have c14b0 : decide (x4_1 < (l0_1.length : Int)) = false:=decide_eq_false c14
      clear c14
      have H':=mk_ H
      clear H
      have hcz27_0 : wr.cell? ⟨gb127,0,none⟩ = some (.int .i64 a0_0):=(bc_ BK127.out 0).trans rfl
      have hcz27_1 : wr.cell? ⟨gb127,1,none⟩ = some (.slice A0_1 l0_1.length c0_1):=(bc_ BK127.out 1).trans rfl
      have hcz27_2 : wr.cell? ⟨gb127,2,none⟩ = some (.slice A0_2 l0_2.length c0_2):=(bc_ BK127.out 2).trans rfl
      have hcz27_3 : wr.cell? ⟨gb127,3,none⟩ = some (.slice A0_3 l0_3.length c0_3):=(bc_ BK127.out 3).trans rfl
      have hfz27_0:=bf_ BK127.out 0
      have hfz27_1:=bf_ BK127.out 1
      have hfz27_2:=bf_ BK127.out 2
      have hfz27_3:=bf_ BK127.out 3
      go_wp2
      go_loopg [3,6] k1 (fun kq v3 v6 w' => ∃ (x3_2 : ByteArray) (x6_2 : Int),v3 = .string x3_2 ∧ v6 = .int .i64 x6_2 ∧ Aside0 (spec_NetText.l1 kq x3_2 x6_2 a0_0 l0_1 l0_2 l0_3 = some r) ∧ Aside0 (kq ≤ k1) ∧ Aside0 (w'.heap[gb127]? = some (.cells #[.int .i64 a0_0,(.slice A0_1 l0_1.length c0_1),(.slice A0_2 l0_2.length c0_2),(.slice A0_3 l0_3.length c0_3)] 30 (0,0))) ∧ Aside0 (Below w.heap.size w w'))
      case atStart => exact ⟨(x3_1),(0),qf_,qf_,H',⟨Nat.le_refl _⟩,⟨qk_ BK127⟩,⟨u0_ HB GE127⟩⟩
      case round =>
       clear H'
       try clear c1
       try clear p1
       try clear q1
       try clear hx1
       try clear c2
       try clear p2
       try clear c3
       try clear c5
       try clear c5b0
       try clear c5b1
       try clear c5b2
       try clear p6
       try clear c11
       try clear c12
       try clear p13
       try clear q13
       try clear hx13
       try clear c14
       try clear c14b0
       try clear c15
       try clear c15b0
       try clear c17
       try clear c17b0
       try clear c17b1
       try clear c17b2
       try clear c18
       try clear c18b0
       try clear c18b1
       try clear c18b2
       try clear c21
       try clear hcz19_0
       try clear hcz19_1
       try clear hcz19_2
       try clear hcz19_3
       try clear hcz22_0
       try clear hcz22_1
       try clear hcz22_2
       try clear hcz27_0
       try clear hcz27_1
       try clear hcz27_2
       try clear hcz27_3
       try clear hcz7_0
       try clear hcz7_1
       try clear hcz7_2
       try clear hcz7_3
       try clear hcz9_0
       try clear hcz9_1
       try clear hcz9_2
       try clear hcz9_3
       try clear hfz19_0
       try clear hfz19_1
       try clear hfz19_2
       try clear hfz19_3
       try clear hfz22_0
       try clear hfz22_1
       try clear hfz22_2
       try clear hfz27_0
       try clear hfz27_1
       try clear hfz27_2
       try clear hfz27_3
       try clear hfz7_0
       try clear hfz7_1
       try clear hfz7_2
       try clear hfz7_3
       try clear hfz9_0
       try clear hfz9_1
       try clear hfz9_2
       try clear hfz9_3
       try clear hx133_0
       try clear hx133_1
       try clear hx133_2
       try clear p133
       try clear p2
       try clear q133
       obtain ⟨x3_2,x6_2,rfl,rfl,HA,HK2,BK127,HB⟩:=hrel
       cases gk with
       | zero => exact absurd HA.out (by simp [spec_NetText.l1])
       | succ k2 =>
        have H:=HA.out
        clear HA
        simp only [spec_NetText.l1] at H
        by_cases c28 : x6_2 < (l0_2.length : Int)
        ·rw [if_pos c28] at H
         have c28b0 : decide (x6_2 < (l0_2.length : Int)) = true:=decide_eq_true c28
         clear c28
         by_cases c29 : 0 ≤ x6_2
         ·rw [if_pos c29] at H
          have c29b0 : decide (0 ≤ x6_2) = true:=decide_eq_true c29
          clear c29
          by_cases c30 : x6_2 < (l0_3.length : Int)
          ·rw [if_pos c30] at H
           have c30b0 : decide (x6_2 < (l0_3.length : Int)) = true:=decide_eq_true c30
           clear c30
           obtain ⟨y141,hy141⟩ : ∃ y_ : List Int,y_ = (([rd l0_2 x6_2,rd l0_3 x6_2] : List Int)):=⟨_,rfl⟩
           replace H : ((spec_l20Line.f k2 (⟨#[115,116,97,116,105,111,110]⟩ : ByteArray) y141).bind fun t144 => (if x3_2.size + t144.size ≤ 9223372036854775807 then (if (x3_2 ++ t144).size + 1 ≤ 9223372036854775807 then (spec_NetText.l1 k2 ((x3_2 ++ t144) ++ (⟨#[10]⟩ : ByteArray)) (wrap64 (x6_2 + 1)) a0_0 l0_1 l0_2 l0_3) else (none)) else (none))) = some r:=by first|(rw [hy141];with_reducible exact H)|(have H2_:=(Option.bind_some _ _).symm.trans H;rw [hy141];with_reducible exact H2_)|(have H2_:=(Option.bind_some _ _).symm.trans H;with_reducible exact H2_)|with_reducible exact H|(rw [hy141];exact H)|exact H
           have Ny141:=mk_ hy141
           clear hy141
           replace H:=Option.bind_eq_some_iff.mp H
           obtain ⟨t144,A310,H⟩:=H
           replace H : (if x3_2.size + t144.size ≤ 9223372036854775807 then (if (x3_2 ++ t144).size + 1 ≤ 9223372036854775807 then (spec_NetText.l1 k2 ((x3_2 ++ t144) ++ (⟨#[10]⟩ : ByteArray)) (wrap64 (x6_2 + 1)) a0_0 l0_1 l0_2 l0_3) else (none)) else (none)) = some r:=H
           have A31:=mk_ A310
           clear A310
           by_cases c32 : x3_2.size + t144.size ≤ 9223372036854775807
           ·rw [if_pos c32] at H
            have c32b0:=eq_true c32
            have c32b1 : decide (x3_2.size + t144.size ≤ 9223372036854775807) = true:=decide_eq_true c32
            try have c32b2 : (9223372036854775807 < x3_2.size + t144.size) = False:=eq_false (Nat.not_lt.2 c32)
            by_cases c33 : (x3_2 ++ t144).size + 1 ≤ 9223372036854775807
            ·rw [if_pos c33] at H
             have c33b0:=eq_true c33
             have c33b1 : decide ((x3_2 ++ t144).size + 1 ≤ 9223372036854775807) = true:=decide_eq_true c33
             try have c33b3 : (9223372036854775807 < x3_2.size + t144.size + 1) = False:=by have h_:=c33;simp only [ByteArray.size_append] at h_;exact eq_false (Nat.not_lt.2 h_)
             try have c33b2 : (9223372036854775807 < (x3_2 ++ t144).size + 1) = False:=eq_false (Nat.not_lt.2 c33)
             have H':=mk_ H
             clear H
             have hcz34_0 : wr.cell? ⟨gb127,0,none⟩ = some (.int .i64 a0_0):=(bc_ BK127.out 0).trans rfl
             have hcz34_1 : wr.cell? ⟨gb127,1,none⟩ = some (.slice A0_1 l0_1.length c0_1):=(bc_ BK127.out 1).trans rfl
             have hcz34_2 : wr.cell? ⟨gb127,2,none⟩ = some (.slice A0_2 l0_2.length c0_2):=(bc_ BK127.out 2).trans rfl
             have hcz34_3 : wr.cell? ⟨gb127,3,none⟩ = some (.slice A0_3 l0_3.length c0_3):=(bc_ BK127.out 3).trans rfl
             have hfz34_0:=bf_ BK127.out 0
             have hfz34_1:=bf_ BK127.out 1
             have hfz34_2:=bf_ BK127.out 2
             have hfz34_3:=bf_ BK127.out 3
             try go_wp2
             have n0_:=mk_ (kd_ BK127.out)
             have n1_:=mk_ (bd_ HB.out)
             clear BK127
             clear HB
             have BK127:=n0_
             have HB:=n1_
             clear n0_ n1_
             have p139 : 0 ≤ (x6_2 : Int):=od_ qa_
             have q139 : x6_2 < (l0_2.length : Int):=od_ qa_
             obtain ⟨ad139,e139,hx139_0⟩:=Kd.at_int HR0_2.out x6_2 p139 q139
             have hw139_0:=hx139_0
             cases e139
             replace hx139_0:=(HB.out.cell (wl_ w _ hx139_0)).trans hx139_0
             replace p139:=eq_true p139
             replace q139:=eq_true q139
             have p140 : 0 ≤ (x6_2 : Int):=od_ qa_
             have q140 : x6_2 < (l0_3.length : Int):=od_ qa_
             obtain ⟨ad140,e140,hx140_0⟩:=Kd.at_int HR0_3.out x6_2 p140 q140
             have hw140_0:=hx140_0
             cases e140
             replace hx140_0:=(HB.out.cell (wl_ w _ hx140_0)).trans hx140_0
             replace p140:=eq_true p140
             replace q140:=eq_true q140
             refine start_ (n:=16) (S:=fun w' => w'.cell? ⟨gb127,0,none⟩ = some (.int .i64 a0_0) ∧ w'.cell? ⟨gb127,1,none⟩ = some (.slice A0_1 l0_1.length c0_1) ∧ w'.cell? ⟨gb127,2,none⟩ = some (.slice (some ad139) l0_2.length c0_2) ∧ w'.cell? ⟨gb127,3,none⟩ = some (.slice (some ad140) l0_3.length c0_3) ∧ w'.cell? (ad139.add (x6_2).toNat) = some (.int .i64 (rd l0_2 x6_2)) ∧ w'.cell? (ad140.add (x6_2).toNat) = some (.int .i64 (rd l0_3 x6_2))) (ds:=[]) #[false,false,false,false,false,false,false,false,false,false,false,false,false,false,false,false] (by kernel_rfl) rfl rfl ⟨(bc_ BK127.out 0).trans rfl,(bc_ BK127.out 1).trans rfl,(bc_ BK127.out 2).trans rfl,(bc_ BK127.out 3).trans rfl,((HB.out.cell (wl_ w _ hw139_0)).trans hw139_0),((HB.out.cell (wl_ w _ hw140_0)).trans hw140_0)⟩ (fun hHeld => ?_);refine with_tabW spec_NetText.tab12 spec_NetText.bits12 (fun HT_ HW_ => ?_)
             generalize wr.drew = w35 at BK127 HB hx139_0 hx140_0 hHeld ⊢
             refine pure_ (i:=0) (N:=some 45) (v:=?_) (a':=?_) #[true,false,false,false,false,false,false,false,false,false,false,false,false,false,false,false] rfl rfl (any_of HT_.out (by kernel_rfl)) (fun _ _ _ h => h) (Or.inl ⟨by rfl,?_⟩) ?_ ?_
             rotate_left
             ·intro w'
              go_simp
              with_reducible rfl
             rotate_left
             ·simp only [Act.put,sx_,sy_,sz_,i64_w,i32_w]
              rfl
             refine pure_ (i:=1) (N:=some 46) (v:=?_) (a':=?_) #[true,true,false,false,false,false,false,false,false,false,false,false,false,false,false,false] rfl rfl (any_of HT_.out (by kernel_rfl)) (fun _ _ _ h => h) (Or.inl ⟨by rfl,?_⟩) ?_ ?_
             rotate_left
             ·intro w'
              go_simp
              with_reducible rfl
             rotate_left
             ·simp only [Act.put,sx_,sy_,sz_,i64_w,i32_w]
              rfl
             refine pure_ (i:=3) (N:=some 48) (v:=?_) (a':=?_) #[true,true,false,true,false,false,false,false,false,false,false,false,false,false,false,false] rfl rfl (any_of HT_.out (by kernel_rfl)) (fun _ _ _ h => h) (Or.inl ⟨by rfl,?_⟩) ?_ ?_
             rotate_left
             ·intro w'
              go_simp
              with_reducible rfl
             rotate_left
             ·simp only [Act.put,sx_,sy_,sz_,i64_w,i32_w]
              rfl
             refine pure_ (i:=6) (N:=some 51) (v:=?_) (a':=?_) #[true,true,false,true,false,false,true,false,false,false,false,false,false,false,false,false] rfl rfl (any_of HT_.out (by kernel_rfl)) (fun _ _ _ h => h) (Or.inl ⟨by rfl,?_⟩) ?_ ?_
             rotate_left
             ·intro w'
              go_simp
              with_reducible rfl
             rotate_left
             ·simp only [Act.put,sx_,sy_,sz_,i64_w,i32_w]
              rfl
             refine pure_ (i:=8) (N:=some 53) (v:=?_) (a':=?_) #[true,true,false,true,false,false,true,false,true,false,false,false,false,false,false,false] rfl rfl (any_of HT_.out (by kernel_rfl)) (fun _ _ _ h => h) (Or.inl ⟨by rfl,?_⟩) ?_ ?_
             rotate_left
             ·intro w'
              go_simp
              with_reducible rfl
             rotate_left
             ·simp only [Act.put,sx_,sy_,sz_,i64_w,i32_w]
              rfl
             refine take_ (i:=2) (N:=some 47) (v:=?_) (a':=?_) #[true,true,true,true,false,false,true,false,true,false,false,false,false,false,false,false] rfl rfl (take_ofW HT_.out HW_.out (by kernel_rfl)) (fun _ _ _ h => h) (Or.inl ⟨by rfl,?_⟩) hHeld ?_ ?_
             rotate_left
             ·rintro w' ⟨s0,s1,s2,s3,s4,s5⟩
              go_simp
              with_reducible rfl
             rotate_left
             ·simp only [Act.put,sx_,sy_,sz_,i64_w,i32_w]
              rfl
             refine pure_ (i:=4) (N:=some 49) (v:=?_) (a':=?_) #[true,true,true,true,true,false,true,false,true,false,false,false,false,false,false,false] rfl rfl (any_of HT_.out (by kernel_rfl)) (fun _ _ _ h => h) (Or.inl ⟨by rfl,?_⟩) ?_ ?_
             rotate_left
             ·intro w'
              go_simp
              with_reducible rfl
             rotate_left
             ·simp only [Act.put,sx_,sy_,sz_,i64_w,i32_w]
              rfl
             refine take_ (i:=5) (N:=some 50) (v:=?_) (a':=?_) #[true,true,true,true,true,true,true,false,true,false,false,false,false,false,false,false] rfl rfl (take_ofW HT_.out HW_.out (by kernel_rfl)) (fun _ _ _ h => h) (Or.inl ⟨by rfl,?_⟩) hHeld ?_ ?_
             rotate_left
             ·rintro w' ⟨s0,s1,s2,s3,s4,s5⟩
              go_simp
              with_reducible rfl
             rotate_left
             ·simp only [Act.put,sx_,sy_,sz_,i64_w,i32_w]
              rfl
             refine take_ (i:=7) (N:=some 52) (v:=?_) (a':=?_) #[true,true,true,true,true,true,true,true,true,false,false,false,false,false,false,false] rfl rfl (take_ofW HT_.out HW_.out (by kernel_rfl)) (fun _ _ _ h => h) (Or.inl ⟨by rfl,?_⟩) hHeld ?_ ?_
             rotate_left
             ·rintro w' ⟨s0,s1,s2,s3,s4,s5⟩
              go_simp
              with_reducible rfl
             rotate_left
             ·simp only [Act.put,sx_,sy_,sz_,i64_w,i32_w]
              rfl
             refine pure_ (i:=9) (N:=some 54) (v:=?_) (a':=?_) #[true,true,true,true,true,true,true,true,true,true,false,false,false,false,false,false] rfl rfl (any_of HT_.out (by kernel_rfl)) (fun _ _ _ h => h) (Or.inl ⟨by rfl,?_⟩) ?_ ?_
             rotate_left
             ·intro w'
              go_simp
              with_reducible rfl
             rotate_left
             ·simp only [Act.put,sx_,sy_,sz_,i64_w,i32_w]
              rfl
             refine take_ (i:=10) (N:=some 55) (v:=?_) (a':=?_) #[true,true,true,true,true,true,true,true,true,true,true,false,false,false,false,false] rfl rfl (take_ofW HT_.out HW_.out (by kernel_rfl)) (fun _ _ _ h => h) (Or.inl ⟨by rfl,?_⟩) hHeld ?_ ?_
             rotate_left
             ·rintro w' ⟨s0,s1,s2,s3,s4,s5⟩
              go_simp
              with_reducible rfl
             rotate_left
             ·simp only [Act.put,sx_,sy_,sz_,i64_w,i32_w]
              rfl
             refine one_ (i:=11) (N:=some 56) #[true,true,true,true,true,true,true,true,true,true,true,true,false,false,false,false] rfl rfl (one_of HT_.out (by kernel_rfl)) (by decide) (fun K hK => ?_)
             refine Kd.R_lit_step (Kd.int .i64) _ 3 ?hg (N:=56) ?hd (xs:=([rd l0_2 x6_2,rd l0_3 x6_2] : List Int)) (inner:=[.int .i64 (rd l0_2 x6_2),.int .i64 (rd l0_3 x6_2)]) (ok:=fun _ => True) (okp:=fun _ => True) ?hr ?hp (fun _ hk => hk) trivial (Below.refl _ _) (Nat.le_refl _) (by simp) ?_;(case hd => rfl);(case hg => rfl);(case hr => first|(go_simp;done)|(go_simp;rfl));(case hp => exact (Reps.one (show Kd.M (Kd.int .i64) _ _ _ (rd l0_2 x6_2) [.int .i64 (rd l0_2 x6_2)] from rfl) (Reps.one (show Kd.M (Kd.int .i64) _ _ _ (rd l0_3 x6_2) [.int .i64 (rd l0_3 x6_2)] from rfl) (Reps.none _ _))))
             intro v142 w36 ho37 hb hg_ hnew_
             clear hg_ hnew_
             (first|rw [← Ny141.out] at ho37|(simp only [Int.reduceToNat] at ho37;rw [← Ny141.out] at ho37))
             have n0_:=mk_ (Kd.R_lower ho37 (bz_ (qc_ HB GE127)))
             have n1_:=mk_ (blk_below (g:=gb127) (o:=.cells #[.int .i64 a0_0,.slice A0_1 l0_1.length c0_1,.slice (some ad139) l0_2.length c0_2,.slice (some ad140) l0_3.length c0_3] 30 (0,0)) (qk_ BK127) hb)
             have n2_:=mk_ (st_ (qc_ HB GE127) hb)
             clear BK127
             clear HB
             have HO143:=n0_
             have BK127:=n1_
             have HB:=n2_
             clear n0_ n1_ n2_
             clear hb ho37
             obtain ⟨Ao38,co38,eo38⟩:=Kd.R_slice HO143.out
             (first|subst eo38|(injection eo38 with f1_ f2_ f3_;have f4_:=f1_.symm;have f5_:=f3_.symm;clear f1_ f2_ f3_;subst f4_;subst f5_))
             refine hK.out _ _ ⟨(bc_ BK127.out 0).trans rfl,(bc_ BK127.out 1).trans rfl,(bc_ BK127.out 2).trans rfl,(bc_ BK127.out 3).trans rfl,((HB.out.cell (wl_ w _ hw139_0)).trans hw139_0),((HB.out.cell (wl_ w _ hw140_0)).trans hw140_0)⟩ (fun hHeld => ?_)
             clear hK K
             refine norm_ (a':=?_) ?_ ?_
             rotate_left
             ·show Act.put _ (some 56) _ = _
              simp only [Act.put,sx_,sy_,sz_,i64_w,i32_w]
              rfl
             refine one_ (i:=12) (N:=some 57) #[true,true,true,true,true,true,true,true,true,true,true,true,true,false,false,false] rfl rfl (one_of HT_.out (by kernel_rfl)) (by decide) (fun K hK => ?_)
             refine goes_ Tryd.func12 (by kernel_rfl) rfl #[.string (⟨#[115,116,97,116,105,111,110]⟩ : ByteArray),.slice Ao38 y141.length co38] (by rfl) rfl rfl qm_ ?_
             with_reducible refine (spec_l20Line.calls k2 (⟨#[115,116,97,116,105,111,110]⟩ : ByteArray) _ _ y141 t144 _ ?side1 ?side2 A31.out).mono ?_
             (case side1 => repeat (first|exact (rr_ HO143.out).2.2|(with_reducible refine ca_ ?_ _)|(with_reducible refine cn_ ?_ _)|(with_reducible refine cd_ ?_)))
             (case side2 => exact (rr_ HO143.out).2.1)
             rintro e w39 ⟨rfl,hb⟩
             refine ⟨_,rfl,?_⟩
             have n0_:=mk_ (rb_ (qr_ HO143) hb)
             have n1_:=mk_ (blk_below (g:=gb127) (o:=.cells #[.int .i64 a0_0,.slice A0_1 l0_1.length c0_1,.slice (some ad139) l0_2.length c0_2,.slice (some ad140) l0_3.length c0_3] 30 (0,0)) (qk_ BK127) hb)
             have n2_:=mk_ (st_ (qc_ HB GE127) hb)
             clear HO143
             clear BK127
             clear HB
             have HO143:=n0_
             have BK127:=n1_
             have HB:=n2_
             clear n0_ n1_ n2_
             (try clear hb)
             (try clear hb2)
             (try clear hk)
             (try clear hi)
             refine hK.out _ _ ⟨(bc_ BK127.out 0).trans rfl,(bc_ BK127.out 1).trans rfl,(bc_ BK127.out 2).trans rfl,(bc_ BK127.out 3).trans rfl,((HB.out.cell (wl_ w _ hw139_0)).trans hw139_0),((HB.out.cell (wl_ w _ hw140_0)).trans hw140_0)⟩ (fun hHeld => ?_)
             clear hK K
             refine norm_ (a':=?_) ?_ ?_
             rotate_left
             ·show Act.put _ (some 57) _ = _
              simp only [Act.put,sx_,sy_,sz_,i64_w,i32_w]
              rfl
             refine pure_ (i:=13) (N:=some 58) (v:=?_) (a':=?_) #[true,true,true,true,true,true,true,true,true,true,true,true,true,true,false,false] rfl rfl (any_of HT_.out (by kernel_rfl)) (fun _ _ _ h => h) (Or.inl ⟨by rfl,?_⟩) ?_ ?_
             rotate_left
             ·intro w'
              go_simp
              with_reducible rfl
             rotate_left
             ·simp only [Act.put,sx_,sy_,sz_,i64_w,i32_w]
              rfl
             refine pure_ (i:=14) (N:=some 59) (v:=?_) (a':=?_) #[true,true,true,true,true,true,true,true,true,true,true,true,true,true,true,false] rfl rfl (any_of HT_.out (by kernel_rfl)) (fun _ _ _ h => h) (Or.inl ⟨by rfl,?_⟩) ?_ ?_
             rotate_left
             ·intro w'
              go_simp
              with_reducible rfl
             rotate_left
             ·simp only [Act.put,sx_,sy_,sz_,i64_w,i32_w]
              rfl
             refine pure_ (i:=15) (N:=some 3) (v:=?_) (a':=?_) #[true,true,true,true,true,true,true,true,true,true,true,true,true,true,true,true] rfl rfl (any_of HT_.out (by kernel_rfl)) (fun _ _ _ h => h) (Or.inl ⟨by rfl,?_⟩) ?_ ?_
             rotate_left
             ·intro w'
              go_simp
              with_reducible rfl
             rotate_left
             ·simp only [Act.put,sx_,sy_,sz_,i64_w,i32_w]
              rfl
             refine done_ (done_of HT_.out (by kernel_rfl)) ?_
             try go_wp2
             go_roundg k2
             case measure => have:=HK1.out;have:=HK2.out;omega
             case rel => exact ⟨((x3_2 ++ t144) ++ (⟨#[10]⟩ : ByteArray)),(wrap64 (x6_2 + 1)),qf_,qf_,H',⟨by have:=HK1.out;have:=HK2.out;omega⟩,⟨qk_ BK127⟩,⟨u0_ HB GE127⟩⟩
            ·rw [if_neg c33] at H
             exact absurd H (by simp)
           ·rw [if_neg c32] at H
            exact absurd H (by simp)
          ·rw [if_neg c30] at H
           exact absurd H (by simp)
         ·rw [if_neg c29] at H
          exact absurd H (by simp)
        ·rw [if_neg c28] at H
         have c28b0 : decide (x6_2 < (l0_2.length : Int)) = false:=decide_eq_false c28
         clear c28
         obtain rfl:=Option.some.inj H
         have hcz40_0 : wr.cell? ⟨gb127,0,none⟩ = some (.int .i64 a0_0):=(bc_ BK127.out 0).trans rfl
         have hcz40_1 : wr.cell? ⟨gb127,1,none⟩ = some (.slice A0_1 l0_1.length c0_1):=(bc_ BK127.out 1).trans rfl
         have hcz40_2 : wr.cell? ⟨gb127,2,none⟩ = some (.slice A0_2 l0_2.length c0_2):=(bc_ BK127.out 2).trans rfl
         have hcz40_3 : wr.cell? ⟨gb127,3,none⟩ = some (.slice A0_3 l0_3.length c0_3):=(bc_ BK127.out 3).trans rfl
         have hfz40_0:=bf_ BK127.out 0
         have hfz40_1:=bf_ BK127.out 1
         have hfz40_2:=bf_ BK127.out 2
         have hfz40_3:=bf_ BK127.out 3
         go_wp2
         go_ret
         exact ⟨qe_,u0_ HB GE127⟩
  ·rw [if_neg c5] at H
   exact absurd H (by simp)
 ·replace c3:=Bool.eq_false_iff.mpr c3
  subst c3
  have H1 : (some (⟨#[]⟩ : ByteArray)) = some r:=by rw [if_neg (show ¬ (false = true) by decide)] at H;exact H
  clear H
  have H:=H1
  clear H1
  obtain rfl:=Option.some.inj H
  go_enter Tryd.func5,Tryd.ntmps5
  go_wp2_with (first|((with_reducible refine gate_dst (N:=1) rfl ?_);refine box_event ?hg (N:=1) ?hd (cs:=#[.int .i64 a0_0,.slice A0_1 l0_1.length c0_1,.slice A0_2 l0_2.length c0_2,.slice A0_3 l0_3.length c0_3]) (t:=30) ?hr ?_;(case hd => rfl);(case hg => rfl);(case hr => first|(go_simp;done)|(go_simp;rfl));intro gb127 hg w41 hbox hb;have n0_:=mk_ (st_ (qb_ HB) hb);have n1_:=mk_ (hbox);have n2_:=mk_ ((by rw [hg];exact (bz_ (qb_ HB)) : w.heap.size ≤ gb127));have n3_:=mk_ ((by rw [hg];exact (bz_ (qb_ HB)) : w.heap.size ≤ gb127));clear HB;have HB:=n0_;have BK127:=n1_;have GW127:=n2_;have GE127:=n3_;clear n0_ n1_ n2_ n3_ hb hbox hg;have hcz42_0 : w41.cell? ⟨gb127,0,none⟩ = some (.int .i64 a0_0):=(bc_ BK127.out 0).trans rfl;have hcz42_1 : w41.cell? ⟨gb127,1,none⟩ = some (.slice A0_1 l0_1.length c0_1):=(bc_ BK127.out 1).trans rfl;have hcz42_2 : w41.cell? ⟨gb127,2,none⟩ = some (.slice A0_2 l0_2.length c0_2):=(bc_ BK127.out 2).trans rfl;have hcz42_3 : w41.cell? ⟨gb127,3,none⟩ = some (.slice A0_3 l0_3.length c0_3):=(bc_ BK127.out 3).trans rfl;have hfz42_0:=bf_ BK127.out 0;have hfz42_1:=bf_ BK127.out 1;have hfz42_2:=bf_ BK127.out 2;have hfz42_3:=bf_ BK127.out 3)|((with_reducible refine gate_callee (f:=11) rfl ?_);refine goesL_ (some 8) rfl rfl Tryd.func11 (by kernel_rfl) rfl #[.agg #[.int .i64 a0_0,.slice A0_1 l0_1.length c0_1,.slice A0_2 l0_2.length c0_2,.slice A0_3 l0_3.length c0_3]] rfl qm_ ?_;(with_reducible refine (spec_NetValid.calls k a0_0 _ _ l0_1 _ _ l0_2 _ _ l0_3 false _ ?side1 ?side2 ?side3 ?side4 ?side5 ?side6 A2.out).mono ?_);(case side1 => exact qn_ HR0_1 HB);(case side2 => exact HC0_1.out);(case side3 => exact qn_ HR0_2 HB);(case side4 => exact HC0_2.out);(case side5 => exact qn_ HR0_3 HB);(case side6 => exact HC0_3.out);rintro e w43 ⟨rfl,hb⟩;refine ⟨_,rfl,?_⟩;have n0_:=mk_ (blk_below (g:=gb127) (o:=.cells #[.int .i64 a0_0,.slice A0_1 l0_1.length c0_1,.slice A0_2 l0_2.length c0_2,.slice A0_3 l0_3.length c0_3] 30 (0,0)) (qk_ BK127) hb);have n1_:=mk_ (st_ (qc_ HB GE127) hb);clear BK127 HB;have BK127:=n0_;have HB:=n1_;clear n0_ n1_;(try clear hb);(try clear hb2);(try clear hk);(try clear hi)))
  go_ret
  exact ⟨qe_,u0_ HB GE127⟩

end Go.Proofs.YtdamdcdjodmemaaDoor.PAll
