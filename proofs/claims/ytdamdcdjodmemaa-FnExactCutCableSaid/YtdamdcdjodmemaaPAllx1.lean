/- Proved here: contracts of functions of the given program, or lemmas on them, for the laws of this seat. Written by xprint.py, a program of this session, on the ground of the kit's print; parts by hand: wip/x/ext. -/
import Derived.Test.YtdamdcdjodmemaaPAllx0
import Derived.Test.YtdamdcdjodmemaaPAllx4
namespace Go.Proofs.Ytdamdcdjodmemaa.PAll
open Go.RowKit Go.Proofs.YtdamdcdjodmemaaW.PrintWords Go.Proofs.YtdamdcdjodmemaaW.PrintLast Go.Proofs.YtdamdcdjodmemaaW.PrintMore
attribute [local go_sem] max2_int min2_int max_two min_two max_three min_three max_four min_four   -- for this text's walks alone
set_option linter.unusedVariables false
set_option linter.unusedSimpArgs false

/-! ### laws_szCableS: function 38 -/
def laws_szCableS.f (l0 : List (S79)) (a1 : Int) : Option (Int):=if (wrap64 (a1 - (l0.length : Int))) < 0 then (some (-1)) else (some (wrap64 (a1 - (l0.length : Int))))
set_option maxHeartbeats 8000000 in
set_option maxRecDepth 100000 in
theorem laws_szCableS.calls (A0 : Option Addr) (c0 : Nat) (l0 : List (S79)) (a1 : Int) (r : Int) (w : World) (hr0 : Kd.C k79 w A0 l0.length l0) (hc0 : l0.length ≤ c0) (h : laws_szCableS.f l0 a1 = some r) :
  Calls Try.prog 38 #[.slice A0 l0.length c0,.int .i64 a1] w fun e w' => e = .returned (.int .i64 r) ∧ Drawn0 w w':=by
 have HR0:=mk_ hr0
 have HC0:=mk_ hc0
 clear hr0 hc0
 have H : (if (wrap64 (a1 - (l0.length : Int))) < 0 then (some (-1)) else (some (wrap64 (a1 - (l0.length : Int))))) = some r:=h
 clear h
 by_cases c3 : (wrap64 (a1 - (l0.length : Int))) < 0
 ·rw [if_pos c3] at H
  have c3b0 : decide ((wrap64 (a1 - (l0.length : Int))) < 0) = true:=decide_eq_true c3
  clear c3
  obtain rfl:=Option.some.inj H
  go_enter Try.func38,Try.ntmps38
  go_wp2
  go_ret
  exact ⟨by first|rfl|(simp;done)|(simp [*];done),by repeat (first|exact Drawn0.refl _|apply Drawn0.step)⟩
 ·rw [if_neg c3] at H
  have c3b0 : decide ((wrap64 (a1 - (l0.length : Int))) < 0) = false:=decide_eq_false c3
  clear c3
  obtain rfl:=Option.some.inj H
  go_enter Try.func38,Try.ntmps38
  go_wp2
  go_ret
  exact ⟨by first|rfl|(simp;done)|(simp [*];done),by repeat (first|exact Drawn0.refl _|apply Drawn0.step)⟩

/-! ### laws_szIntS: function 39 -/
def laws_szIntS.f (l0 : List Int) (a1 : Int) : Option (Int):=if (wrap64 (a1 - (l0.length : Int))) < 0 then (some (-1)) else (some (wrap64 (a1 - (l0.length : Int))))
set_option maxHeartbeats 8000000 in
set_option maxRecDepth 100000 in
theorem laws_szIntS.calls (A0 : Option Addr) (c0 : Nat) (l0 : List Int) (a1 : Int) (r : Int) (w : World) (hr0 : Kd.C (Kd.int .i64) w A0 l0.length l0) (hc0 : l0.length ≤ c0) (h : laws_szIntS.f l0 a1 = some r) :
  Calls Try.prog 39 #[.slice A0 l0.length c0,.int .i64 a1] w fun e w' => e = .returned (.int .i64 r) ∧ Drawn0 w w':=by
 have HR0:=mk_ hr0
 have HC0:=mk_ hc0
 clear hr0 hc0
 have H : (if (wrap64 (a1 - (l0.length : Int))) < 0 then (some (-1)) else (some (wrap64 (a1 - (l0.length : Int))))) = some r:=h
 clear h
 by_cases c3 : (wrap64 (a1 - (l0.length : Int))) < 0
 ·rw [if_pos c3] at H
  have c3b0 : decide ((wrap64 (a1 - (l0.length : Int))) < 0) = true:=decide_eq_true c3
  clear c3
  obtain rfl:=Option.some.inj H
  go_enter Try.func39,Try.ntmps39
  go_wp2
  go_ret
  exact ⟨by first|rfl|(simp;done)|(simp [*];done),by repeat (first|exact Drawn0.refl _|apply Drawn0.step)⟩
 ·rw [if_neg c3] at H
  have c3b0 : decide ((wrap64 (a1 - (l0.length : Int))) < 0) = false:=decide_eq_false c3
  clear c3
  obtain rfl:=Option.some.inj H
  go_enter Try.func39,Try.ntmps39
  go_wp2
  go_ret
  exact ⟨by first|rfl|(simp;done)|(simp [*];done),by repeat (first|exact Drawn0.refl _|apply Drawn0.step)⟩

/-! ### laws_szNet: function 12 -/
def laws_szNet.f (a0_0 : Int) (l0_1 : List (S79)) (l0_2 : List Int) (l0_3 : List Int) (a1 : Int) : Option (Int):=(laws_szCableS.f l0_1 a1).bind fun t102 => (if t102 < 0 then (some (-1)) else ((laws_szIntS.f l0_2 t102).bind fun t103 => (if t103 < 0 then (some (-1)) else ((laws_szIntS.f l0_3 t103).bind fun t104 => (if t104 < 0 then (some (-1)) else (some t104))))))
set_option maxHeartbeats 8000000 in
set_option maxRecDepth 100000 in
theorem laws_szNet.calls (a0_0 : Int) (A0_1 : Option Addr) (c0_1 : Nat) (l0_1 : List (S79)) (A0_2 : Option Addr) (c0_2 : Nat) (l0_2 : List Int) (A0_3 : Option Addr) (c0_3 : Nat) (l0_3 : List Int) (a1 : Int) (r : Int) (w : World) (hr0_1 : Kd.C k79 w A0_1 l0_1.length l0_1) (hc0_1 : l0_1.length ≤ c0_1) (hr0_2 : Kd.C (Kd.int .i64) w A0_2 l0_2.length l0_2) (hc0_2 : l0_2.length ≤ c0_2) (hr0_3 : Kd.C (Kd.int .i64) w A0_3 l0_3.length l0_3) (hc0_3 : l0_3.length ≤ c0_3) (h : laws_szNet.f a0_0 l0_1 l0_2 l0_3 a1 = some r) :
  Calls Try.prog 12 #[.agg #[.int .i64 a0_0,.slice A0_1 l0_1.length c0_1,.slice A0_2 l0_2.length c0_2,.slice A0_3 l0_3.length c0_3],.int .i64 a1] w fun e w' => e = .returned (.int .i64 r) ∧ Below w.heap.size w w':=by
 have hu25:=Try.underlying25
 have HR0_1:=mk_ hr0_1
 have HC0_1:=mk_ hc0_1
 clear hr0_1 hc0_1
 have HR0_2:=mk_ hr0_2
 have HC0_2:=mk_ hc0_2
 clear hr0_2 hc0_2
 have HR0_3:=mk_ hr0_3
 have HC0_3:=mk_ hc0_3
 clear hr0_3 hc0_3
 have HB:=mk_ (Below.refl w.heap.size w)
 have H : ((laws_szCableS.f l0_1 a1).bind fun t102 => (if t102 < 0 then (some (-1)) else ((laws_szIntS.f l0_2 t102).bind fun t103 => (if t103 < 0 then (some (-1)) else ((laws_szIntS.f l0_3 t103).bind fun t104 => (if t104 < 0 then (some (-1)) else (some t104))))))) = some r:=h
 clear h
 replace H:=Option.bind_eq_some_iff.mp H
 obtain ⟨t102,A30,H⟩:=H
 replace H : (if t102 < 0 then (some (-1)) else ((laws_szIntS.f l0_2 t102).bind fun t103 => (if t103 < 0 then (some (-1)) else ((laws_szIntS.f l0_3 t103).bind fun t104 => (if t104 < 0 then (some (-1)) else (some t104)))))) = some r:=H
 have A3:=mk_ A30
 clear A30
 by_cases c4 : t102 < 0
 ·rw [if_pos c4] at H
  have c4b0 : decide (t102 < 0) = true:=decide_eq_true c4
  clear c4
  obtain rfl:=Option.some.inj H
  go_enter Try.func12,Try.ntmps12
  go_wp2_with (first|((with_reducible refine gate_dst (N:=2) rfl ?_);refine box_event ?hg (N:=2) ?hd (cs:=#[.int .i64 a0_0,.slice A0_1 l0_1.length c0_1,.slice A0_2 l0_2.length c0_2,.slice A0_3 l0_3.length c0_3]) (t:=25) ?hr ?_;(case hd => rfl);(case hg => rfl);(case hr => first|(go_simp;done)|(go_simp;rfl));intro gb101 hg w5 hbox hb;have n0_:=mk_ (st_ (qb_ HB) hb);have n1_:=mk_ (hbox);have n2_:=mk_ ((by rw [hg];exact (bz_ (qb_ HB)) : w.heap.size ≤ gb101));have n3_:=mk_ ((by rw [hg];exact (bz_ (qb_ HB)) : w.heap.size ≤ gb101));clear HB;have HB:=n0_;have BK101:=n1_;have GW101:=n2_;have GE101:=n3_;clear n0_ n1_ n2_ n3_ hb hbox hg;have hcz6_0 : w5.cell? ⟨gb101,0,none⟩ = some (.int .i64 a0_0):=(bc_ BK101.out 0).trans rfl;have hcz6_1 : w5.cell? ⟨gb101,1,none⟩ = some (.slice A0_1 l0_1.length c0_1):=(bc_ BK101.out 1).trans rfl;have hcz6_2 : w5.cell? ⟨gb101,2,none⟩ = some (.slice A0_2 l0_2.length c0_2):=(bc_ BK101.out 2).trans rfl;have hcz6_3 : w5.cell? ⟨gb101,3,none⟩ = some (.slice A0_3 l0_3.length c0_3):=(bc_ BK101.out 3).trans rfl;have hfz6_0:=bf_ BK101.out 0;have hfz6_1:=bf_ BK101.out 1;have hfz6_2:=bf_ BK101.out 2;have hfz6_3:=bf_ BK101.out 3)|((with_reducible refine gate_callee (f:=38) rfl ?_);refine goesL_ (some 8) rfl rfl Try.func38 (by kernel_rfl) rfl #[.slice A0_1 l0_1.length c0_1,.int .i64 a1] rfl qm_ ?_;(with_reducible refine (laws_szCableS.calls _ _ l0_1 a1 t102 _ ?side1 ?side2 A3.out).mono ?_);(case side1 => exact qn_ HR0_1 HB);(case side2 => exact HC0_1.out);rintro e w' ⟨rfl,⟨nd,rfl⟩⟩;refine ⟨_,rfl,?_⟩))
  go_ret
  exact ⟨qe_,u0_ HB GE101⟩
 ·rw [if_neg c4] at H
  have c4b0 : decide (t102 < 0) = false:=decide_eq_false c4
  clear c4
  replace H:=Option.bind_eq_some_iff.mp H
  obtain ⟨t103,A70,H⟩:=H
  replace H : (if t103 < 0 then (some (-1)) else ((laws_szIntS.f l0_3 t103).bind fun t104 => (if t104 < 0 then (some (-1)) else (some t104)))) = some r:=H
  have A7:=mk_ A70
  clear A70
  by_cases c8 : t103 < 0
  ·rw [if_pos c8] at H
   have c8b0 : decide (t103 < 0) = true:=decide_eq_true c8
   clear c8
   obtain rfl:=Option.some.inj H
   go_enter Try.func12,Try.ntmps12
   go_wp2_with (first|((with_reducible refine gate_dst (N:=2) rfl ?_);refine box_event ?hg (N:=2) ?hd (cs:=#[.int .i64 a0_0,.slice A0_1 l0_1.length c0_1,.slice A0_2 l0_2.length c0_2,.slice A0_3 l0_3.length c0_3]) (t:=25) ?hr ?_;(case hd => rfl);(case hg => rfl);(case hr => first|(go_simp;done)|(go_simp;rfl));intro gb101 hg w9 hbox hb;have n0_:=mk_ (st_ (qb_ HB) hb);have n1_:=mk_ (hbox);have n2_:=mk_ ((by rw [hg];exact (bz_ (qb_ HB)) : w.heap.size ≤ gb101));have n3_:=mk_ ((by rw [hg];exact (bz_ (qb_ HB)) : w.heap.size ≤ gb101));clear HB;have HB:=n0_;have BK101:=n1_;have GW101:=n2_;have GE101:=n3_;clear n0_ n1_ n2_ n3_ hb hbox hg;have hcz10_0 : w9.cell? ⟨gb101,0,none⟩ = some (.int .i64 a0_0):=(bc_ BK101.out 0).trans rfl;have hcz10_1 : w9.cell? ⟨gb101,1,none⟩ = some (.slice A0_1 l0_1.length c0_1):=(bc_ BK101.out 1).trans rfl;have hcz10_2 : w9.cell? ⟨gb101,2,none⟩ = some (.slice A0_2 l0_2.length c0_2):=(bc_ BK101.out 2).trans rfl;have hcz10_3 : w9.cell? ⟨gb101,3,none⟩ = some (.slice A0_3 l0_3.length c0_3):=(bc_ BK101.out 3).trans rfl;have hfz10_0:=bf_ BK101.out 0;have hfz10_1:=bf_ BK101.out 1;have hfz10_2:=bf_ BK101.out 2;have hfz10_3:=bf_ BK101.out 3)|((with_reducible refine gate_callee (f:=38) rfl ?_);refine goesL_ (some 8) rfl rfl Try.func38 (by kernel_rfl) rfl #[.slice A0_1 l0_1.length c0_1,.int .i64 a1] rfl qm_ ?_;(with_reducible refine (laws_szCableS.calls _ _ l0_1 a1 t102 _ ?side1 ?side2 A3.out).mono ?_);(case side1 => exact qn_ HR0_1 HB);(case side2 => exact HC0_1.out);rintro e w' ⟨rfl,⟨nd,rfl⟩⟩;refine ⟨_,rfl,?_⟩)|((with_reducible refine gate_callee (f:=39) rfl ?_);refine goesL_ (some 14) rfl rfl Try.func39 (by kernel_rfl) rfl #[.slice A0_2 l0_2.length c0_2,.int .i64 t102] rfl qm_ ?_;(with_reducible refine (laws_szIntS.calls _ _ l0_2 t102 t103 _ ?side1 ?side2 A7.out).mono ?_);(case side1 => repeat (first|exact (cb_ HR0_2.out (qc_ HB GE101))|(with_reducible refine ca_ ?_ _)|(with_reducible refine cn_ ?_ _)|(with_reducible refine cd_ ?_)));(case side2 => exact HC0_2.out);rintro e w' ⟨rfl,⟨nd,rfl⟩⟩;refine ⟨_,rfl,?_⟩))
   go_ret
   exact ⟨qe_,u0_ HB GE101⟩
  ·rw [if_neg c8] at H
   have c8b0 : decide (t103 < 0) = false:=decide_eq_false c8
   clear c8
   replace H:=Option.bind_eq_some_iff.mp H
   obtain ⟨t104,A110,H⟩:=H
   replace H : (if t104 < 0 then (some (-1)) else (some t104)) = some r:=H
   have A11:=mk_ A110
   clear A110
   by_cases c12 : t104 < 0
   ·rw [if_pos c12] at H
    have c12b0 : decide (t104 < 0) = true:=decide_eq_true c12
    clear c12
    obtain rfl:=Option.some.inj H
    go_enter Try.func12,Try.ntmps12
    go_wp2_with (first|((with_reducible refine gate_dst (N:=2) rfl ?_);refine box_event ?hg (N:=2) ?hd (cs:=#[.int .i64 a0_0,.slice A0_1 l0_1.length c0_1,.slice A0_2 l0_2.length c0_2,.slice A0_3 l0_3.length c0_3]) (t:=25) ?hr ?_;(case hd => rfl);(case hg => rfl);(case hr => first|(go_simp;done)|(go_simp;rfl));intro gb101 hg w13 hbox hb;have n0_:=mk_ (st_ (qb_ HB) hb);have n1_:=mk_ (hbox);have n2_:=mk_ ((by rw [hg];exact (bz_ (qb_ HB)) : w.heap.size ≤ gb101));have n3_:=mk_ ((by rw [hg];exact (bz_ (qb_ HB)) : w.heap.size ≤ gb101));clear HB;have HB:=n0_;have BK101:=n1_;have GW101:=n2_;have GE101:=n3_;clear n0_ n1_ n2_ n3_ hb hbox hg;have hcz14_0 : w13.cell? ⟨gb101,0,none⟩ = some (.int .i64 a0_0):=(bc_ BK101.out 0).trans rfl;have hcz14_1 : w13.cell? ⟨gb101,1,none⟩ = some (.slice A0_1 l0_1.length c0_1):=(bc_ BK101.out 1).trans rfl;have hcz14_2 : w13.cell? ⟨gb101,2,none⟩ = some (.slice A0_2 l0_2.length c0_2):=(bc_ BK101.out 2).trans rfl;have hcz14_3 : w13.cell? ⟨gb101,3,none⟩ = some (.slice A0_3 l0_3.length c0_3):=(bc_ BK101.out 3).trans rfl;have hfz14_0:=bf_ BK101.out 0;have hfz14_1:=bf_ BK101.out 1;have hfz14_2:=bf_ BK101.out 2;have hfz14_3:=bf_ BK101.out 3)|((with_reducible refine gate_callee (f:=38) rfl ?_);refine goesL_ (some 8) rfl rfl Try.func38 (by kernel_rfl) rfl #[.slice A0_1 l0_1.length c0_1,.int .i64 a1] rfl qm_ ?_;(with_reducible refine (laws_szCableS.calls _ _ l0_1 a1 t102 _ ?side1 ?side2 A3.out).mono ?_);(case side1 => exact qn_ HR0_1 HB);(case side2 => exact HC0_1.out);rintro e w' ⟨rfl,⟨nd,rfl⟩⟩;refine ⟨_,rfl,?_⟩)|((with_reducible refine gate_callee (f:=39) rfl ?_);refine goesL_ (some 14) rfl rfl Try.func39 (by kernel_rfl) rfl #[.slice A0_2 l0_2.length c0_2,.int .i64 t102] rfl qm_ ?_;(with_reducible refine (laws_szIntS.calls _ _ l0_2 t102 t103 _ ?side1 ?side2 A7.out).mono ?_);(case side1 => repeat (first|exact (cb_ HR0_2.out (qc_ HB GE101))|(with_reducible refine ca_ ?_ _)|(with_reducible refine cn_ ?_ _)|(with_reducible refine cd_ ?_)));(case side2 => exact HC0_2.out);rintro e w' ⟨rfl,⟨nd,rfl⟩⟩;refine ⟨_,rfl,?_⟩)|((with_reducible refine gate_callee (f:=39) rfl ?_);refine goesL_ (some 20) rfl rfl Try.func39 (by kernel_rfl) rfl #[.slice A0_3 l0_3.length c0_3,.int .i64 t103] rfl qm_ ?_;(with_reducible refine (laws_szIntS.calls _ _ l0_3 t103 t104 _ ?side1 ?side2 A11.out).mono ?_);(case side1 => repeat (first|exact (cb_ HR0_3.out (qc_ HB GE101))|(with_reducible refine ca_ ?_ _)|(with_reducible refine cn_ ?_ _)|(with_reducible refine cd_ ?_)));(case side2 => exact HC0_3.out);rintro e w' ⟨rfl,⟨nd,rfl⟩⟩;refine ⟨_,rfl,?_⟩))
    go_ret
    exact ⟨qe_,u0_ HB GE101⟩
   ·rw [if_neg c12] at H
    have c12b0 : decide (t104 < 0) = false:=decide_eq_false c12
    clear c12
    obtain rfl:=Option.some.inj H
    go_enter Try.func12,Try.ntmps12
    go_wp2_with (first|((with_reducible refine gate_dst (N:=2) rfl ?_);refine box_event ?hg (N:=2) ?hd (cs:=#[.int .i64 a0_0,.slice A0_1 l0_1.length c0_1,.slice A0_2 l0_2.length c0_2,.slice A0_3 l0_3.length c0_3]) (t:=25) ?hr ?_;(case hd => rfl);(case hg => rfl);(case hr => first|(go_simp;done)|(go_simp;rfl));intro gb101 hg w15 hbox hb;have n0_:=mk_ (st_ (qb_ HB) hb);have n1_:=mk_ (hbox);have n2_:=mk_ ((by rw [hg];exact (bz_ (qb_ HB)) : w.heap.size ≤ gb101));have n3_:=mk_ ((by rw [hg];exact (bz_ (qb_ HB)) : w.heap.size ≤ gb101));clear HB;have HB:=n0_;have BK101:=n1_;have GW101:=n2_;have GE101:=n3_;clear n0_ n1_ n2_ n3_ hb hbox hg;have hcz16_0 : w15.cell? ⟨gb101,0,none⟩ = some (.int .i64 a0_0):=(bc_ BK101.out 0).trans rfl;have hcz16_1 : w15.cell? ⟨gb101,1,none⟩ = some (.slice A0_1 l0_1.length c0_1):=(bc_ BK101.out 1).trans rfl;have hcz16_2 : w15.cell? ⟨gb101,2,none⟩ = some (.slice A0_2 l0_2.length c0_2):=(bc_ BK101.out 2).trans rfl;have hcz16_3 : w15.cell? ⟨gb101,3,none⟩ = some (.slice A0_3 l0_3.length c0_3):=(bc_ BK101.out 3).trans rfl;have hfz16_0:=bf_ BK101.out 0;have hfz16_1:=bf_ BK101.out 1;have hfz16_2:=bf_ BK101.out 2;have hfz16_3:=bf_ BK101.out 3)|((with_reducible refine gate_callee (f:=38) rfl ?_);refine goesL_ (some 8) rfl rfl Try.func38 (by kernel_rfl) rfl #[.slice A0_1 l0_1.length c0_1,.int .i64 a1] rfl qm_ ?_;(with_reducible refine (laws_szCableS.calls _ _ l0_1 a1 t102 _ ?side1 ?side2 A3.out).mono ?_);(case side1 => exact qn_ HR0_1 HB);(case side2 => exact HC0_1.out);rintro e w' ⟨rfl,⟨nd,rfl⟩⟩;refine ⟨_,rfl,?_⟩)|((with_reducible refine gate_callee (f:=39) rfl ?_);refine goesL_ (some 14) rfl rfl Try.func39 (by kernel_rfl) rfl #[.slice A0_2 l0_2.length c0_2,.int .i64 t102] rfl qm_ ?_;(with_reducible refine (laws_szIntS.calls _ _ l0_2 t102 t103 _ ?side1 ?side2 A7.out).mono ?_);(case side1 => repeat (first|exact (cb_ HR0_2.out (qc_ HB GE101))|(with_reducible refine ca_ ?_ _)|(with_reducible refine cn_ ?_ _)|(with_reducible refine cd_ ?_)));(case side2 => exact HC0_2.out);rintro e w' ⟨rfl,⟨nd,rfl⟩⟩;refine ⟨_,rfl,?_⟩)|((with_reducible refine gate_callee (f:=39) rfl ?_);refine goesL_ (some 20) rfl rfl Try.func39 (by kernel_rfl) rfl #[.slice A0_3 l0_3.length c0_3,.int .i64 t103] rfl qm_ ?_;(with_reducible refine (laws_szIntS.calls _ _ l0_3 t103 t104 _ ?side1 ?side2 A11.out).mono ?_);(case side1 => repeat (first|exact (cb_ HR0_3.out (qc_ HB GE101))|(with_reducible refine ca_ ?_ _)|(with_reducible refine cn_ ?_ _)|(with_reducible refine cd_ ?_)));(case side2 => exact HC0_3.out);rintro e w' ⟨rfl,⟨nd,rfl⟩⟩;refine ⟨_,rfl,?_⟩))
    go_ret
    exact ⟨qe_,u0_ HB GE101⟩

/-! ### laws_toCable: function 71 -/
def laws_toCable.f (a0_0 : Int) (a0_1 : Int) (a0_2 : Int) : Option (Int × Int × Int):=some (a0_0,a0_1,a0_2)
set_option maxHeartbeats 8000000 in
set_option maxRecDepth 100000 in
theorem laws_toCable.calls (a0_0 : Int) (a0_1 : Int) (a0_2 : Int) (r1 : Int) (r2 : Int) (r3 : Int) (w : World) (h : laws_toCable.f a0_0 a0_1 a0_2 = some (r1,r2,r3)) :
  Calls Try.prog 71 #[.agg #[.int .i64 a0_0,.int .i64 a0_1,.int .i64 a0_2]] w fun e w' => e = .returned (.agg #[.int .i64 r1,.int .i64 r2,.int .i64 r3]) ∧ Below w.heap.size w w':=by
 have hu79:=Try.underlying79
 have hu51:=Try.underlying51
 have HB:=mk_ (Below.refl w.heap.size w)
 have H : (some (a0_0,a0_1,a0_2)) = some (r1,r2,r3):=h
 clear h
 simp only [Option.some.injEq,Prod.mk.injEq] at H
 obtain ⟨rfl,rfl,rfl⟩:=H
 go_enter Try.func71,Try.ntmps71
 go_wp2_with (first|((with_reducible refine gate_dst (N:=1) rfl ?_);refine box_event ?hg (N:=1) ?hd (cs:=#[.int .i64 a0_0,.int .i64 a0_1,.int .i64 a0_2]) (t:=79) ?hr ?_;(case hd => rfl);(case hg => rfl);(case hr => first|(go_simp;done)|(go_simp;rfl));intro gb105 hg w2 hbox hb;have n0_:=mk_ (st_ (qb_ HB) hb);have n1_:=mk_ (hbox);have n2_:=mk_ ((by rw [hg];exact (bz_ (qb_ HB)) : w.heap.size ≤ gb105));have n3_:=mk_ ((by rw [hg];exact (bz_ (qb_ HB)) : w.heap.size ≤ gb105));clear HB;have HB:=n0_;have BK105:=n1_;have GW105:=n2_;have GE105:=n3_;clear n0_ n1_ n2_ n3_ hb hbox hg)|((with_reducible refine gate_dst (N:=2) rfl ?_);refine box_event ?hg (N:=2) ?hd (cs:=#[.int .i64 0,.int .i64 0,.int .i64 0]) (t:=51) ?hr ?_;(case hd => rfl);(case hg => rfl);(case hr => first|(go_simp;done)|(go_simp;rfl));intro gb106 hg w3 hbox hb;have n0_:=mk_ (blk_below (g:=gb105) (o:=.cells #[.int .i64 a0_0,.int .i64 a0_1,.int .i64 a0_2] 79 (0,0)) (qk_ BK105) hb);have n1_:=mk_ (st_ (qc_ HB GE105) hb);have n2_:=mk_ (hbox);have n3_:=mk_ ((by rw [hg];exact (bz_ (qc_ HB GE105)) : w.heap.size ≤ gb106));have n4_:=mk_ ((by rw [hg];exact (bz_ (qc_ HB GE105)) : w.heap.size ≤ gb106));have n5_:=mk_ ((by rw [hg];exact Nat.ne_of_lt (blk_lt (g:=gb105) (o:=.cells #[.int .i64 a0_0,.int .i64 a0_1,.int .i64 a0_2] 79 (0,0)) (qk_ BK105)) : gb105 ≠ gb106));have n6_:=mk_ ((by rw [hg];exact Nat.ne_of_gt (blk_lt (g:=gb105) (o:=.cells #[.int .i64 a0_0,.int .i64 a0_1,.int .i64 a0_2] 79 (0,0)) (qk_ BK105)) : gb106 ≠ gb105));clear BK105 HB;have BK105:=n0_;have HB:=n1_;have BK106:=n2_;have GW106:=n3_;have GE106:=n4_;have NB105_106:=n5_;have NB106_105:=n6_;clear n0_ n1_ n2_ n3_ n4_ n5_ n6_ hb hbox hg)|((with_reducible refine gate_dst (N:=3) rfl ?_);refine box_event ?hg (N:=3) ?hd (cs:=#[.int .i64 0,.int .i64 0,.int .i64 0]) (t:=51) ?hr ?_;(case hd => rfl);(case hg => rfl);(case hr => first|(go_simp;done)|(go_simp;rfl));intro gb107 hg w4 hbox hb;have n0_:=mk_ (blk_below (g:=gb105) (o:=.cells #[.int .i64 a0_0,.int .i64 a0_1,.int .i64 a0_2] 79 (0,0)) (qk_ BK105) hb);have n1_:=mk_ (blk_below (g:=gb106) (o:=.cells #[.int .i64 0,.int .i64 0,.int .i64 0] 51 (0,0)) (qk_ BK106) hb);have n2_:=mk_ (st_ (qd_ HB GE105 GE106) hb);have n3_:=mk_ (hbox);have n4_:=mk_ ((by rw [hg];exact (bz_ (qd_ HB GE105 GE106)) : w.heap.size ≤ gb107));have n5_:=mk_ ((by rw [hg];exact (bz_ (qd_ HB GE105 GE106)) : w.heap.size ≤ gb107));have n6_:=mk_ ((by rw [hg];exact Nat.ne_of_lt (blk_lt (g:=gb105) (o:=.cells #[.int .i64 a0_0,.int .i64 a0_1,.int .i64 a0_2] 79 (0,0)) (qk_ BK105)) : gb105 ≠ gb107));have n7_:=mk_ ((by rw [hg];exact Nat.ne_of_gt (blk_lt (g:=gb105) (o:=.cells #[.int .i64 a0_0,.int .i64 a0_1,.int .i64 a0_2] 79 (0,0)) (qk_ BK105)) : gb107 ≠ gb105));have n8_:=mk_ ((by rw [hg];exact Nat.ne_of_lt (blk_lt (g:=gb106) (o:=.cells #[.int .i64 0,.int .i64 0,.int .i64 0] 51 (0,0)) (qk_ BK106)) : gb106 ≠ gb107));have n9_:=mk_ ((by rw [hg];exact Nat.ne_of_gt (blk_lt (g:=gb106) (o:=.cells #[.int .i64 0,.int .i64 0,.int .i64 0] 51 (0,0)) (qk_ BK106)) : gb107 ≠ gb106));clear BK105 BK106 HB;have BK105:=n0_;have BK106:=n1_;have HB:=n2_;have BK107:=n3_;have GW107:=n4_;have GE107:=n5_;have NB105_107:=n6_;have NB107_105:=n7_;have NB106_107:=n8_;have NB107_106:=n9_;clear n0_ n1_ n2_ n3_ n4_ n5_ n6_ n7_ n8_ n9_ hb hbox hg;have hnb5:=NB105_106.out;have hnc5:=NB106_105.out;have hnb6:=NB105_107.out;have hnc6:=NB107_105.out;have hcz7_0 : w4.cell? ⟨gb105,0,none⟩ = some (.int .i64 a0_0):=(bc_ BK105.out 0).trans rfl;have hcz7_1 : w4.cell? ⟨gb105,1,none⟩ = some (.int .i64 a0_1):=(bc_ BK105.out 1).trans rfl;have hcz7_2 : w4.cell? ⟨gb105,2,none⟩ = some (.int .i64 a0_2):=(bc_ BK105.out 2).trans rfl;have hfz7_0:=bf_ BK105.out 0;have hfz7_1:=bf_ BK105.out 1;have hfz7_2:=bf_ BK105.out 2;have hnb8:=NB107_106.out;have hnc8:=NB106_107.out;have hcz9_0 : w4.cell? ⟨gb107,0,none⟩ = some (.int .i64 0):=(bc_ BK107.out 0).trans rfl;have hcz9_1 : w4.cell? ⟨gb107,1,none⟩ = some (.int .i64 0):=(bc_ BK107.out 1).trans rfl;have hcz9_2 : w4.cell? ⟨gb107,2,none⟩ = some (.int .i64 0):=(bc_ BK107.out 2).trans rfl;have hfz9_0:=bf_ BK107.out 0;have hfz9_1:=bf_ BK107.out 1;have hfz9_2:=bf_ BK107.out 2;have hcz10_0 : w4.cell? ⟨gb106,0,none⟩ = some (.int .i64 0):=(bc_ BK106.out 0).trans rfl;have hcz10_1 : w4.cell? ⟨gb106,1,none⟩ = some (.int .i64 0):=(bc_ BK106.out 1).trans rfl;have hcz10_2 : w4.cell? ⟨gb106,2,none⟩ = some (.int .i64 0):=(bc_ BK106.out 2).trans rfl;have hfz10_0:=bf_ BK106.out 0;have hfz10_1:=bf_ BK106.out 1;have hfz10_2:=bf_ BK106.out 2))
 refine bodyPost_ret (results_cell_row rfl _ _ gb106 51 #[.int .i64 a0_0,.int .i64 a0_1,.int .i64 a0_2] (0,0) _ rfl (by (with_reducible repeat (first|apply kn_|apply kd_|apply ka_));refine blk_put (cs:=#[.int .i64 a0_0,.int .i64 a0_1,.int .i64 0]) ?_ 2 _ rfl;(with_reducible repeat (first|apply kn_|apply kd_|apply ka_));refine blk_put (cs:=#[.int .i64 a0_0,.int .i64 0,.int .i64 0]) ?_ 1 _ rfl;(with_reducible repeat (first|apply kn_|apply kd_|apply ka_));refine blk_put (cs:=#[.int .i64 0,.int .i64 0,.int .i64 0]) ?_ 0 _ rfl;(with_reducible repeat (first|apply kn_|apply kd_|apply ka_));refine blk_far ?_ NB106_107.out _;(with_reducible repeat (first|apply kn_|apply kd_|apply ka_));refine blk_far ?_ NB106_107.out _;(with_reducible repeat (first|apply kn_|apply kd_|apply ka_));refine blk_far ?_ NB106_107.out _;(with_reducible repeat (first|apply kn_|apply kd_|apply ka_));exact BK106.out) Try.underlying51 rfl (by kernel_rfl)) rfl ?_
 exact ⟨qe_,u1_ HB GE105 GE106 GE107⟩

/-! ### laws_toCableS: function 43 -/
def laws_toCableS.l0 : Nat → List (S79) → List (S51) → Int → Option ((List (S51)))
 | 0,_,_,_ => none
 | k + 1,x0,x3,x4 => if x4 < (x0.length : Int) then (if 0 ≤ x4 then ((laws_toCable.f ((rd_T79 x0 x4).f0) ((rd_T79 x0 x4).f1) ((rd_T79 x0 x4).f2)).bind fun bt112 => (if x4 < (x3.length : Int) then (laws_toCableS.l0 k x0 (x3.set (x4 : Int).toNat (⟨bt112.1,bt112.2.1,bt112.2.2⟩ : S51)) (wrap64 (x4 + 1))) else (none))) else (none)) else (some x3)
def laws_toCableS.f (k : Nat) (l0 : List (S79)) : Option ((List (S51))):=if 0 ≤ (l0.length : Int) then (if ((l0.length : Int) : Int).toNat ≤ 11728124029610 then (laws_toCableS.l0 k l0 (List.replicate ((l0.length : Int) : Int).toNat z51) 0) else (none)) else (none)
theorem laws_toCableS.mono_l : ∀ k,(∀ y0 y1 y2,LeO (laws_toCableS.l0 k y0 y1 y2) (laws_toCableS.l0 (k + 1) y0 y1 y2))
 | 0 => fun _ _ _ r h => by simp [laws_toCableS.l0] at h
 | k + 1 => by
  have ih0:=laws_toCableS.mono_l k
  ·intro y0 y1 y2
   unfold laws_toCableS.l0
   repeat' first
   | (with_reducible exact ih0 _ _ _)
   | (with_reducible exact LeO.refl _)
   | (with_reducible exact LeO.none _)
   | (with_reducible refine LeO.ite ?_ ?_)
   | (with_reducible refine LeO.bind ?_ (fun _ => ?_))
   | exact ih0 _ _ _
   | exact LeO.none _
   | refine LeO.ite ?_ ?_
   | refine LeO.bind ?_ (fun _ => ?_)
theorem laws_toCableS.mono : ∀ a0 k,LeO (laws_toCableS.f k a0) (laws_toCableS.f (k + 1) a0):=by
 intro a0 k
 have ih0:=laws_toCableS.mono_l k
 unfold laws_toCableS.f
 repeat' first
   | (with_reducible exact ih0 _ _ _)
   | (with_reducible exact LeO.refl _)
   | (with_reducible exact LeO.none _)
   | (with_reducible refine LeO.ite ?_ ?_)
   | (with_reducible refine LeO.bind ?_ (fun _ => ?_))
   | exact ih0 _ _ _
   | exact LeO.none _
   | refine LeO.ite ?_ ?_
   | refine LeO.bind ?_ (fun _ => ?_)
set_option maxHeartbeats 8000000 in
set_option maxRecDepth 100000 in
theorem laws_toCableS.calls (k : Nat) (A0 : Option Addr) (c0 : Nat) (l0 : List (S79)) (r : List (S51)) (w : World) (hr0 : Kd.C k79 w A0 l0.length l0) (hc0 : l0.length ≤ c0) (h : laws_toCableS.f k l0 = some r) :
  Calls Try.prog 43 #[.slice A0 l0.length c0] w fun e w' => ∃ v0_ : Value,e = .returned (v0_) ∧ Kd.R k51 51 w' w.heap.size (fun _ => True) v0_ r ∧ Below w.heap.size w w':=by
 have hu79:=Try.underlying79
 have hu51:=Try.underlying51
 have HR0:=mk_ hr0
 have HC0:=mk_ hc0
 clear hr0 hc0
 have HB:=mk_ (Below.refl w.heap.size w)
 have H : (if 0 ≤ (l0.length : Int) then (if ((l0.length : Int) : Int).toNat ≤ 11728124029610 then (laws_toCableS.l0 k l0 (List.replicate ((l0.length : Int) : Int).toNat z51) 0) else (none)) else (none)) = some r:=h
 clear h
 by_cases c2 : 0 ≤ (l0.length : Int)
 ·rw [if_pos c2] at H
  have c2b0:=eq_true c2
  have c2b1 : decide (0 ≤ (l0.length : Int)) = true:=decide_eq_true c2
  clear c2
  by_cases c3 : ((l0.length : Int) : Int).toNat ≤ 11728124029610
  ·rw [if_pos c3] at H
   have c3b0:=eq_true c3
   have c3b1 : decide (((l0.length : Int) : Int).toNat ≤ 11728124029610) = true:=decide_eq_true c3
   clear c3
   obtain ⟨y108,hy108⟩ : ∃ y_ : List (S51),y_ = (List.replicate ((l0.length : Int) : Int).toNat z51):=⟨_,rfl⟩
   replace H : (laws_toCableS.l0 k l0 y108 0) = some r:=by first|(rw [hy108];with_reducible exact H)|(have H2_:=(Option.bind_some _ _).symm.trans H;rw [hy108];with_reducible exact H2_)|(have H2_:=(Option.bind_some _ _).symm.trans H;with_reducible exact H2_)|with_reducible exact H|(rw [hy108];exact H)|exact H
   have Ny108:=mk_ hy108
   clear hy108
   have H':=mk_ H
   clear H
   go_enter Try.func43,Try.ntmps43
   go_wp2_with (first|((with_reducible refine gate_dst (N:=7) rfl ?_);refine Kd.R_make k51 _ 51 rfl (N:=7) rfl 28 _ _ rfl (l0.length : Int) rfl rfl Try.underlying28 (.agg #[(.int .i64 0),(.int .i64 0),(.int .i64 0)]) 24 info51 rfl (by decide) (by omega) z51 (ok:=fun _ => True) (okp:=fun _ => True) (k51_mkM _ _ _ z51 ) (fun _ hk => hk) trivial (od_ qa_) (Nat.le_trans (Nat.mul_le_mul_right _ (od_ qa_ : (l0.length : Int).toNat ≤ 11728124029610)) (by omega)) (Below.refl _ _) (Nat.le_refl _) ?_;intro v109 w4 ho5 hb hg_ hnew_;clear hg_ hnew_;(first|rw [← Ny108.out] at ho5|(simp only [Int.reduceToNat] at ho5;rw [← Ny108.out] at ho5));have n0_:=mk_ (Kd.R_lower ho5 (bz_ (qb_ HB)));have n1_:=mk_ (st_ (qb_ HB) hb);clear HB;have HO110:=n0_;have HB:=n1_;clear n0_ n1_ hb ho5))
   go_loopg [4] k (fun kq v4 w' => ∃ (x3_1 : List (S51)) (x4_1 : Int),v4 = .int .i64 x4_1 ∧ Aside0 (laws_toCableS.l0 kq l0 x3_1 x4_1 = some r) ∧ Aside0 (kq ≤ k) ∧ Aside0 (Kd.R k51 51 w' w.heap.size (fun _ => True) v109 x3_1) ∧ Aside0 (Below w.heap.size w w'))
   case atStart => exact ⟨(y108),(0),qf_,H',⟨Nat.le_refl _⟩,⟨qr_ HO110⟩,⟨u2_ HB⟩⟩
   case round =>
    clear H'
    try clear c2
    try clear c2b0
    try clear c2b1
    try clear p2
    try clear c3
    try clear c3b0
    try clear c3b1
    try clear c4
    obtain ⟨x3_1,x4_1,rfl,HA,HK1,HO_3,HB⟩:=hrel
    cases gk with
    | zero => exact absurd HA.out (by simp [laws_toCableS.l0])
    | succ k1 =>
     have H:=HA.out
     clear HA
     simp only [laws_toCableS.l0] at H
     by_cases c6 : x4_1 < (l0.length : Int)
     ·rw [if_pos c6] at H
      have c6b0 : decide (x4_1 < (l0.length : Int)) = true:=decide_eq_true c6
      clear c6
      by_cases c7 : 0 ≤ x4_1
      ·rw [if_pos c7] at H
       have c7b0 : decide (0 ≤ x4_1) = true:=decide_eq_true c7
       clear c7
       replace H:=Option.bind_eq_some_iff.mp H
       obtain ⟨⟨t112,t113,t114⟩,A80,H⟩:=H
       replace H : (if x4_1 < (x3_1.length : Int) then (laws_toCableS.l0 k1 l0 (x3_1.set (x4_1 : Int).toNat (⟨t112,t113,t114⟩ : S51)) (wrap64 (x4_1 + 1))) else (none)) = some r:=H
       have A8:=mk_ A80
       clear A80
       by_cases c9 : x4_1 < (x3_1.length : Int)
       ·rw [if_pos c9] at H
        have c9b0 : decide (x4_1 < (x3_1.length : Int)) = true:=decide_eq_true c9
        clear c9
        obtain ⟨y115,hy115⟩ : ∃ y_ : List (S51),y_ = (x3_1.set (x4_1 : Int).toNat (⟨t112,t113,t114⟩ : S51)):=⟨_,rfl⟩
        replace H : (laws_toCableS.l0 k1 l0 y115 (wrap64 (x4_1 + 1))) = some r:=by first|(rw [hy115];with_reducible exact H)|(have H2_:=(Option.bind_some _ _).symm.trans H;rw [hy115];with_reducible exact H2_)|(have H2_:=(Option.bind_some _ _).symm.trans H;with_reducible exact H2_)|with_reducible exact H|(rw [hy115];exact H)|exact H
        have Ny115:=mk_ hy115
        clear hy115
        have H':=mk_ H
        clear H
        have p111 : 0 ≤ (x4_1 : Int):=od_ qa_
        have q111 : x4_1 < (l0.length : Int):=od_ qa_
        obtain ⟨ad111,e111,hx111_0,hx111_1,hx111_2⟩:=at_T79 HR0.out x4_1 p111 q111
        cases e111
        replace hx111_0:=(HB.out.cell (wl_ w _ hx111_0)).trans hx111_0
        replace hx111_1:=(HB.out.cell (wl_ w _ hx111_1)).trans hx111_1
        replace hx111_2:=(HB.out.cell (wl_ w _ hx111_2)).trans hx111_2
        replace p111:=eq_true p111
        replace q111:=eq_true q111
        go_wp2_with (first|((with_reducible refine gate_callee (f:=71) rfl ?_);refine goesL_ (some 20) rfl rfl Try.func71 (by kernel_rfl) rfl #[.agg #[.int .i64 ((rd_T79 l0 x4_1).f0),.int .i64 ((rd_T79 l0 x4_1).f1),.int .i64 ((rd_T79 l0 x4_1).f2)]] rfl qm_ ?_;(with_reducible refine (laws_toCable.calls ((rd_T79 l0 x4_1).f0) ((rd_T79 l0 x4_1).f1) ((rd_T79 l0 x4_1).f2) t112 t113 t114 _ A8.out).mono ?_);rintro e w11 ⟨rfl,hb⟩;refine ⟨_,rfl,?_⟩;have n0_:=mk_ (rb_ (qr_ HO_3) hb);have n1_:=mk_ (st_ (qb_ HB) hb);clear HO_3 HB;have HO_3:=n0_;have HB:=n1_;clear n0_ n1_;(try clear hb);(try clear hb2);(try clear hk);(try clear hi);have p10 : 0 ≤ (x4_1 : Int):=od_ qa_;have q10 : (x4_1 : Int) < ((x3_1.length : Int) : Int):=od_ qa_;obtain ⟨go10,co10,eo10,gb10,gl10,cl10,HG10⟩:=Kd.R_form HO_3.out (by omega);(first|cases eo10|(injection eo10 with ea_ en_ ec_;(first|subst ea_|(injection ea_ with ea_;subst ea_));subst ec_;clear en_));have GB10:=mk_ gb10;have GG10:=mk_ HG10;clear gb10 gl10 HG10;obtain ⟨ce10,hcl10,hM10,hcc10,hfr10⟩:=Kd.R_elem HO_3.out z51 (x4_1 : Int) p10 q10;obtain rfl:=k51_openM hM10;have hx10_0 : w11.cell? ⟨go10,(x4_1 : Int).toNat * 3,none⟩ = some (.int .i64 ((rd_T51 x3_1 x4_1).f0)):=hcc10 0 _ rfl;have hx10_1 : w11.cell? ⟨go10,(x4_1 : Int).toNat * 3 + 1,none⟩ = some (.int .i64 ((rd_T51 x3_1 x4_1).f1)):=hcc10 1 _ rfl;have hx10_2 : w11.cell? ⟨go10,(x4_1 : Int).toNat * 3 + 2,none⟩ = some (.int .i64 ((rd_T51 x3_1 x4_1).f2)):=hcc10 2 _ rfl;have hf10_0 : w11.frozen? ⟨go10,(x4_1 : Int).toNat * 3,none⟩ = false:=hfr10 0;have hf10_1 : w11.frozen? ⟨go10,(x4_1 : Int).toNat * 3 + 1,none⟩ = false:=hfr10 1;have hf10_2 : w11.frozen? ⟨go10,(x4_1 : Int).toNat * 3 + 2,none⟩ = false:=hfr10 2;clear hcl10 hcc10 hfr10 hM10;replace p10:=eq_true p10;replace q10:=eq_true q10;have HX12:=mk_ (show Kd.R k51 51 w11 w.heap.size (fun _ => True) (.slice (some ⟨go10,0,none⟩) x3_1.length co10) x3_1 from (qr_ HO_3));obtain ⟨ce12,hcl12,hM12,hcc12,hfr12⟩:=Kd.R_elem HX12.out z51 (x4_1 : Int) (od_ qa_) (by have h_ : (x4_1 : Int) < ((x3_1.length : Int) : Int):=od_ qa_;first|exact h_|(have e_:=(rr_ HO_3.out).1;omega)|simpa using h_);obtain rfl:=k51_openM hM12;have HP12:=Kd.R_seg HX12.out (x4_1 : Int) (od_ qa_) (by have h_ : (x4_1 : Int) < ((x3_1.length : Int) : Int):=od_ qa_;first|exact h_|(have e_:=(rr_ HO_3.out).1;omega)|simpa using h_) (seg:=[.int .i64 t112,.int .i64 t113,.int .i64 t114]) (j:=0) hcl12 hcc12 (show 3 ≤ 3 from by decide) (x':=(⟨t112,t113,t114⟩ : S51)) (k51_mkM _ _ _ (⟨t112,t113,t114⟩ : S51) ) (fun _ hk => hk);have hx12_0:=hcc12 0 _ rfl;(try simp only [show (k51).sz = 3 from rfl,Nat.mul_one,Nat.add_zero] at hx12_0);have hf12_0:=hfr12 0;(try simp only [show (k51).sz = 3 from rfl,Nat.mul_one,Nat.add_zero] at hf12_0);have hx12_1:=hcc12 1 _ rfl;(try simp only [show (k51).sz = 3 from rfl,Nat.mul_one,Nat.add_zero] at hx12_1);have hf12_1:=hfr12 1;(try simp only [show (k51).sz = 3 from rfl,Nat.mul_one,Nat.add_zero] at hf12_1);have hx12_2:=hcc12 2 _ rfl;(try simp only [show (k51).sz = 3 from rfl,Nat.mul_one,Nat.add_zero] at hx12_2);have hf12_2:=hfr12 2;(try simp only [show (k51).sz = 3 from rfl,Nat.mul_one,Nat.add_zero] at hf12_2);clear hcl12 hcc12 hfr12 hM12)|((with_reducible refine gate_store (t:=51) (p:=21) rfl ?_);refine store_event (t:=51) (p:=21) (v:=?vo_w13) (w1:=(((w11.setCell ⟨go10,(x4_1 : Int).toNat * 3,none⟩ (.int .i64 t112)).setCell ⟨go10,(x4_1 : Int).toNat * 3 + 1,none⟩ (.int .i64 t113)).setCell ⟨go10,(x4_1 : Int).toNat * 3 + 2,none⟩ (.int .i64 t114))) ?hg ?ho ?hn ?hr ?_;(case ho => rfl);(case hg => rfl);(case hn => rfl);(case hr => first|(go_simp;done)|(go_simp;rfl));intro w13 hw;have hg : w11.grownBy w13 (some go10):=(by rw [hw];exact HP12.2);have hp_ : Kd.R k51 51 w13 w.heap.size (fun _ => True) (.slice (some ⟨go10,0,none⟩) x3_1.length co10) y115:=(by rw [hw,Ny115.out];exact HP12.1);clear HP12;have n0_:=mk_ (hp_);have n1_:=mk_ ((by rw [hw];exact bs_ (bs_ (bs_ (HB.out) GB10.out) GB10.out) GB10.out : Below w.heap.size w w13));clear HO_3 HB;have HO_3:=n0_;have HB:=n1_;clear n0_ n1_ hg hw hp_))
        go_roundg k1
        case measure => have:=HK1.out;omega
        case rel => exact ⟨(y115),(wrap64 (x4_1 + 1)),qf_,H',⟨by have:=HK1.out;omega⟩,⟨qr_ HO_3⟩,⟨u2_ HB⟩⟩
       ·rw [if_neg c9] at H
        exact absurd H (by simp)
      ·rw [if_neg c7] at H
       exact absurd H (by simp)
     ·rw [if_neg c6] at H
      have c6b0 : decide (x4_1 < (l0.length : Int)) = false:=decide_eq_false c6
      clear c6
      obtain rfl:=Option.some.inj H
      go_wp2
      go_ret
      exact ⟨_,qe_,qr_ HO_3,u2_ HB⟩
  ·rw [if_neg c3] at H
   exact absurd H (by simp)
 ·rw [if_neg c2] at H
  exact absurd H (by simp)

/-! ### laws_toIntS: function 44 -/
def laws_toIntS.l0 : Nat → List Int → List Int → Int → Option (List Int)
 | 0,_,_,_ => none
 | k + 1,x0,x3,x4 => if x4 < (x0.length : Int) then (if 0 ≤ x4 then (if x4 < (x3.length : Int) then (laws_toIntS.l0 k x0 (x3.set (x4 : Int).toNat (rd x0 x4)) (wrap64 (x4 + 1))) else (none)) else (none)) else (some x3)
def laws_toIntS.f (k : Nat) (l0 : List Int) : Option (List Int):=if 0 ≤ (l0.length : Int) then (if ((l0.length : Int) : Int).toNat ≤ 35184372088832 then (laws_toIntS.l0 k l0 (List.replicate ((l0.length : Int) : Int).toNat 0) 0) else (none)) else (none)
theorem laws_toIntS.mono_l : ∀ k,(∀ y0 y1 y2,LeO (laws_toIntS.l0 k y0 y1 y2) (laws_toIntS.l0 (k + 1) y0 y1 y2))
 | 0 => fun _ _ _ r h => by simp [laws_toIntS.l0] at h
 | k + 1 => by
  have ih0:=laws_toIntS.mono_l k
  ·intro y0 y1 y2
   unfold laws_toIntS.l0
   repeat' first
   | (with_reducible exact ih0 _ _ _)
   | (with_reducible exact LeO.refl _)
   | (with_reducible exact LeO.none _)
   | (with_reducible refine LeO.ite ?_ ?_)
   | (with_reducible refine LeO.bind ?_ (fun _ => ?_))
   | exact ih0 _ _ _
   | exact LeO.none _
   | refine LeO.ite ?_ ?_
   | refine LeO.bind ?_ (fun _ => ?_)
theorem laws_toIntS.mono : ∀ a0 k,LeO (laws_toIntS.f k a0) (laws_toIntS.f (k + 1) a0):=by
 intro a0 k
 have ih0:=laws_toIntS.mono_l k
 unfold laws_toIntS.f
 repeat' first
   | (with_reducible exact ih0 _ _ _)
   | (with_reducible exact LeO.refl _)
   | (with_reducible exact LeO.none _)
   | (with_reducible refine LeO.ite ?_ ?_)
   | (with_reducible refine LeO.bind ?_ (fun _ => ?_))
   | exact ih0 _ _ _
   | exact LeO.none _
   | refine LeO.ite ?_ ?_
   | refine LeO.bind ?_ (fun _ => ?_)
set_option maxHeartbeats 8000000 in
set_option maxRecDepth 100000 in
theorem laws_toIntS.calls (k : Nat) (A0 : Option Addr) (c0 : Nat) (l0 : List Int) (r : List Int) (w : World) (hr0 : Kd.C (Kd.int .i64) w A0 l0.length l0) (hc0 : l0.length ≤ c0) (h : laws_toIntS.f k l0 = some r) :
  Calls Try.prog 44 #[.slice A0 l0.length c0] w fun e w' => ∃ v0_ : Value,e = .returned (v0_) ∧ Kd.R (Kd.int .i64) 3 w' w.heap.size (fun _ => True) v0_ r ∧ Below w.heap.size w w':=by
 have HR0:=mk_ hr0
 have HC0:=mk_ hc0
 clear hr0 hc0
 have HB:=mk_ (Below.refl w.heap.size w)
 have H : (if 0 ≤ (l0.length : Int) then (if ((l0.length : Int) : Int).toNat ≤ 35184372088832 then (laws_toIntS.l0 k l0 (List.replicate ((l0.length : Int) : Int).toNat 0) 0) else (none)) else (none)) = some r:=h
 clear h
 by_cases c2 : 0 ≤ (l0.length : Int)
 ·rw [if_pos c2] at H
  have c2b0:=eq_true c2
  have c2b1 : decide (0 ≤ (l0.length : Int)) = true:=decide_eq_true c2
  clear c2
  by_cases c3 : ((l0.length : Int) : Int).toNat ≤ 35184372088832
  ·rw [if_pos c3] at H
   have c3b0:=eq_true c3
   have c3b1 : decide (((l0.length : Int) : Int).toNat ≤ 35184372088832) = true:=decide_eq_true c3
   clear c3
   obtain ⟨y116,hy116⟩ : ∃ y_ : List Int,y_ = (List.replicate ((l0.length : Int) : Int).toNat 0):=⟨_,rfl⟩
   replace H : (laws_toIntS.l0 k l0 y116 0) = some r:=by first|(rw [hy116];with_reducible exact H)|(have H2_:=(Option.bind_some _ _).symm.trans H;rw [hy116];with_reducible exact H2_)|(have H2_:=(Option.bind_some _ _).symm.trans H;with_reducible exact H2_)|with_reducible exact H|(rw [hy116];exact H)|exact H
   have Ny116:=mk_ hy116
   clear hy116
   have H':=mk_ H
   clear H
   go_enter Try.func44,Try.ntmps44
   go_wp2_with (first|((with_reducible refine gate_dst (N:=7) rfl ?_);refine Kd.R_make (Kd.int .i64) _ 3 rfl (N:=7) rfl 23 _ _ rfl (l0.length : Int) rfl rfl Try.underlying23 (.int .i64 0) 8 info3 rfl (by decide) (by omega) 0 (ok:=fun _ => True) (okp:=fun _ => True) rfl (fun _ hk => hk) trivial (od_ qa_) (Nat.le_trans (Nat.mul_le_mul_right _ (od_ qa_ : (l0.length : Int).toNat ≤ 35184372088832)) (by omega)) (Below.refl _ _) (Nat.le_refl _) ?_;intro v117 w4 ho5 hb hg_ hnew_;clear hg_ hnew_;(first|rw [← Ny116.out] at ho5|(simp only [Int.reduceToNat] at ho5;rw [← Ny116.out] at ho5));have n0_:=mk_ (Kd.R_lower ho5 (bz_ (qb_ HB)));have n1_:=mk_ (st_ (qb_ HB) hb);clear HB;have HO118:=n0_;have HB:=n1_;clear n0_ n1_ hb ho5))
   go_loopg [4] k (fun kq v4 w' => ∃ (x3_1 : List Int) (x4_1 : Int),v4 = .int .i64 x4_1 ∧ Aside0 (laws_toIntS.l0 kq l0 x3_1 x4_1 = some r) ∧ Aside0 (kq ≤ k) ∧ Aside0 (Kd.R (Kd.int .i64) 3 w' w.heap.size (fun _ => True) v117 x3_1) ∧ Aside0 (Below w.heap.size w w'))
   case atStart => exact ⟨(y116),(0),qf_,H',⟨Nat.le_refl _⟩,⟨qr_ HO118⟩,⟨u2_ HB⟩⟩
   case round =>
    clear H'
    try clear c2
    try clear c2b0
    try clear c2b1
    try clear p2
    try clear c3
    try clear c3b0
    try clear c3b1
    try clear c4
    obtain ⟨x3_1,x4_1,rfl,HA,HK1,HO_3,HB⟩:=hrel
    cases gk with
    | zero => exact absurd HA.out (by simp [laws_toIntS.l0])
    | succ k1 =>
     have H:=HA.out
     clear HA
     simp only [laws_toIntS.l0] at H
     by_cases c6 : x4_1 < (l0.length : Int)
     ·rw [if_pos c6] at H
      have c6b0 : decide (x4_1 < (l0.length : Int)) = true:=decide_eq_true c6
      clear c6
      by_cases c7 : 0 ≤ x4_1
      ·rw [if_pos c7] at H
       have c7b0 : decide (0 ≤ x4_1) = true:=decide_eq_true c7
       clear c7
       by_cases c8 : x4_1 < (x3_1.length : Int)
       ·rw [if_pos c8] at H
        have c8b0 : decide (x4_1 < (x3_1.length : Int)) = true:=decide_eq_true c8
        clear c8
        obtain ⟨y120,hy120⟩ : ∃ y_ : List Int,y_ = (x3_1.set (x4_1 : Int).toNat (rd l0 x4_1)):=⟨_,rfl⟩
        replace H : (laws_toIntS.l0 k1 l0 y120 (wrap64 (x4_1 + 1))) = some r:=by first|(rw [hy120];with_reducible exact H)|(have H2_:=(Option.bind_some _ _).symm.trans H;rw [hy120];with_reducible exact H2_)|(have H2_:=(Option.bind_some _ _).symm.trans H;with_reducible exact H2_)|with_reducible exact H|(rw [hy120];exact H)|exact H
        have Ny120:=mk_ hy120
        clear hy120
        have H':=mk_ H
        clear H
        have p119 : 0 ≤ (x4_1 : Int):=od_ qa_
        have q119 : x4_1 < (l0.length : Int):=od_ qa_
        obtain ⟨ad119,e119,hx119_0⟩:=Kd.at_int HR0.out x4_1 p119 q119
        cases e119
        replace hx119_0:=(HB.out.cell (wl_ w _ hx119_0)).trans hx119_0
        replace p119:=eq_true p119
        replace q119:=eq_true q119
        have p9 : 0 ≤ (x4_1 : Int):=od_ qa_
        have q9 : (x4_1 : Int) < ((x3_1.length : Int) : Int):=od_ qa_
        obtain ⟨go9,co9,eo9,gb9,gl9,cl9,HG9⟩:=Kd.R_form HO_3.out (by omega)
        (first|cases eo9|(injection eo9 with ea_ en_ ec_;(first|subst ea_|(injection ea_ with ea_;subst ea_));subst ec_;clear en_))
        have GB9:=mk_ gb9
        have GG9:=mk_ HG9
        clear gb9 gl9 HG9
        obtain ⟨hx9_0,hf9_0⟩:=Kd.R_celln 0 HO_3.out (x4_1 : Int) p9 q9
        replace p9:=eq_true p9
        replace q9:=eq_true q9
        have HP10:=Kd.R_putg HO_3.out (x4_1 : Int) (rd l0 x4_1)
        go_wp2_with (first|((with_reducible refine gate_store (t:=3) (p:=20) rfl ?_);refine store_event (t:=3) (p:=20) (v:=?vo_w11) (w1:=(wr.setCell ⟨go9,(x4_1 : Int).toNat,none⟩ (.int .i64 (rd l0 x4_1)))) ?hg ?ho ?hn ?hr ?_;(case ho => rfl);(case hg => rfl);(case hn => rfl);(case hr => first|(go_simp;done)|(go_simp;rfl));intro w11 hw;have hg : wr.grownBy w11 (some go9):=(by rw [hw];exact HP10.2);have hp_ : Kd.R (Kd.int .i64) 3 w11 w.heap.size (fun _ => True) (.slice (some ⟨go9,0,none⟩) x3_1.length co9) y120:=(by rw [hw,Ny120.out];exact HP10.1);clear HP10;have n0_:=mk_ (hp_);have n1_:=mk_ ((by rw [hw];exact bs_ (HB.out) GB9.out : Below w.heap.size w w11));clear HO_3 HB;have HO_3:=n0_;have HB:=n1_;clear n0_ n1_ hg hw hp_))
        go_roundg k1
        case measure => have:=HK1.out;omega
        case rel => exact ⟨(y120),(wrap64 (x4_1 + 1)),qf_,H',⟨by have:=HK1.out;omega⟩,⟨qr_ HO_3⟩,⟨u2_ HB⟩⟩
       ·rw [if_neg c8] at H
        exact absurd H (by simp)
      ·rw [if_neg c7] at H
       exact absurd H (by simp)
     ·rw [if_neg c6] at H
      have c6b0 : decide (x4_1 < (l0.length : Int)) = false:=decide_eq_false c6
      clear c6
      obtain rfl:=Option.some.inj H
      go_wp2
      go_ret
      exact ⟨_,qe_,qr_ HO_3,u2_ HB⟩
  ·rw [if_neg c3] at H
   exact absurd H (by simp)
 ·rw [if_neg c2] at H
  exact absurd H (by simp)

/-! ### laws_toNet: function 14 -/
def laws_toNet.f (k : Nat) (a0_0 : Int) (l0_1 : List (S79)) (l0_2 : List Int) (l0_3 : List Int) : Option (Int × (List (S51)) × List Int × List Int):=(laws_toCableS.f k l0_1).bind fun t124 => ((laws_toIntS.f k l0_2).bind fun t127 => ((laws_toIntS.f k l0_3).bind fun t130 => (some (a0_0,t124,t127,t130))))
theorem laws_toNet.mono : ∀ a0 a1 a2 a3 k,LeO (laws_toNet.f k a0 a1 a2 a3) (laws_toNet.f (k + 1) a0 a1 a2 a3):=by
 intro a0 a1 a2 a3 k
 unfold laws_toNet.f
 repeat' first
   | (with_reducible exact laws_toCableS.mono _ _)
   | (with_reducible exact laws_toIntS.mono _ _)
   | (with_reducible exact LeO.refl _)
   | (with_reducible exact LeO.none _)
   | (with_reducible refine LeO.ite ?_ ?_)
   | (with_reducible refine LeO.bind ?_ (fun _ => ?_))
   | exact laws_toCableS.mono _ _
   | exact laws_toIntS.mono _ _
   | exact LeO.none _
   | refine LeO.ite ?_ ?_
   | refine LeO.bind ?_ (fun _ => ?_)
set_option maxHeartbeats 8000000 in
set_option maxRecDepth 100000 in
theorem laws_toNet.calls (k : Nat) (a0_0 : Int) (A0_1 : Option Addr) (c0_1 : Nat) (l0_1 : List (S79)) (A0_2 : Option Addr) (c0_2 : Nat) (l0_2 : List Int) (A0_3 : Option Addr) (c0_3 : Nat) (l0_3 : List Int) (r1 : Int) (r2 : List (S51)) (r3 : List Int) (r4 : List Int) (w : World) (hr0_1 : Kd.C k79 w A0_1 l0_1.length l0_1) (hc0_1 : l0_1.length ≤ c0_1) (hr0_2 : Kd.C (Kd.int .i64) w A0_2 l0_2.length l0_2) (hc0_2 : l0_2.length ≤ c0_2) (hr0_3 : Kd.C (Kd.int .i64) w A0_3 l0_3.length l0_3) (hc0_3 : l0_3.length ≤ c0_3) (h : laws_toNet.f k a0_0 l0_1 l0_2 l0_3 = some (r1,r2,r3,r4)) :
  Calls Try.prog 14 #[.agg #[.int .i64 a0_0,.slice A0_1 l0_1.length c0_1,.slice A0_2 l0_2.length c0_2,.slice A0_3 l0_3.length c0_3]] w fun e w' => ∃ v1_ v2_ v3_ : Value,e = .returned (.agg #[.int .i64 r1,v1_,v2_,v3_]) ∧ Kd.R k51 51 w' w.heap.size (fun _ => True) v1_ r2 ∧ Kd.R (Kd.int .i64) 3 w' w.heap.size (fun k_ => some k_ ≠ (v3_ : Value).ownBlock) v2_ r3 ∧ Kd.R (Kd.int .i64) 3 w' w.heap.size (fun k_ => some k_ ≠ (v2_ : Value).ownBlock) v3_ r4 ∧ Below w.heap.size w w':=by
 have hu25:=Try.underlying25
 have hu30:=Try.underlying30
 have HR0_1:=mk_ hr0_1
 have HC0_1:=mk_ hc0_1
 clear hr0_1 hc0_1
 have HR0_2:=mk_ hr0_2
 have HC0_2:=mk_ hc0_2
 clear hr0_2 hc0_2
 have HR0_3:=mk_ hr0_3
 have HC0_3:=mk_ hc0_3
 clear hr0_3 hc0_3
 have HB:=mk_ (Below.refl w.heap.size w)
 have H : ((laws_toCableS.f k l0_1).bind fun t124 => ((laws_toIntS.f k l0_2).bind fun t127 => ((laws_toIntS.f k l0_3).bind fun t130 => (some (a0_0,t124,t127,t130))))) = some (r1,r2,r3,r4):=h
 clear h
 replace H:=Option.bind_eq_some_iff.mp H
 obtain ⟨t124,A20,H⟩:=H
 replace H : ((laws_toIntS.f k l0_2).bind fun t127 => ((laws_toIntS.f k l0_3).bind fun t130 => (some (a0_0,t124,t127,t130)))) = some (r1,r2,r3,r4):=H
 have A2:=mk_ A20
 clear A20
 replace H:=Option.bind_eq_some_iff.mp H
 obtain ⟨t127,A30,H⟩:=H
 replace H : ((laws_toIntS.f k l0_3).bind fun t130 => (some (a0_0,t124,t127,t130))) = some (r1,r2,r3,r4):=H
 have A3:=mk_ A30
 clear A30
 replace H:=Option.bind_eq_some_iff.mp H
 obtain ⟨t130,A40,H⟩:=H
 replace H : (some (a0_0,t124,t127,t130)) = some (r1,r2,r3,r4):=H
 have A4:=mk_ A40
 clear A40
 simp only [Option.some.injEq,Prod.mk.injEq] at H
 obtain ⟨rfl,rfl,rfl,rfl⟩:=H
 go_enter Try.func14,Try.ntmps14
 go_wp2_with (first|((with_reducible refine gate_dst (N:=1) rfl ?_);refine box_event ?hg (N:=1) ?hd (cs:=#[.int .i64 a0_0,.slice A0_1 l0_1.length c0_1,.slice A0_2 l0_2.length c0_2,.slice A0_3 l0_3.length c0_3]) (t:=25) ?hr ?_;(case hd => rfl);(case hg => rfl);(case hr => first|(go_simp;done)|(go_simp;rfl));intro gb121 hg w5 hbox hb;have n0_:=mk_ (st_ (qb_ HB) hb);have n1_:=mk_ (hbox);have n2_:=mk_ ((by rw [hg];exact (bz_ (qb_ HB)) : w.heap.size ≤ gb121));have n3_:=mk_ ((by rw [hg];exact (bz_ (qb_ HB)) : w.heap.size ≤ gb121));clear HB;have HB:=n0_;have BK121:=n1_;have GW121:=n2_;have GE121:=n3_;clear n0_ n1_ n2_ n3_ hb hbox hg)|((with_reducible refine gate_dst (N:=2) rfl ?_);refine box_event ?hg (N:=2) ?hd (cs:=#[.int .i64 0,.slice none 0 0,.slice none 0 0,.slice none 0 0]) (t:=30) ?hr ?_;(case hd => rfl);(case hg => rfl);(case hr => first|(go_simp;done)|(go_simp;rfl));intro gb122 hg w6 hbox hb;have n0_:=mk_ (blk_below (g:=gb121) (o:=.cells #[.int .i64 a0_0,.slice A0_1 l0_1.length c0_1,.slice A0_2 l0_2.length c0_2,.slice A0_3 l0_3.length c0_3] 25 (0,0)) (qk_ BK121) hb);have n1_:=mk_ (st_ (qc_ HB GE121) hb);have n2_:=mk_ (hbox);have n3_:=mk_ ((by rw [hg];exact (bz_ (qc_ HB GE121)) : w.heap.size ≤ gb122));have n4_:=mk_ ((by rw [hg];exact (bz_ (qc_ HB GE121)) : w.heap.size ≤ gb122));have n5_:=mk_ ((by rw [hg];exact Nat.ne_of_lt (blk_lt (g:=gb121) (o:=.cells #[.int .i64 a0_0,.slice A0_1 l0_1.length c0_1,.slice A0_2 l0_2.length c0_2,.slice A0_3 l0_3.length c0_3] 25 (0,0)) (qk_ BK121)) : gb121 ≠ gb122));have n6_:=mk_ ((by rw [hg];exact Nat.ne_of_gt (blk_lt (g:=gb121) (o:=.cells #[.int .i64 a0_0,.slice A0_1 l0_1.length c0_1,.slice A0_2 l0_2.length c0_2,.slice A0_3 l0_3.length c0_3] 25 (0,0)) (qk_ BK121)) : gb122 ≠ gb121));clear BK121 HB;have BK121:=n0_;have HB:=n1_;have BK122:=n2_;have GW122:=n3_;have GE122:=n4_;have NB121_122:=n5_;have NB122_121:=n6_;clear n0_ n1_ n2_ n3_ n4_ n5_ n6_ hb hbox hg)|((with_reducible refine gate_dst (N:=3) rfl ?_);refine box_event ?hg (N:=3) ?hd (cs:=#[.int .i64 0,.slice none 0 0,.slice none 0 0,.slice none 0 0]) (t:=30) ?hr ?_;(case hd => rfl);(case hg => rfl);(case hr => first|(go_simp;done)|(go_simp;rfl));intro gb123 hg w7 hbox hb;have n0_:=mk_ (blk_below (g:=gb121) (o:=.cells #[.int .i64 a0_0,.slice A0_1 l0_1.length c0_1,.slice A0_2 l0_2.length c0_2,.slice A0_3 l0_3.length c0_3] 25 (0,0)) (qk_ BK121) hb);have n1_:=mk_ (blk_below (g:=gb122) (o:=.cells #[.int .i64 0,.slice none 0 0,.slice none 0 0,.slice none 0 0] 30 (0,0)) (qk_ BK122) hb);have n2_:=mk_ (st_ (qd_ HB GE121 GE122) hb);have n3_:=mk_ (hbox);have n4_:=mk_ ((by rw [hg];exact (bz_ (qd_ HB GE121 GE122)) : w.heap.size ≤ gb123));have n5_:=mk_ ((by rw [hg];exact (bz_ (qd_ HB GE121 GE122)) : w.heap.size ≤ gb123));have n6_:=mk_ ((by rw [hg];exact Nat.ne_of_lt (blk_lt (g:=gb121) (o:=.cells #[.int .i64 a0_0,.slice A0_1 l0_1.length c0_1,.slice A0_2 l0_2.length c0_2,.slice A0_3 l0_3.length c0_3] 25 (0,0)) (qk_ BK121)) : gb121 ≠ gb123));have n7_:=mk_ ((by rw [hg];exact Nat.ne_of_gt (blk_lt (g:=gb121) (o:=.cells #[.int .i64 a0_0,.slice A0_1 l0_1.length c0_1,.slice A0_2 l0_2.length c0_2,.slice A0_3 l0_3.length c0_3] 25 (0,0)) (qk_ BK121)) : gb123 ≠ gb121));have n8_:=mk_ ((by rw [hg];exact Nat.ne_of_lt (blk_lt (g:=gb122) (o:=.cells #[.int .i64 0,.slice none 0 0,.slice none 0 0,.slice none 0 0] 30 (0,0)) (qk_ BK122)) : gb122 ≠ gb123));have n9_:=mk_ ((by rw [hg];exact Nat.ne_of_gt (blk_lt (g:=gb122) (o:=.cells #[.int .i64 0,.slice none 0 0,.slice none 0 0,.slice none 0 0] 30 (0,0)) (qk_ BK122)) : gb123 ≠ gb122));clear BK121 BK122 HB;have BK121:=n0_;have BK122:=n1_;have HB:=n2_;have BK123:=n3_;have GW123:=n4_;have GE123:=n5_;have NB121_123:=n6_;have NB123_121:=n7_;have NB122_123:=n8_;have NB123_122:=n9_;clear n0_ n1_ n2_ n3_ n4_ n5_ n6_ n7_ n8_ n9_ hb hbox hg;have hnb8:=NB121_122.out;have hnc8:=NB122_121.out;have hnb9:=NB121_123.out;have hnc9:=NB123_121.out;have hcz10_0 : w7.cell? ⟨gb121,0,none⟩ = some (.int .i64 a0_0):=(bc_ BK121.out 0).trans rfl;have hcz10_1 : w7.cell? ⟨gb121,1,none⟩ = some (.slice A0_1 l0_1.length c0_1):=(bc_ BK121.out 1).trans rfl;have hcz10_2 : w7.cell? ⟨gb121,2,none⟩ = some (.slice A0_2 l0_2.length c0_2):=(bc_ BK121.out 2).trans rfl;have hcz10_3 : w7.cell? ⟨gb121,3,none⟩ = some (.slice A0_3 l0_3.length c0_3):=(bc_ BK121.out 3).trans rfl;have hfz10_0:=bf_ BK121.out 0;have hfz10_1:=bf_ BK121.out 1;have hfz10_2:=bf_ BK121.out 2;have hfz10_3:=bf_ BK121.out 3;have hnb11:=NB123_122.out;have hnc11:=NB122_123.out;have hcz12_0 : w7.cell? ⟨gb123,0,none⟩ = some (.int .i64 0):=(bc_ BK123.out 0).trans rfl;have hcz12_1 : w7.cell? ⟨gb123,1,none⟩ = some (.slice none 0 0):=(bc_ BK123.out 1).trans rfl;have hcz12_2 : w7.cell? ⟨gb123,2,none⟩ = some (.slice none 0 0):=(bc_ BK123.out 2).trans rfl;have hcz12_3 : w7.cell? ⟨gb123,3,none⟩ = some (.slice none 0 0):=(bc_ BK123.out 3).trans rfl;have hfz12_0:=bf_ BK123.out 0;have hfz12_1:=bf_ BK123.out 1;have hfz12_2:=bf_ BK123.out 2;have hfz12_3:=bf_ BK123.out 3)|((with_reducible refine gate_callee (f:=43) rfl ?_);refine goesL_ (some 9) rfl rfl Try.func43 (by kernel_rfl) rfl #[.slice A0_1 l0_1.length c0_1] rfl qm_ ?_;(with_reducible refine (laws_toCableS.calls k _ _ l0_1 t124 _ ?side1 ?side2 A2.out).mono ?_);(case side1 => exact cb_ HR0_1.out (u1_ HB GE121 GE122 GE123));(case side2 => exact HC0_1.out);rintro e w13 ⟨v125,rfl,ho0,hb⟩;refine ⟨_,rfl,?_⟩;have n0_:=mk_ (Kd.R_lower ho0 (bz_ (u1_ HB GE121 GE122 GE123)));have n1_:=mk_ (blk_below (g:=gb121) (o:=.cells #[.int .i64 a0_0,.slice A0_1 l0_1.length c0_1,.slice A0_2 l0_2.length c0_2,.slice A0_3 l0_3.length c0_3] 25 (0,0)) (by (with_reducible repeat (first|apply kn_|apply kd_|apply ka_));refine blk_far ?_ NB121_123.out _;(with_reducible repeat (first|apply kn_|apply kd_|apply ka_));exact BK121.out) hb);have n2_:=mk_ (blk_below (g:=gb122) (o:=.cells #[.int .i64 0,.slice none 0 0,.slice none 0 0,.slice none 0 0] 30 (0,0)) (by (with_reducible repeat (first|apply kn_|apply kd_|apply ka_));refine blk_far ?_ NB122_123.out _;(with_reducible repeat (first|apply kn_|apply kd_|apply ka_));exact BK122.out) hb);have n3_:=mk_ (blk_below (g:=gb123) (o:=.cells #[.int .i64 a0_0,.slice none 0 0,.slice none 0 0,.slice none 0 0] 30 (0,0)) (by (with_reducible repeat (first|apply kn_|apply kd_|apply ka_));refine blk_put (cs:=#[.int .i64 0,.slice none 0 0,.slice none 0 0,.slice none 0 0]) ?_ 0 _ rfl;(with_reducible repeat (first|apply kn_|apply kd_|apply ka_));exact BK123.out) hb);have n4_:=mk_ (st_ (u1_ HB GE121 GE122 GE123) hb);clear BK121 BK122 BK123 HB;have HO126:=n0_;have BK121:=n1_;have BK122:=n2_;have BK123:=n3_;have HB:=n4_;clear n0_ n1_ n2_ n3_ n4_;(try clear hb);(try clear hb2);(try clear hk);(try clear hi);(try clear ho0);obtain ⟨Ao14,co14,eo14⟩:=Kd.R_slice HO126.out;subst eo14;have hcz15_0 : w13.cell? ⟨gb123,0,none⟩ = some (.int .i64 a0_0):=(bc_ BK123.out 0).trans rfl;have hcz15_1 : w13.cell? ⟨gb123,1,none⟩ = some (.slice none 0 0):=(bc_ BK123.out 1).trans rfl;have hcz15_2 : w13.cell? ⟨gb123,2,none⟩ = some (.slice none 0 0):=(bc_ BK123.out 2).trans rfl;have hcz15_3 : w13.cell? ⟨gb123,3,none⟩ = some (.slice none 0 0):=(bc_ BK123.out 3).trans rfl;have hfz15_0:=bf_ BK123.out 0;have hfz15_1:=bf_ BK123.out 1;have hfz15_2:=bf_ BK123.out 2;have hfz15_3:=bf_ BK123.out 3;have hcz16_0 : w13.cell? ⟨gb121,0,none⟩ = some (.int .i64 a0_0):=(bc_ BK121.out 0).trans rfl;have hcz16_1 : w13.cell? ⟨gb121,1,none⟩ = some (.slice A0_1 l0_1.length c0_1):=(bc_ BK121.out 1).trans rfl;have hcz16_2 : w13.cell? ⟨gb121,2,none⟩ = some (.slice A0_2 l0_2.length c0_2):=(bc_ BK121.out 2).trans rfl;have hcz16_3 : w13.cell? ⟨gb121,3,none⟩ = some (.slice A0_3 l0_3.length c0_3):=(bc_ BK121.out 3).trans rfl;have hfz16_0:=bf_ BK121.out 0;have hfz16_1:=bf_ BK121.out 1;have hfz16_2:=bf_ BK121.out 2;have hfz16_3:=bf_ BK121.out 3)|((with_reducible refine gate_callee (f:=44) rfl ?_);refine goesL_ (some 13) rfl rfl Try.func44 (by kernel_rfl) rfl #[.slice A0_2 l0_2.length c0_2] rfl qm_ ?_;(with_reducible refine (laws_toIntS.calls k _ _ l0_2 t127 _ ?side1 ?side2 A3.out).mono ?_);(case side1 => exact cb_ HR0_2.out (u1_ HB GE121 GE122 GE123));(case side2 => exact HC0_2.out);rintro e w17 ⟨v128,rfl,ho0,hb⟩;refine ⟨_,rfl,?_⟩;have n0_:=mk_ (rb_ (by (with_reducible repeat (first|apply ra_|apply rn_|apply rd_));exact (rm_ (rf_ (p:=⟨gb123,1,none⟩) (rt_ HO126.out BK123.out (by decide)) (λ_ h=>h.2) (.slice Ao14 t124.length co14)) (λ_ h=>h.1))) hb);have n1_:=mk_ (Kd.R_lower ho0 (bz_ (u1_ HB GE121 GE122 GE123)));have n2_:=mk_ (blk_below (g:=gb121) (o:=.cells #[.int .i64 a0_0,.slice A0_1 l0_1.length c0_1,.slice A0_2 l0_2.length c0_2,.slice A0_3 l0_3.length c0_3] 25 (0,0)) (by (with_reducible repeat (first|apply kn_|apply kd_|apply ka_));refine blk_far ?_ NB121_123.out _;(with_reducible repeat (first|apply kn_|apply kd_|apply ka_));exact BK121.out) hb);have n3_:=mk_ (blk_below (g:=gb122) (o:=.cells #[.int .i64 0,.slice none 0 0,.slice none 0 0,.slice none 0 0] 30 (0,0)) (by (with_reducible repeat (first|apply kn_|apply kd_|apply ka_));refine blk_far ?_ NB122_123.out _;(with_reducible repeat (first|apply kn_|apply kd_|apply ka_));exact BK122.out) hb);have n4_:=mk_ (blk_below (g:=gb123) (o:=.cells #[.int .i64 a0_0,.slice Ao14 t124.length co14,.slice none 0 0,.slice none 0 0] 30 (0,0)) (by (with_reducible repeat (first|apply kn_|apply kd_|apply ka_));refine blk_put (cs:=#[.int .i64 a0_0,.slice none 0 0,.slice none 0 0,.slice none 0 0]) ?_ 1 _ rfl;(with_reducible repeat (first|apply kn_|apply kd_|apply ka_));exact BK123.out) hb);have n5_:=mk_ (st_ (u1_ HB GE121 GE122 GE123) hb);clear HO126 BK121 BK122 BK123 HB;have HO126:=n0_;have HO129:=n1_;have BK121:=n2_;have BK122:=n3_;have BK123:=n4_;have HB:=n5_;clear n0_ n1_ n2_ n3_ n4_ n5_;(try clear hb);(try clear hb2);(try clear hk);(try clear hi);(try clear ho0);obtain ⟨Ao18,co18,eo18⟩:=Kd.R_slice HO129.out;subst eo18;have hcz19_0 : w17.cell? ⟨gb123,0,none⟩ = some (.int .i64 a0_0):=(bc_ BK123.out 0).trans rfl;have hcz19_1 : w17.cell? ⟨gb123,1,none⟩ = some (.slice Ao14 t124.length co14):=(bc_ BK123.out 1).trans rfl;have hcz19_2 : w17.cell? ⟨gb123,2,none⟩ = some (.slice none 0 0):=(bc_ BK123.out 2).trans rfl;have hcz19_3 : w17.cell? ⟨gb123,3,none⟩ = some (.slice none 0 0):=(bc_ BK123.out 3).trans rfl;have hfz19_0:=bf_ BK123.out 0;have hfz19_1:=bf_ BK123.out 1;have hfz19_2:=bf_ BK123.out 2;have hfz19_3:=bf_ BK123.out 3;have hcz20_0 : w17.cell? ⟨gb121,0,none⟩ = some (.int .i64 a0_0):=(bc_ BK121.out 0).trans rfl;have hcz20_1 : w17.cell? ⟨gb121,1,none⟩ = some (.slice A0_1 l0_1.length c0_1):=(bc_ BK121.out 1).trans rfl;have hcz20_2 : w17.cell? ⟨gb121,2,none⟩ = some (.slice A0_2 l0_2.length c0_2):=(bc_ BK121.out 2).trans rfl;have hcz20_3 : w17.cell? ⟨gb121,3,none⟩ = some (.slice A0_3 l0_3.length c0_3):=(bc_ BK121.out 3).trans rfl;have hfz20_0:=bf_ BK121.out 0;have hfz20_1:=bf_ BK121.out 1;have hfz20_2:=bf_ BK121.out 2;have hfz20_3:=bf_ BK121.out 3)|((with_reducible refine gate_callee (f:=44) rfl ?_);refine goesL_ (some 17) rfl rfl Try.func44 (by kernel_rfl) rfl #[.slice A0_3 l0_3.length c0_3] rfl qm_ ?_;(with_reducible refine (laws_toIntS.calls k _ _ l0_3 t130 _ ?side1 ?side2 A4.out).mono ?_);(case side1 => exact cb_ HR0_3.out (u1_ HB GE121 GE122 GE123));(case side2 => exact HC0_3.out);rintro e w21 ⟨v131,rfl,ho0,hb⟩;refine ⟨_,rfl,?_⟩;have n0_:=mk_ (rb_ (by (with_reducible repeat (first|apply ra_|apply rn_|apply rd_));exact (rm_ (rf_ (p:=⟨gb123,2,none⟩) (rt_ HO126.out BK123.out (by decide)) (λ_ h=>h.2) (.slice Ao18 t127.length co18)) (λ_ h=>h.1))) hb);have n1_:=mk_ (re_ (by (with_reducible repeat (first|apply ra_|apply rn_|apply rd_));exact (rm_ (rf_ (p:=⟨gb123,2,none⟩) (rt_ HO129.out BK123.out (by decide)) (λ_ h=>h.2) (.slice Ao18 t127.length co18)) (λ_ h=>h.1))) (Kd.R_base ho0) hb);have n2_:=mk_ (Kd.R_lower (Kd.R_new' ho0 (Kd.R_lt (by (with_reducible repeat (first|apply ra_|apply rn_|apply rd_));exact (rm_ (rf_ (p:=⟨gb123,2,none⟩) (rt_ HO129.out BK123.out (by decide)) (λ_ h=>h.2) (.slice Ao18 t127.length co18)) (λ_ h=>h.1))))) (bz_ (u1_ HB GE121 GE122 GE123)));have n3_:=mk_ (blk_below (g:=gb121) (o:=.cells #[.int .i64 a0_0,.slice A0_1 l0_1.length c0_1,.slice A0_2 l0_2.length c0_2,.slice A0_3 l0_3.length c0_3] 25 (0,0)) (by (with_reducible repeat (first|apply kn_|apply kd_|apply ka_));refine blk_far ?_ NB121_123.out _;(with_reducible repeat (first|apply kn_|apply kd_|apply ka_));exact BK121.out) hb);have n4_:=mk_ (blk_below (g:=gb122) (o:=.cells #[.int .i64 0,.slice none 0 0,.slice none 0 0,.slice none 0 0] 30 (0,0)) (by (with_reducible repeat (first|apply kn_|apply kd_|apply ka_));refine blk_far ?_ NB122_123.out _;(with_reducible repeat (first|apply kn_|apply kd_|apply ka_));exact BK122.out) hb);have n5_:=mk_ (blk_below (g:=gb123) (o:=.cells #[.int .i64 a0_0,.slice Ao14 t124.length co14,.slice Ao18 t127.length co18,.slice none 0 0] 30 (0,0)) (by (with_reducible repeat (first|apply kn_|apply kd_|apply ka_));refine blk_put (cs:=#[.int .i64 a0_0,.slice Ao14 t124.length co14,.slice none 0 0,.slice none 0 0]) ?_ 2 _ rfl;(with_reducible repeat (first|apply kn_|apply kd_|apply ka_));exact BK123.out) hb);have n6_:=mk_ (st_ (u1_ HB GE121 GE122 GE123) hb);clear HO126 HO129 BK121 BK122 BK123 HB;have HO126:=n0_;have HO129:=n1_;have HO132:=n2_;have BK121:=n3_;have BK122:=n4_;have BK123:=n5_;have HB:=n6_;clear n0_ n1_ n2_ n3_ n4_ n5_ n6_;(try clear hb);(try clear hb2);(try clear hk);(try clear hi);(try clear ho0);obtain ⟨Ao22,co22,eo22⟩:=Kd.R_slice HO132.out;subst eo22;have hcz23_0 : w21.cell? ⟨gb123,0,none⟩ = some (.int .i64 a0_0):=(bc_ BK123.out 0).trans rfl;have hcz23_1 : w21.cell? ⟨gb123,1,none⟩ = some (.slice Ao14 t124.length co14):=(bc_ BK123.out 1).trans rfl;have hcz23_2 : w21.cell? ⟨gb123,2,none⟩ = some (.slice Ao18 t127.length co18):=(bc_ BK123.out 2).trans rfl;have hcz23_3 : w21.cell? ⟨gb123,3,none⟩ = some (.slice none 0 0):=(bc_ BK123.out 3).trans rfl;have hfz23_0:=bf_ BK123.out 0;have hfz23_1:=bf_ BK123.out 1;have hfz23_2:=bf_ BK123.out 2;have hfz23_3:=bf_ BK123.out 3;have hcz24_0 : w21.cell? ⟨gb122,0,none⟩ = some (.int .i64 0):=(bc_ BK122.out 0).trans rfl;have hcz24_1 : w21.cell? ⟨gb122,1,none⟩ = some (.slice none 0 0):=(bc_ BK122.out 1).trans rfl;have hcz24_2 : w21.cell? ⟨gb122,2,none⟩ = some (.slice none 0 0):=(bc_ BK122.out 2).trans rfl;have hcz24_3 : w21.cell? ⟨gb122,3,none⟩ = some (.slice none 0 0):=(bc_ BK122.out 3).trans rfl;have hfz24_0:=bf_ BK122.out 0;have hfz24_1:=bf_ BK122.out 1;have hfz24_2:=bf_ BK122.out 2;have hfz24_3:=bf_ BK122.out 3))
 refine bodyPost_ret (results_cell_row rfl _ _ gb122 30 #[.int .i64 a0_0,.slice Ao14 t124.length co14,.slice Ao18 t127.length co18,.slice Ao22 t130.length co22] (0,0) _ rfl (by (with_reducible repeat (first|apply kn_|apply kd_|apply ka_));refine blk_put (cs:=#[.int .i64 a0_0,.slice Ao14 t124.length co14,.slice Ao18 t127.length co18,.slice none 0 0]) ?_ 3 _ rfl;(with_reducible repeat (first|apply kn_|apply kd_|apply ka_));refine blk_put (cs:=#[.int .i64 a0_0,.slice Ao14 t124.length co14,.slice none 0 0,.slice none 0 0]) ?_ 2 _ rfl;(with_reducible repeat (first|apply kn_|apply kd_|apply ka_));refine blk_put (cs:=#[.int .i64 a0_0,.slice none 0 0,.slice none 0 0,.slice none 0 0]) ?_ 1 _ rfl;(with_reducible repeat (first|apply kn_|apply kd_|apply ka_));refine blk_put (cs:=#[.int .i64 0,.slice none 0 0,.slice none 0 0,.slice none 0 0]) ?_ 0 _ rfl;(with_reducible repeat (first|apply kn_|apply kd_|apply ka_));refine blk_far ?_ NB122_123.out _;(with_reducible repeat (first|apply kn_|apply kd_|apply ka_));exact BK122.out) Try.underlying30 rfl (by kernel_rfl)) rfl ?_
 exact ⟨_,_,_,qe_,by (with_reducible repeat (first|apply ra_|apply rn_|apply rd_));exact rm_ (rf_ (p:=⟨gb122,3,none⟩) (rf_ (p:=⟨gb122,2,none⟩) (rf_ (p:=⟨gb122,1,none⟩) (rf_ (p:=⟨gb122,0,none⟩) (rf_ (p:=⟨gb123,3,none⟩) (rt_ (rt_ HO126.out BK123.out (by decide)) BK122.out (by decide)) (fun _ hk => hk.1.2) (.slice Ao22 t130.length co22)) (λ_ h=>h.2) (.int .i64 a0_0)) (λ_ h=>h.2) (.slice Ao14 t124.length co14)) (λ_ h=>h.2) (.slice Ao18 t127.length co18)) (λ_ h=>h.2) (.slice Ao22 t130.length co22)) (λ_ _=>trivial),by (with_reducible repeat (first|apply ra_|apply rn_|apply rd_));exact rm_ (rf_ (p:=⟨gb122,3,none⟩) (rf_ (p:=⟨gb122,2,none⟩) (rf_ (p:=⟨gb122,1,none⟩) (rf_ (p:=⟨gb122,0,none⟩) (rf_ (p:=⟨gb123,3,none⟩) (rt_ (rt_ HO129.out BK123.out (by decide)) BK122.out (by decide)) (fun _ hk => hk.1.2) (.slice Ao22 t130.length co22)) (λ_ h=>h.2) (.int .i64 a0_0)) (λ_ h=>h.2) (.slice Ao14 t124.length co14)) (λ_ h=>h.2) (.slice Ao18 t127.length co18)) (λ_ h=>h.2) (.slice Ao22 t130.length co22)) (fun _ hk => hk.1.1.2),by (with_reducible repeat (first|apply ra_|apply rn_|apply rd_));exact rm_ (rf_ (p:=⟨gb122,3,none⟩) (rf_ (p:=⟨gb122,2,none⟩) (rf_ (p:=⟨gb122,1,none⟩) (rf_ (p:=⟨gb122,0,none⟩) (rf_ (p:=⟨gb123,3,none⟩) (rt_ (rt_ HO132.out BK123.out (by decide)) BK122.out (by decide)) (fun _ hk => hk.1.2) (.slice Ao22 t130.length co22)) (λ_ h=>h.2) (.int .i64 a0_0)) (λ_ h=>h.2) (.slice Ao14 t124.length co14)) (λ_ h=>h.2) (.slice Ao18 t127.length co18)) (λ_ h=>h.2) (.slice Ao22 t130.length co22)) (fun _ hk => hk.1.1.2),u1_ HB GE121 GE122 GE123⟩

/-! ### laws_eqIntS: function 22 -/
def laws_eqIntS.l0 : Nat → List Int → List Int → Int → Option (Bool)
 | 0,_,_,_ => none
 | k + 1,x0,x1,x5 => if x5 < (x0.length : Int) then (if 0 ≤ x5 then (if x5 < (x1.length : Int) then (if (rd x0 x5) = (rd x1 x5) then (laws_eqIntS.l0 k x0 x1 (wrap64 (x5 + 1))) else (some false)) else (none)) else (none)) else (some true)
def laws_eqIntS.f (k : Nat) (l0 : List Int) (l1 : List Int) : Option (Bool):=if (l0.length : Int) = (l1.length : Int) then (laws_eqIntS.l0 k l0 l1 0) else (some false)
theorem laws_eqIntS.mono_l : ∀ k,(∀ y0 y1 y2,LeO (laws_eqIntS.l0 k y0 y1 y2) (laws_eqIntS.l0 (k + 1) y0 y1 y2))
 | 0 => fun _ _ _ r h => by simp [laws_eqIntS.l0] at h
 | k + 1 => by
  have ih0:=laws_eqIntS.mono_l k
  ·intro y0 y1 y2
   unfold laws_eqIntS.l0
   repeat' first
   | (with_reducible exact ih0 _ _ _)
   | (with_reducible exact LeO.refl _)
   | (with_reducible exact LeO.none _)
   | (with_reducible refine LeO.ite ?_ ?_)
   | (with_reducible refine LeO.bind ?_ (fun _ => ?_))
   | exact ih0 _ _ _
   | exact LeO.none _
   | refine LeO.ite ?_ ?_
   | refine LeO.bind ?_ (fun _ => ?_)
theorem laws_eqIntS.mono : ∀ a0 a1 k,LeO (laws_eqIntS.f k a0 a1) (laws_eqIntS.f (k + 1) a0 a1):=by
 intro a0 a1 k
 have ih0:=laws_eqIntS.mono_l k
 unfold laws_eqIntS.f
 repeat' first
   | (with_reducible exact ih0 _ _ _)
   | (with_reducible exact LeO.refl _)
   | (with_reducible exact LeO.none _)
   | (with_reducible refine LeO.ite ?_ ?_)
   | (with_reducible refine LeO.bind ?_ (fun _ => ?_))
   | exact ih0 _ _ _
   | exact LeO.none _
   | refine LeO.ite ?_ ?_
   | refine LeO.bind ?_ (fun _ => ?_)
set_option maxHeartbeats 8000000 in
set_option maxRecDepth 100000 in
theorem laws_eqIntS.calls (k : Nat) (A0 : Option Addr) (c0 : Nat) (l0 : List Int) (A1 : Option Addr) (c1 : Nat) (l1 : List Int) (r : Bool) (w : World) (hr0 : Kd.C (Kd.int .i64) w A0 l0.length l0) (hc0 : l0.length ≤ c0) (hr1 : Kd.C (Kd.int .i64) w A1 l1.length l1) (hc1 : l1.length ≤ c1) (h : laws_eqIntS.f k l0 l1 = some r) :
  Calls Try.prog 22 #[.slice A0 l0.length c0,.slice A1 l1.length c1] w fun e w' => e = .returned (.bool r) ∧ Drawn0 w w':=by
 have HR0:=mk_ hr0
 have HC0:=mk_ hc0
 clear hr0 hc0
 have HR1:=mk_ hr1
 have HC1:=mk_ hc1
 clear hr1 hc1
 have H : (if (l0.length : Int) = (l1.length : Int) then (laws_eqIntS.l0 k l0 l1 0) else (some false)) = some r:=h
 clear h
 by_cases c3 : (l0.length : Int) = (l1.length : Int)
 ·rw [if_pos c3] at H
  have c3b0 : ((l0.length : Int) == (l1.length : Int)) = true:=beq_iff_eq.mpr c3
  have c3b1 : ((l0.length : Int) != (l1.length : Int)) = false:=bne_eq_false_iff_eq.mpr c3
  have c3b2 : (l0.length == l1.length) = true:=by first|simpa using c3|(simp at c3 ⊢;omega)
  clear c3
  have H':=mk_ H
  clear H
  go_enter Try.func22,Try.ntmps22
  go_wp2
  repeat (go_quiet (fail);try go_wp2)
  go_loopg [5] k (fun kq v5 w' => ∃ (x5_1 : Int),v5 = .int .i64 x5_1 ∧ Aside0 (laws_eqIntS.l0 kq l0 l1 x5_1 = some r) ∧ Aside0 (kq ≤ k) ∧ Drawn0 w w')
  case atStart => exact ⟨(0),qf_,H',⟨Nat.le_refl _⟩,by repeat (first|exact Drawn0.refl _|apply Drawn0.step)⟩
  case round =>
   clear H'
   try clear c1
   try clear c2
   try clear p2
   try clear c3
   try clear c3b0
   try clear c3b1
   try clear c3b2
   obtain ⟨x5_1,rfl,HA,HK1,⟨m1,rfl⟩⟩:=hrel
   cases gk with
   | zero => exact absurd HA.out (by simp [laws_eqIntS.l0])
   | succ k1 =>
    have H:=HA.out
    clear HA
    simp only [laws_eqIntS.l0] at H
    by_cases c4 : x5_1 < (l0.length : Int)
    ·rw [if_pos c4] at H
     have c4b0 : decide (x5_1 < (l0.length : Int)) = true:=decide_eq_true c4
     clear c4
     by_cases c5 : 0 ≤ x5_1
     ·rw [if_pos c5] at H
      have c5b0 : decide (0 ≤ x5_1) = true:=decide_eq_true c5
      clear c5
      by_cases c6 : x5_1 < (l1.length : Int)
      ·rw [if_pos c6] at H
       have c6b0 : decide (x5_1 < (l1.length : Int)) = true:=decide_eq_true c6
       clear c6
       by_cases c7 : (rd l0 x5_1) = (rd l1 x5_1)
       ·rw [if_pos c7] at H
        have c7b0 : ((rd l0 x5_1) == (rd l1 x5_1)) = true:=beq_iff_eq.mpr c7
        have c7b1 : ((rd l0 x5_1) != (rd l1 x5_1)) = false:=bne_eq_false_iff_eq.mpr c7
        clear c7
        have H':=mk_ H
        clear H
        have p133 : 0 ≤ (x5_1 : Int):=od_ qa_
        have q133 : x5_1 < (l0.length : Int):=od_ qa_
        obtain ⟨ad133,e133,hx133_0⟩:=Kd.at_int HR0.out x5_1 p133 q133
        cases e133
        replace p133:=eq_true p133
        replace q133:=eq_true q133
        have p134 : 0 ≤ (x5_1 : Int):=od_ qa_
        have q134 : x5_1 < (l1.length : Int):=od_ qa_
        obtain ⟨ad134,e134,hx134_0⟩:=Kd.at_int HR1.out x5_1 p134 q134
        cases e134
        replace p134:=eq_true p134
        replace q134:=eq_true q134
        go_wp2
        repeat (go_quiet (fail);try go_wp2)
        go_roundg k1
        case measure => have:=HK1.out;omega
        case rel => exact ⟨(wrap64 (x5_1 + 1)),qf_,H',⟨by have:=HK1.out;omega⟩,by repeat (first|exact Drawn0.refl _|apply Drawn0.step)⟩
       ·rw [if_neg c7] at H
        have c7b0 : ((rd l0 x5_1) == (rd l1 x5_1)) = false:=beq_eq_false_iff_ne.mpr c7
        have c7b1 : ((rd l0 x5_1) != (rd l1 x5_1)) = true:=bne_iff_ne.mpr c7
        obtain rfl:=Option.some.inj H
        have p133 : 0 ≤ (x5_1 : Int):=od_ qa_
        have q133 : x5_1 < (l0.length : Int):=od_ qa_
        obtain ⟨ad133,e133,hx133_0⟩:=Kd.at_int HR0.out x5_1 p133 q133
        cases e133
        replace p133:=eq_true p133
        replace q133:=eq_true q133
        have p134 : 0 ≤ (x5_1 : Int):=od_ qa_
        have q134 : x5_1 < (l1.length : Int):=od_ qa_
        obtain ⟨ad134,e134,hx134_0⟩:=Kd.at_int HR1.out x5_1 p134 q134
        cases e134
        replace p134:=eq_true p134
        replace q134:=eq_true q134
        go_wp2
        repeat (go_quiet (fail);try go_wp2)
        go_ret
        exact ⟨by first|rfl|(simp;done)|(simp [*];done),by repeat (first|exact Drawn0.refl _|apply Drawn0.step)⟩
      ·rw [if_neg c6] at H
       exact absurd H (by simp)
     ·rw [if_neg c5] at H
      exact absurd H (by simp)
    ·rw [if_neg c4] at H
     have c4b0 : decide (x5_1 < (l0.length : Int)) = false:=decide_eq_false c4
     clear c4
     obtain rfl:=Option.some.inj H
     go_wp2
     repeat (go_quiet (fail);try go_wp2)
     go_ret
     exact ⟨by first|rfl|(simp;done)|(simp [*];done),by repeat (first|exact Drawn0.refl _|apply Drawn0.step)⟩
 ·rw [if_neg c3] at H
  have c3b0 : ((l0.length : Int) == (l1.length : Int)) = false:=beq_eq_false_iff_ne.mpr c3
  have c3b1 : ((l0.length : Int) != (l1.length : Int)) = true:=bne_iff_ne.mpr c3
  have c3b2 : (l0.length == l1.length) = false:=by first|simpa using c3|(simp at c3 ⊢;omega)
  obtain rfl:=Option.some.inj H
  go_enter Try.func22,Try.ntmps22
  go_wp2
  repeat (go_quiet (fail);try go_wp2)
  go_ret
  exact ⟨by first|rfl|(simp;done)|(simp [*];done),by repeat (first|exact Drawn0.refl _|apply Drawn0.step)⟩

/-! ### laws_eqCable: function 76 -/
def laws_eqCable.f (a0_0 : Int) (a0_1 : Int) (a0_2 : Int) (a1_0 : Int) (a1_1 : Int) (a1_2 : Int) : Option (Bool):=if a0_0 = a1_0 then (if a0_1 = a1_1 then (if a0_2 = a1_2 then (some true) else (some false)) else (some false)) else (some false)
set_option maxHeartbeats 8000000 in
set_option maxRecDepth 100000 in
theorem laws_eqCable.calls (a0_0 : Int) (a0_1 : Int) (a0_2 : Int) (a1_0 : Int) (a1_1 : Int) (a1_2 : Int) (r : Bool) (w : World) (h : laws_eqCable.f a0_0 a0_1 a0_2 a1_0 a1_1 a1_2 = some r) :
  Calls Try.prog 76 #[.agg #[.int .i64 a0_0,.int .i64 a0_1,.int .i64 a0_2],.agg #[.int .i64 a1_0,.int .i64 a1_1,.int .i64 a1_2]] w fun e w' => e = .returned (.bool r) ∧ Below w.heap.size w w':=by
 have hu51:=Try.underlying51
 have HB:=mk_ (Below.refl w.heap.size w)
 have H : (if a0_0 = a1_0 then (if a0_1 = a1_1 then (if a0_2 = a1_2 then (some true) else (some false)) else (some false)) else (some false)) = some r:=h
 clear h
 by_cases c3 : a0_0 = a1_0
 ·rw [if_pos c3] at H
  have c3b0 : (a0_0 == a1_0) = true:=beq_iff_eq.mpr c3
  have c3b1 : (a0_0 != a1_0) = false:=bne_eq_false_iff_eq.mpr c3
  clear c3
  by_cases c4 : a0_1 = a1_1
  ·rw [if_pos c4] at H
   have c4b0 : (a0_1 == a1_1) = true:=beq_iff_eq.mpr c4
   have c4b1 : (a0_1 != a1_1) = false:=bne_eq_false_iff_eq.mpr c4
   clear c4
   by_cases c5 : a0_2 = a1_2
   ·rw [if_pos c5] at H
    have c5b0 : (a0_2 == a1_2) = true:=beq_iff_eq.mpr c5
    have c5b1 : (a0_2 != a1_2) = false:=bne_eq_false_iff_eq.mpr c5
    clear c5
    obtain rfl:=Option.some.inj H
    go_enter Try.func76,Try.ntmps76
    go_wp2_with (first|((with_reducible refine gate_dst (N:=2) rfl ?_);refine box_event ?hg (N:=2) ?hd (cs:=#[.int .i64 a0_0,.int .i64 a0_1,.int .i64 a0_2]) (t:=51) ?hr ?_;(case hd => rfl);(case hg => rfl);(case hr => first|(go_simp;done)|(go_simp;rfl));intro gb135 hg w6 hbox hb;have n0_:=mk_ (st_ (qb_ HB) hb);have n1_:=mk_ (hbox);have n2_:=mk_ ((by rw [hg];exact (bz_ (qb_ HB)) : w.heap.size ≤ gb135));have n3_:=mk_ ((by rw [hg];exact (bz_ (qb_ HB)) : w.heap.size ≤ gb135));clear HB;have HB:=n0_;have BK135:=n1_;have GW135:=n2_;have GE135:=n3_;clear n0_ n1_ n2_ n3_ hb hbox hg)|((with_reducible refine gate_dst (N:=3) rfl ?_);refine box_event ?hg (N:=3) ?hd (cs:=#[.int .i64 a1_0,.int .i64 a1_1,.int .i64 a1_2]) (t:=51) ?hr ?_;(case hd => rfl);(case hg => rfl);(case hr => first|(go_simp;done)|(go_simp;rfl));intro gb136 hg w7 hbox hb;have n0_:=mk_ (blk_below (g:=gb135) (o:=.cells #[.int .i64 a0_0,.int .i64 a0_1,.int .i64 a0_2] 51 (0,0)) (qk_ BK135) hb);have n1_:=mk_ (st_ (qc_ HB GE135) hb);have n2_:=mk_ (hbox);have n3_:=mk_ ((by rw [hg];exact (bz_ (qc_ HB GE135)) : w.heap.size ≤ gb136));have n4_:=mk_ ((by rw [hg];exact (bz_ (qc_ HB GE135)) : w.heap.size ≤ gb136));have n5_:=mk_ ((by rw [hg];exact Nat.ne_of_lt (blk_lt (g:=gb135) (o:=.cells #[.int .i64 a0_0,.int .i64 a0_1,.int .i64 a0_2] 51 (0,0)) (qk_ BK135)) : gb135 ≠ gb136));have n6_:=mk_ ((by rw [hg];exact Nat.ne_of_gt (blk_lt (g:=gb135) (o:=.cells #[.int .i64 a0_0,.int .i64 a0_1,.int .i64 a0_2] 51 (0,0)) (qk_ BK135)) : gb136 ≠ gb135));clear BK135 HB;have BK135:=n0_;have HB:=n1_;have BK136:=n2_;have GW136:=n3_;have GE136:=n4_;have NB135_136:=n5_;have NB136_135:=n6_;clear n0_ n1_ n2_ n3_ n4_ n5_ n6_ hb hbox hg;have hnb8:=NB135_136.out;have hnc8:=NB136_135.out;have hcz9_0 : w7.cell? ⟨gb135,0,none⟩ = some (.int .i64 a0_0):=(bc_ BK135.out 0).trans rfl;have hcz9_1 : w7.cell? ⟨gb135,1,none⟩ = some (.int .i64 a0_1):=(bc_ BK135.out 1).trans rfl;have hcz9_2 : w7.cell? ⟨gb135,2,none⟩ = some (.int .i64 a0_2):=(bc_ BK135.out 2).trans rfl;have hfz9_0:=bf_ BK135.out 0;have hfz9_1:=bf_ BK135.out 1;have hfz9_2:=bf_ BK135.out 2;have hcz10_0 : w7.cell? ⟨gb136,0,none⟩ = some (.int .i64 a1_0):=(bc_ BK136.out 0).trans rfl;have hcz10_1 : w7.cell? ⟨gb136,1,none⟩ = some (.int .i64 a1_1):=(bc_ BK136.out 1).trans rfl;have hcz10_2 : w7.cell? ⟨gb136,2,none⟩ = some (.int .i64 a1_2):=(bc_ BK136.out 2).trans rfl;have hfz10_0:=bf_ BK136.out 0;have hfz10_1:=bf_ BK136.out 1;have hfz10_2:=bf_ BK136.out 2))
    go_ret
    exact ⟨qe_,u3_ HB GE135 GE136⟩
   ·rw [if_neg c5] at H
    have c5b0 : (a0_2 == a1_2) = false:=beq_eq_false_iff_ne.mpr c5
    have c5b1 : (a0_2 != a1_2) = true:=bne_iff_ne.mpr c5
    obtain rfl:=Option.some.inj H
    go_enter Try.func76,Try.ntmps76
    go_wp2_with (first|((with_reducible refine gate_dst (N:=2) rfl ?_);refine box_event ?hg (N:=2) ?hd (cs:=#[.int .i64 a0_0,.int .i64 a0_1,.int .i64 a0_2]) (t:=51) ?hr ?_;(case hd => rfl);(case hg => rfl);(case hr => first|(go_simp;done)|(go_simp;rfl));intro gb135 hg w11 hbox hb;have n0_:=mk_ (st_ (qb_ HB) hb);have n1_:=mk_ (hbox);have n2_:=mk_ ((by rw [hg];exact (bz_ (qb_ HB)) : w.heap.size ≤ gb135));have n3_:=mk_ ((by rw [hg];exact (bz_ (qb_ HB)) : w.heap.size ≤ gb135));clear HB;have HB:=n0_;have BK135:=n1_;have GW135:=n2_;have GE135:=n3_;clear n0_ n1_ n2_ n3_ hb hbox hg)|((with_reducible refine gate_dst (N:=3) rfl ?_);refine box_event ?hg (N:=3) ?hd (cs:=#[.int .i64 a1_0,.int .i64 a1_1,.int .i64 a1_2]) (t:=51) ?hr ?_;(case hd => rfl);(case hg => rfl);(case hr => first|(go_simp;done)|(go_simp;rfl));intro gb136 hg w12 hbox hb;have n0_:=mk_ (blk_below (g:=gb135) (o:=.cells #[.int .i64 a0_0,.int .i64 a0_1,.int .i64 a0_2] 51 (0,0)) (qk_ BK135) hb);have n1_:=mk_ (st_ (qc_ HB GE135) hb);have n2_:=mk_ (hbox);have n3_:=mk_ ((by rw [hg];exact (bz_ (qc_ HB GE135)) : w.heap.size ≤ gb136));have n4_:=mk_ ((by rw [hg];exact (bz_ (qc_ HB GE135)) : w.heap.size ≤ gb136));have n5_:=mk_ ((by rw [hg];exact Nat.ne_of_lt (blk_lt (g:=gb135) (o:=.cells #[.int .i64 a0_0,.int .i64 a0_1,.int .i64 a0_2] 51 (0,0)) (qk_ BK135)) : gb135 ≠ gb136));have n6_:=mk_ ((by rw [hg];exact Nat.ne_of_gt (blk_lt (g:=gb135) (o:=.cells #[.int .i64 a0_0,.int .i64 a0_1,.int .i64 a0_2] 51 (0,0)) (qk_ BK135)) : gb136 ≠ gb135));clear BK135 HB;have BK135:=n0_;have HB:=n1_;have BK136:=n2_;have GW136:=n3_;have GE136:=n4_;have NB135_136:=n5_;have NB136_135:=n6_;clear n0_ n1_ n2_ n3_ n4_ n5_ n6_ hb hbox hg;have hnb13:=NB135_136.out;have hnc13:=NB136_135.out;have hcz14_0 : w12.cell? ⟨gb135,0,none⟩ = some (.int .i64 a0_0):=(bc_ BK135.out 0).trans rfl;have hcz14_1 : w12.cell? ⟨gb135,1,none⟩ = some (.int .i64 a0_1):=(bc_ BK135.out 1).trans rfl;have hcz14_2 : w12.cell? ⟨gb135,2,none⟩ = some (.int .i64 a0_2):=(bc_ BK135.out 2).trans rfl;have hfz14_0:=bf_ BK135.out 0;have hfz14_1:=bf_ BK135.out 1;have hfz14_2:=bf_ BK135.out 2;have hcz15_0 : w12.cell? ⟨gb136,0,none⟩ = some (.int .i64 a1_0):=(bc_ BK136.out 0).trans rfl;have hcz15_1 : w12.cell? ⟨gb136,1,none⟩ = some (.int .i64 a1_1):=(bc_ BK136.out 1).trans rfl;have hcz15_2 : w12.cell? ⟨gb136,2,none⟩ = some (.int .i64 a1_2):=(bc_ BK136.out 2).trans rfl;have hfz15_0:=bf_ BK136.out 0;have hfz15_1:=bf_ BK136.out 1;have hfz15_2:=bf_ BK136.out 2))
    go_ret
    exact ⟨qe_,u3_ HB GE135 GE136⟩
  ·rw [if_neg c4] at H
   have c4b0 : (a0_1 == a1_1) = false:=beq_eq_false_iff_ne.mpr c4
   have c4b1 : (a0_1 != a1_1) = true:=bne_iff_ne.mpr c4
   obtain rfl:=Option.some.inj H
   go_enter Try.func76,Try.ntmps76
   go_wp2_with (first|((with_reducible refine gate_dst (N:=2) rfl ?_);refine box_event ?hg (N:=2) ?hd (cs:=#[.int .i64 a0_0,.int .i64 a0_1,.int .i64 a0_2]) (t:=51) ?hr ?_;(case hd => rfl);(case hg => rfl);(case hr => first|(go_simp;done)|(go_simp;rfl));intro gb135 hg w16 hbox hb;have n0_:=mk_ (st_ (qb_ HB) hb);have n1_:=mk_ (hbox);have n2_:=mk_ ((by rw [hg];exact (bz_ (qb_ HB)) : w.heap.size ≤ gb135));have n3_:=mk_ ((by rw [hg];exact (bz_ (qb_ HB)) : w.heap.size ≤ gb135));clear HB;have HB:=n0_;have BK135:=n1_;have GW135:=n2_;have GE135:=n3_;clear n0_ n1_ n2_ n3_ hb hbox hg)|((with_reducible refine gate_dst (N:=3) rfl ?_);refine box_event ?hg (N:=3) ?hd (cs:=#[.int .i64 a1_0,.int .i64 a1_1,.int .i64 a1_2]) (t:=51) ?hr ?_;(case hd => rfl);(case hg => rfl);(case hr => first|(go_simp;done)|(go_simp;rfl));intro gb136 hg w17 hbox hb;have n0_:=mk_ (blk_below (g:=gb135) (o:=.cells #[.int .i64 a0_0,.int .i64 a0_1,.int .i64 a0_2] 51 (0,0)) (qk_ BK135) hb);have n1_:=mk_ (st_ (qc_ HB GE135) hb);have n2_:=mk_ (hbox);have n3_:=mk_ ((by rw [hg];exact (bz_ (qc_ HB GE135)) : w.heap.size ≤ gb136));have n4_:=mk_ ((by rw [hg];exact (bz_ (qc_ HB GE135)) : w.heap.size ≤ gb136));have n5_:=mk_ ((by rw [hg];exact Nat.ne_of_lt (blk_lt (g:=gb135) (o:=.cells #[.int .i64 a0_0,.int .i64 a0_1,.int .i64 a0_2] 51 (0,0)) (qk_ BK135)) : gb135 ≠ gb136));have n6_:=mk_ ((by rw [hg];exact Nat.ne_of_gt (blk_lt (g:=gb135) (o:=.cells #[.int .i64 a0_0,.int .i64 a0_1,.int .i64 a0_2] 51 (0,0)) (qk_ BK135)) : gb136 ≠ gb135));clear BK135 HB;have BK135:=n0_;have HB:=n1_;have BK136:=n2_;have GW136:=n3_;have GE136:=n4_;have NB135_136:=n5_;have NB136_135:=n6_;clear n0_ n1_ n2_ n3_ n4_ n5_ n6_ hb hbox hg;have hnb18:=NB135_136.out;have hnc18:=NB136_135.out;have hcz19_0 : w17.cell? ⟨gb135,0,none⟩ = some (.int .i64 a0_0):=(bc_ BK135.out 0).trans rfl;have hcz19_1 : w17.cell? ⟨gb135,1,none⟩ = some (.int .i64 a0_1):=(bc_ BK135.out 1).trans rfl;have hcz19_2 : w17.cell? ⟨gb135,2,none⟩ = some (.int .i64 a0_2):=(bc_ BK135.out 2).trans rfl;have hfz19_0:=bf_ BK135.out 0;have hfz19_1:=bf_ BK135.out 1;have hfz19_2:=bf_ BK135.out 2;have hcz20_0 : w17.cell? ⟨gb136,0,none⟩ = some (.int .i64 a1_0):=(bc_ BK136.out 0).trans rfl;have hcz20_1 : w17.cell? ⟨gb136,1,none⟩ = some (.int .i64 a1_1):=(bc_ BK136.out 1).trans rfl;have hcz20_2 : w17.cell? ⟨gb136,2,none⟩ = some (.int .i64 a1_2):=(bc_ BK136.out 2).trans rfl;have hfz20_0:=bf_ BK136.out 0;have hfz20_1:=bf_ BK136.out 1;have hfz20_2:=bf_ BK136.out 2))
   go_ret
   exact ⟨qe_,u3_ HB GE135 GE136⟩
 ·rw [if_neg c3] at H
  have c3b0 : (a0_0 == a1_0) = false:=beq_eq_false_iff_ne.mpr c3
  have c3b1 : (a0_0 != a1_0) = true:=bne_iff_ne.mpr c3
  obtain rfl:=Option.some.inj H
  go_enter Try.func76,Try.ntmps76
  go_wp2_with (first|((with_reducible refine gate_dst (N:=2) rfl ?_);refine box_event ?hg (N:=2) ?hd (cs:=#[.int .i64 a0_0,.int .i64 a0_1,.int .i64 a0_2]) (t:=51) ?hr ?_;(case hd => rfl);(case hg => rfl);(case hr => first|(go_simp;done)|(go_simp;rfl));intro gb135 hg w21 hbox hb;have n0_:=mk_ (st_ (qb_ HB) hb);have n1_:=mk_ (hbox);have n2_:=mk_ ((by rw [hg];exact (bz_ (qb_ HB)) : w.heap.size ≤ gb135));have n3_:=mk_ ((by rw [hg];exact (bz_ (qb_ HB)) : w.heap.size ≤ gb135));clear HB;have HB:=n0_;have BK135:=n1_;have GW135:=n2_;have GE135:=n3_;clear n0_ n1_ n2_ n3_ hb hbox hg)|((with_reducible refine gate_dst (N:=3) rfl ?_);refine box_event ?hg (N:=3) ?hd (cs:=#[.int .i64 a1_0,.int .i64 a1_1,.int .i64 a1_2]) (t:=51) ?hr ?_;(case hd => rfl);(case hg => rfl);(case hr => first|(go_simp;done)|(go_simp;rfl));intro gb136 hg w22 hbox hb;have n0_:=mk_ (blk_below (g:=gb135) (o:=.cells #[.int .i64 a0_0,.int .i64 a0_1,.int .i64 a0_2] 51 (0,0)) (qk_ BK135) hb);have n1_:=mk_ (st_ (qc_ HB GE135) hb);have n2_:=mk_ (hbox);have n3_:=mk_ ((by rw [hg];exact (bz_ (qc_ HB GE135)) : w.heap.size ≤ gb136));have n4_:=mk_ ((by rw [hg];exact (bz_ (qc_ HB GE135)) : w.heap.size ≤ gb136));have n5_:=mk_ ((by rw [hg];exact Nat.ne_of_lt (blk_lt (g:=gb135) (o:=.cells #[.int .i64 a0_0,.int .i64 a0_1,.int .i64 a0_2] 51 (0,0)) (qk_ BK135)) : gb135 ≠ gb136));have n6_:=mk_ ((by rw [hg];exact Nat.ne_of_gt (blk_lt (g:=gb135) (o:=.cells #[.int .i64 a0_0,.int .i64 a0_1,.int .i64 a0_2] 51 (0,0)) (qk_ BK135)) : gb136 ≠ gb135));clear BK135 HB;have BK135:=n0_;have HB:=n1_;have BK136:=n2_;have GW136:=n3_;have GE136:=n4_;have NB135_136:=n5_;have NB136_135:=n6_;clear n0_ n1_ n2_ n3_ n4_ n5_ n6_ hb hbox hg;have hnb23:=NB135_136.out;have hnc23:=NB136_135.out;have hcz24_0 : w22.cell? ⟨gb135,0,none⟩ = some (.int .i64 a0_0):=(bc_ BK135.out 0).trans rfl;have hcz24_1 : w22.cell? ⟨gb135,1,none⟩ = some (.int .i64 a0_1):=(bc_ BK135.out 1).trans rfl;have hcz24_2 : w22.cell? ⟨gb135,2,none⟩ = some (.int .i64 a0_2):=(bc_ BK135.out 2).trans rfl;have hfz24_0:=bf_ BK135.out 0;have hfz24_1:=bf_ BK135.out 1;have hfz24_2:=bf_ BK135.out 2;have hcz25_0 : w22.cell? ⟨gb136,0,none⟩ = some (.int .i64 a1_0):=(bc_ BK136.out 0).trans rfl;have hcz25_1 : w22.cell? ⟨gb136,1,none⟩ = some (.int .i64 a1_1):=(bc_ BK136.out 1).trans rfl;have hcz25_2 : w22.cell? ⟨gb136,2,none⟩ = some (.int .i64 a1_2):=(bc_ BK136.out 2).trans rfl;have hfz25_0:=bf_ BK136.out 0;have hfz25_1:=bf_ BK136.out 1;have hfz25_2:=bf_ BK136.out 2))
  go_ret
  exact ⟨qe_,u3_ HB GE135 GE136⟩

/-! ### laws_eqCableS: function 50 -/
def laws_eqCableS.l0 : Nat → List (S51) → List (S51) → Int → Option (Bool)
 | 0,_,_,_ => none
 | k + 1,x0,x1,x5 => if x5 < (x0.length : Int) then (if 0 ≤ x5 then (if x5 < (x1.length : Int) then ((laws_eqCable.f ((rd_T51 x0 x5).f0) ((rd_T51 x0 x5).f1) ((rd_T51 x0 x5).f2) ((rd_T51 x1 x5).f0) ((rd_T51 x1 x5).f1) ((rd_T51 x1 x5).f2)).bind fun t139 => (if t139 = true then (laws_eqCableS.l0 k x0 x1 (wrap64 (x5 + 1))) else (some false))) else (none)) else (none)) else (some true)
def laws_eqCableS.f (k : Nat) (l0 : List (S51)) (l1 : List (S51)) : Option (Bool):=if (l0.length : Int) = (l1.length : Int) then (laws_eqCableS.l0 k l0 l1 0) else (some false)
theorem laws_eqCableS.mono_l : ∀ k,(∀ y0 y1 y2,LeO (laws_eqCableS.l0 k y0 y1 y2) (laws_eqCableS.l0 (k + 1) y0 y1 y2))
 | 0 => fun _ _ _ r h => by simp [laws_eqCableS.l0] at h
 | k + 1 => by
  have ih0:=laws_eqCableS.mono_l k
  ·intro y0 y1 y2
   unfold laws_eqCableS.l0
   repeat' first
   | (with_reducible exact ih0 _ _ _)
   | (with_reducible exact LeO.refl _)
   | (with_reducible exact LeO.none _)
   | (with_reducible refine LeO.ite ?_ ?_)
   | (with_reducible refine LeO.bind ?_ (fun _ => ?_))
   | exact ih0 _ _ _
   | exact LeO.none _
   | refine LeO.ite ?_ ?_
   | refine LeO.bind ?_ (fun _ => ?_)
theorem laws_eqCableS.mono : ∀ a0 a1 k,LeO (laws_eqCableS.f k a0 a1) (laws_eqCableS.f (k + 1) a0 a1):=by
 intro a0 a1 k
 have ih0:=laws_eqCableS.mono_l k
 unfold laws_eqCableS.f
 repeat' first
   | (with_reducible exact ih0 _ _ _)
   | (with_reducible exact LeO.refl _)
   | (with_reducible exact LeO.none _)
   | (with_reducible refine LeO.ite ?_ ?_)
   | (with_reducible refine LeO.bind ?_ (fun _ => ?_))
   | exact ih0 _ _ _
   | exact LeO.none _
   | refine LeO.ite ?_ ?_
   | refine LeO.bind ?_ (fun _ => ?_)
def laws_eqCableS.T6 : Bool × List (List Nat × List Nat):=(true,[([],[]),([],[]),([0,1],[0,1]),([2],[2]),([],[]),([],[]),([4,5],[4,5]),([6],[6]),([3,7],[3,7]),([8],[8])])
def laws_eqCableS.B6 : List Nat:=[0,0,3,7,0,0,48,112,255,511]
theorem laws_eqCableS.tab6 : rtab .any (opsOf Try.f50 6) = laws_eqCableS.T6:=by kernel_rfl
theorem laws_eqCableS.bits6 : waitsOk laws_eqCableS.T6.2 laws_eqCableS.B6 = true:=by kernel_rfl
set_option maxHeartbeats 8000000 in
set_option maxRecDepth 100000 in
theorem laws_eqCableS.calls (k : Nat) (A0 : Option Addr) (c0 : Nat) (l0 : List (S51)) (A1 : Option Addr) (c1 : Nat) (l1 : List (S51)) (r : Bool) (w : World) (hr0 : Kd.C k51 w A0 l0.length l0) (hc0 : l0.length ≤ c0) (hr1 : Kd.C k51 w A1 l1.length l1) (hc1 : l1.length ≤ c1) (h : laws_eqCableS.f k l0 l1 = some r) :
  Calls Try.prog 50 #[.slice A0 l0.length c0,.slice A1 l1.length c1] w fun e w' => e = .returned (.bool r) ∧ Below w.heap.size w w':=by
 have hu51:=Try.underlying51
 have HR0:=mk_ hr0
 have HC0:=mk_ hc0
 clear hr0 hc0
 have HR1:=mk_ hr1
 have HC1:=mk_ hc1
 clear hr1 hc1
 have HB:=mk_ (Below.refl w.heap.size w)
 have H : (if (l0.length : Int) = (l1.length : Int) then (laws_eqCableS.l0 k l0 l1 0) else (some false)) = some r:=h
 clear h
 by_cases c3 : (l0.length : Int) = (l1.length : Int)
 ·rw [if_pos c3] at H
  have c3b0 : ((l0.length : Int) == (l1.length : Int)) = true:=beq_iff_eq.mpr c3
  have c3b1 : ((l0.length : Int) != (l1.length : Int)) = false:=bne_eq_false_iff_eq.mpr c3
  have c3b2 : (l0.length == l1.length) = true:=by first|simpa using c3|(simp at c3 ⊢;omega)
  clear c3
  have H':=mk_ H
  clear H
  go_enter Try.func50,Try.ntmps50
  go_wp2
  go_loopg [5] k (fun kq v5 w' => ∃ (x5_1 : Int),v5 = .int .i64 x5_1 ∧ Aside0 (laws_eqCableS.l0 kq l0 l1 x5_1 = some r) ∧ Aside0 (kq ≤ k) ∧ Aside0 (Below w.heap.size w w'))
  case atStart => exact ⟨(0),qf_,H',⟨Nat.le_refl _⟩,⟨u2_ HB⟩⟩
  case round =>
   clear H'
   try clear c1
   try clear p2
   try clear c3
   try clear c3b0
   try clear c3b1
   try clear c3b2
   obtain ⟨x5_1,rfl,HA,HK1,HB⟩:=hrel
   cases gk with
   | zero => exact absurd HA.out (by simp [laws_eqCableS.l0])
   | succ k1 =>
    have H:=HA.out
    clear HA
    simp only [laws_eqCableS.l0] at H
    by_cases c4 : x5_1 < (l0.length : Int)
    ·rw [if_pos c4] at H
     have c4b0 : decide (x5_1 < (l0.length : Int)) = true:=decide_eq_true c4
     clear c4
     by_cases c5 : 0 ≤ x5_1
     ·rw [if_pos c5] at H
      have c5b0 : decide (0 ≤ x5_1) = true:=decide_eq_true c5
      clear c5
      by_cases c6 : x5_1 < (l1.length : Int)
      ·rw [if_pos c6] at H
       have c6b0 : decide (x5_1 < (l1.length : Int)) = true:=decide_eq_true c6
       clear c6
       replace H:=Option.bind_eq_some_iff.mp H
       obtain ⟨t139,A70,H⟩:=H
       replace H : (if t139 = true then (laws_eqCableS.l0 k1 l0 l1 (wrap64 (x5_1 + 1))) else (some false)) = some r:=H
       have A7:=mk_ A70
       clear A70
       by_cases c8 : t139 = true
       ·subst c8
        have H1 : (laws_eqCableS.l0 k1 l0 l1 (wrap64 (x5_1 + 1))) = some r:=by rw [if_pos rfl] at H;exact H
        clear H
        have H:=H1
        clear H1
        have H':=mk_ H
        clear H
        try go_wp2
        have n0_:=mk_ (bd_ HB.out)
        clear HB
        have HB:=n0_
        clear n0_
        have p137 : 0 ≤ (x5_1 : Int):=od_ qa_
        have q137 : x5_1 < (l0.length : Int):=od_ qa_
        obtain ⟨ad137,e137,hx137_0,hx137_1,hx137_2⟩:=at_T51 HR0.out x5_1 p137 q137
        have hw137_2:=hx137_2
        have hw137_1:=hx137_1
        have hw137_0:=hx137_0
        cases e137
        replace hx137_0:=(HB.out.cell (wl_ w _ hx137_0)).trans hx137_0
        replace hx137_1:=(HB.out.cell (wl_ w _ hx137_1)).trans hx137_1
        replace hx137_2:=(HB.out.cell (wl_ w _ hx137_2)).trans hx137_2
        replace p137:=eq_true p137
        replace q137:=eq_true q137
        have p138 : 0 ≤ (x5_1 : Int):=od_ qa_
        have q138 : x5_1 < (l1.length : Int):=od_ qa_
        obtain ⟨ad138,e138,hx138_0,hx138_1,hx138_2⟩:=at_T51 HR1.out x5_1 p138 q138
        have hw138_2:=hx138_2
        have hw138_1:=hx138_1
        have hw138_0:=hx138_0
        cases e138
        replace hx138_0:=(HB.out.cell (wl_ w _ hx138_0)).trans hx138_0
        replace hx138_1:=(HB.out.cell (wl_ w _ hx138_1)).trans hx138_1
        replace hx138_2:=(HB.out.cell (wl_ w _ hx138_2)).trans hx138_2
        replace p138:=eq_true p138
        replace q138:=eq_true q138
        refine start_ (n:=10) (S:=fun w' => w'.cell? (ad137.add ((x5_1).toNat * 3)) = some (.int .i64 ((rd_T51 l0 x5_1).f0)) ∧ w'.cell? ⟨(ad137.add ((x5_1).toNat * 3)).block,(ad137.add ((x5_1).toNat * 3)).off + 1,none⟩ = some (.int .i64 ((rd_T51 l0 x5_1).f1)) ∧ w'.cell? ⟨(ad137.add ((x5_1).toNat * 3)).block,(ad137.add ((x5_1).toNat * 3)).off + 2,none⟩ = some (.int .i64 ((rd_T51 l0 x5_1).f2)) ∧ w'.cell? (ad138.add ((x5_1).toNat * 3)) = some (.int .i64 ((rd_T51 l1 x5_1).f0)) ∧ w'.cell? ⟨(ad138.add ((x5_1).toNat * 3)).block,(ad138.add ((x5_1).toNat * 3)).off + 1,none⟩ = some (.int .i64 ((rd_T51 l1 x5_1).f1)) ∧ w'.cell? ⟨(ad138.add ((x5_1).toNat * 3)).block,(ad138.add ((x5_1).toNat * 3)).off + 2,none⟩ = some (.int .i64 ((rd_T51 l1 x5_1).f2))) (ds:=[]) #[false,false,false,false,false,false,false,false,false,false] (by kernel_rfl) rfl rfl ⟨((HB.out.cell (wl_ w _ hw137_0)).trans hw137_0),((HB.out.cell (wl_ w _ hw137_1)).trans hw137_1),((HB.out.cell (wl_ w _ hw137_2)).trans hw137_2),((HB.out.cell (wl_ w _ hw138_0)).trans hw138_0),((HB.out.cell (wl_ w _ hw138_1)).trans hw138_1),((HB.out.cell (wl_ w _ hw138_2)).trans hw138_2)⟩ (fun hHeld => ?_);refine with_tabW laws_eqCableS.tab6 laws_eqCableS.bits6 (fun HT_ HW_ => ?_)
        generalize wr.drew = w9 at HB hx137_0 hx137_1 hx137_2 hx138_0 hx138_1 hx138_2 hHeld ⊢
        refine pure_ (i:=0) (N:=some 17) (v:=?_) (a':=?_) #[true,false,false,false,false,false,false,false,false,false] rfl rfl (any_of HT_.out (by kernel_rfl)) (fun _ _ _ h => h) (Or.inl ⟨by rfl,?_⟩) ?_ ?_
        rotate_left
        ·intro w'
         go_simp
         with_reducible rfl
        rotate_left
        ·simp only [Act.put,sx_,sy_,sz_,i64_w,i32_w]
         rfl
        refine pure_ (i:=1) (N:=some 18) (v:=?_) (a':=?_) #[true,true,false,false,false,false,false,false,false,false] rfl rfl (any_of HT_.out (by kernel_rfl)) (fun _ _ _ h => h) (Or.inl ⟨by rfl,?_⟩) ?_ ?_
        rotate_left
        ·intro w'
         go_simp
         with_reducible rfl
        rotate_left
        ·simp only [Act.put,sx_,sy_,sz_,i64_w,i32_w]
         rfl
        refine pure_ (i:=2) (N:=some 19) (v:=?_) (a':=?_) #[true,true,true,false,false,false,false,false,false,false] rfl rfl (any_of HT_.out (by kernel_rfl)) (fun _ _ _ h => h) (Or.inl ⟨by rfl,?_⟩) ?_ ?_
        rotate_left
        ·intro w'
         go_simp
         with_reducible rfl
        rotate_left
        ·simp only [Act.put,sx_,sy_,sz_,i64_w,i32_w]
         rfl
        refine pure_ (i:=4) (N:=some 21) (v:=?_) (a':=?_) #[true,true,true,false,true,false,false,false,false,false] rfl rfl (any_of HT_.out (by kernel_rfl)) (fun _ _ _ h => h) (Or.inl ⟨by rfl,?_⟩) ?_ ?_
        rotate_left
        ·intro w'
         go_simp
         with_reducible rfl
        rotate_left
        ·simp only [Act.put,sx_,sy_,sz_,i64_w,i32_w]
         rfl
        refine pure_ (i:=5) (N:=some 22) (v:=?_) (a':=?_) #[true,true,true,false,true,true,false,false,false,false] rfl rfl (any_of HT_.out (by kernel_rfl)) (fun _ _ _ h => h) (Or.inl ⟨by rfl,?_⟩) ?_ ?_
        rotate_left
        ·intro w'
         go_simp
         with_reducible rfl
        rotate_left
        ·simp only [Act.put,sx_,sy_,sz_,i64_w,i32_w]
         rfl
        refine pure_ (i:=6) (N:=some 23) (v:=?_) (a':=?_) #[true,true,true,false,true,true,true,false,false,false] rfl rfl (any_of HT_.out (by kernel_rfl)) (fun _ _ _ h => h) (Or.inl ⟨by rfl,?_⟩) ?_ ?_
        rotate_left
        ·intro w'
         go_simp
         with_reducible rfl
        rotate_left
        ·simp only [Act.put,sx_,sy_,sz_,i64_w,i32_w]
         rfl
        refine take_ (i:=3) (N:=some 20) (v:=?_) (a':=?_) #[true,true,true,true,true,true,true,false,false,false] rfl rfl (take_ofW HT_.out HW_.out (by kernel_rfl)) (fun _ _ _ h => h) (Or.inl ⟨by rfl,?_⟩) hHeld ?_ ?_
        rotate_left
        ·rintro w' ⟨s0,s1,s2,s3,s4,s5⟩
         go_simp
         with_reducible rfl
        rotate_left
        ·simp only [Act.put,sx_,sy_,sz_,i64_w,i32_w]
         rfl
        refine take_ (i:=7) (N:=some 24) (v:=?_) (a':=?_) #[true,true,true,true,true,true,true,true,false,false] rfl rfl (take_ofW HT_.out HW_.out (by kernel_rfl)) (fun _ _ _ h => h) (Or.inl ⟨by rfl,?_⟩) hHeld ?_ ?_
        rotate_left
        ·rintro w' ⟨s0,s1,s2,s3,s4,s5⟩
         go_simp
         with_reducible rfl
        rotate_left
        ·simp only [Act.put,sx_,sy_,sz_,i64_w,i32_w]
         rfl
        refine one_ (i:=8) (N:=some 25) #[true,true,true,true,true,true,true,true,true,false] rfl rfl (one_of HT_.out (by kernel_rfl)) (by decide) (fun K hK => ?_)
        refine goes_ Try.func76 (by kernel_rfl) rfl #[.agg #[.int .i64 ((rd_T51 l0 x5_1).f0),.int .i64 ((rd_T51 l0 x5_1).f1),.int .i64 ((rd_T51 l0 x5_1).f2)],.agg #[.int .i64 ((rd_T51 l1 x5_1).f0),.int .i64 ((rd_T51 l1 x5_1).f1),.int .i64 ((rd_T51 l1 x5_1).f2)]] (by rfl) rfl rfl qm_ ?_
        with_reducible refine (laws_eqCable.calls ((rd_T51 l0 x5_1).f0) ((rd_T51 l0 x5_1).f1) ((rd_T51 l0 x5_1).f2) ((rd_T51 l1 x5_1).f0) ((rd_T51 l1 x5_1).f1) ((rd_T51 l1 x5_1).f2) true _ A7.out).mono ?_
        rintro e w10 ⟨rfl,hb⟩
        refine ⟨_,rfl,?_⟩
        have n0_:=mk_ (st_ (qb_ HB) hb)
        clear HB
        have HB:=n0_
        clear n0_
        (try clear hb)
        (try clear hb2)
        (try clear hk)
        (try clear hi)
        refine hK.out _ _ ⟨((HB.out.cell (wl_ w _ hw137_0)).trans hw137_0),((HB.out.cell (wl_ w _ hw137_1)).trans hw137_1),((HB.out.cell (wl_ w _ hw137_2)).trans hw137_2),((HB.out.cell (wl_ w _ hw138_0)).trans hw138_0),((HB.out.cell (wl_ w _ hw138_1)).trans hw138_1),((HB.out.cell (wl_ w _ hw138_2)).trans hw138_2)⟩ (fun hHeld => ?_)
        clear hK K
        refine norm_ (a':=?_) ?_ ?_
        rotate_left
        ·show Act.put _ (some 25) _ = _
         simp only [Act.put,sx_,sy_,sz_,i64_w,i32_w]
         rfl
        refine pure_ (i:=9) (N:=some 26) (v:=?_) (a':=?_) #[true,true,true,true,true,true,true,true,true,true] rfl rfl (any_of HT_.out (by kernel_rfl)) (fun _ _ _ h => h) (Or.inl ⟨by rfl,?_⟩) ?_ ?_
        rotate_left
        ·intro w'
         go_simp
         with_reducible rfl
        rotate_left
        ·simp only [Act.put,sx_,sy_,sz_,i64_w,i32_w]
         rfl
        refine done_ (done_of HT_.out (by kernel_rfl)) ?_
        try go_wp2
        go_roundg k1
        case measure => have:=HK1.out;omega
        case rel => exact ⟨(wrap64 (x5_1 + 1)),qf_,H',⟨by have:=HK1.out;omega⟩,⟨u2_ HB⟩⟩
       ·replace c8:=Bool.eq_false_iff.mpr c8
        subst c8
        have H1 : (some false) = some r:=by rw [if_neg (show ¬ (false = true) by decide)] at H;exact H
        clear H
        have H:=H1
        clear H1
        obtain rfl:=Option.some.inj H
        try go_wp2
        have n0_:=mk_ (bd_ HB.out)
        clear HB
        have HB:=n0_
        clear n0_
        have p137 : 0 ≤ (x5_1 : Int):=od_ qa_
        have q137 : x5_1 < (l0.length : Int):=od_ qa_
        obtain ⟨ad137,e137,hx137_0,hx137_1,hx137_2⟩:=at_T51 HR0.out x5_1 p137 q137
        have hw137_2:=hx137_2
        have hw137_1:=hx137_1
        have hw137_0:=hx137_0
        cases e137
        replace hx137_0:=(HB.out.cell (wl_ w _ hx137_0)).trans hx137_0
        replace hx137_1:=(HB.out.cell (wl_ w _ hx137_1)).trans hx137_1
        replace hx137_2:=(HB.out.cell (wl_ w _ hx137_2)).trans hx137_2
        replace p137:=eq_true p137
        replace q137:=eq_true q137
        have p138 : 0 ≤ (x5_1 : Int):=od_ qa_
        have q138 : x5_1 < (l1.length : Int):=od_ qa_
        obtain ⟨ad138,e138,hx138_0,hx138_1,hx138_2⟩:=at_T51 HR1.out x5_1 p138 q138
        have hw138_2:=hx138_2
        have hw138_1:=hx138_1
        have hw138_0:=hx138_0
        cases e138
        replace hx138_0:=(HB.out.cell (wl_ w _ hx138_0)).trans hx138_0
        replace hx138_1:=(HB.out.cell (wl_ w _ hx138_1)).trans hx138_1
        replace hx138_2:=(HB.out.cell (wl_ w _ hx138_2)).trans hx138_2
        replace p138:=eq_true p138
        replace q138:=eq_true q138
        refine start_ (n:=10) (S:=fun w' => w'.cell? (ad137.add ((x5_1).toNat * 3)) = some (.int .i64 ((rd_T51 l0 x5_1).f0)) ∧ w'.cell? ⟨(ad137.add ((x5_1).toNat * 3)).block,(ad137.add ((x5_1).toNat * 3)).off + 1,none⟩ = some (.int .i64 ((rd_T51 l0 x5_1).f1)) ∧ w'.cell? ⟨(ad137.add ((x5_1).toNat * 3)).block,(ad137.add ((x5_1).toNat * 3)).off + 2,none⟩ = some (.int .i64 ((rd_T51 l0 x5_1).f2)) ∧ w'.cell? (ad138.add ((x5_1).toNat * 3)) = some (.int .i64 ((rd_T51 l1 x5_1).f0)) ∧ w'.cell? ⟨(ad138.add ((x5_1).toNat * 3)).block,(ad138.add ((x5_1).toNat * 3)).off + 1,none⟩ = some (.int .i64 ((rd_T51 l1 x5_1).f1)) ∧ w'.cell? ⟨(ad138.add ((x5_1).toNat * 3)).block,(ad138.add ((x5_1).toNat * 3)).off + 2,none⟩ = some (.int .i64 ((rd_T51 l1 x5_1).f2))) (ds:=[]) #[false,false,false,false,false,false,false,false,false,false] (by kernel_rfl) rfl rfl ⟨((HB.out.cell (wl_ w _ hw137_0)).trans hw137_0),((HB.out.cell (wl_ w _ hw137_1)).trans hw137_1),((HB.out.cell (wl_ w _ hw137_2)).trans hw137_2),((HB.out.cell (wl_ w _ hw138_0)).trans hw138_0),((HB.out.cell (wl_ w _ hw138_1)).trans hw138_1),((HB.out.cell (wl_ w _ hw138_2)).trans hw138_2)⟩ (fun hHeld => ?_);refine with_tabW laws_eqCableS.tab6 laws_eqCableS.bits6 (fun HT_ HW_ => ?_)
        generalize wr.drew = w11 at HB hx137_0 hx137_1 hx137_2 hx138_0 hx138_1 hx138_2 hHeld ⊢
        refine pure_ (i:=0) (N:=some 17) (v:=?_) (a':=?_) #[true,false,false,false,false,false,false,false,false,false] rfl rfl (any_of HT_.out (by kernel_rfl)) (fun _ _ _ h => h) (Or.inl ⟨by rfl,?_⟩) ?_ ?_
        rotate_left
        ·intro w'
         go_simp
         with_reducible rfl
        rotate_left
        ·simp only [Act.put,sx_,sy_,sz_,i64_w,i32_w]
         rfl
        refine pure_ (i:=1) (N:=some 18) (v:=?_) (a':=?_) #[true,true,false,false,false,false,false,false,false,false] rfl rfl (any_of HT_.out (by kernel_rfl)) (fun _ _ _ h => h) (Or.inl ⟨by rfl,?_⟩) ?_ ?_
        rotate_left
        ·intro w'
         go_simp
         with_reducible rfl
        rotate_left
        ·simp only [Act.put,sx_,sy_,sz_,i64_w,i32_w]
         rfl
        refine pure_ (i:=2) (N:=some 19) (v:=?_) (a':=?_) #[true,true,true,false,false,false,false,false,false,false] rfl rfl (any_of HT_.out (by kernel_rfl)) (fun _ _ _ h => h) (Or.inl ⟨by rfl,?_⟩) ?_ ?_
        rotate_left
        ·intro w'
         go_simp
         with_reducible rfl
        rotate_left
        ·simp only [Act.put,sx_,sy_,sz_,i64_w,i32_w]
         rfl
        refine pure_ (i:=4) (N:=some 21) (v:=?_) (a':=?_) #[true,true,true,false,true,false,false,false,false,false] rfl rfl (any_of HT_.out (by kernel_rfl)) (fun _ _ _ h => h) (Or.inl ⟨by rfl,?_⟩) ?_ ?_
        rotate_left
        ·intro w'
         go_simp
         with_reducible rfl
        rotate_left
        ·simp only [Act.put,sx_,sy_,sz_,i64_w,i32_w]
         rfl
        refine pure_ (i:=5) (N:=some 22) (v:=?_) (a':=?_) #[true,true,true,false,true,true,false,false,false,false] rfl rfl (any_of HT_.out (by kernel_rfl)) (fun _ _ _ h => h) (Or.inl ⟨by rfl,?_⟩) ?_ ?_
        rotate_left
        ·intro w'
         go_simp
         with_reducible rfl
        rotate_left
        ·simp only [Act.put,sx_,sy_,sz_,i64_w,i32_w]
         rfl
        refine pure_ (i:=6) (N:=some 23) (v:=?_) (a':=?_) #[true,true,true,false,true,true,true,false,false,false] rfl rfl (any_of HT_.out (by kernel_rfl)) (fun _ _ _ h => h) (Or.inl ⟨by rfl,?_⟩) ?_ ?_
        rotate_left
        ·intro w'
         go_simp
         with_reducible rfl
        rotate_left
        ·simp only [Act.put,sx_,sy_,sz_,i64_w,i32_w]
         rfl
        refine take_ (i:=3) (N:=some 20) (v:=?_) (a':=?_) #[true,true,true,true,true,true,true,false,false,false] rfl rfl (take_ofW HT_.out HW_.out (by kernel_rfl)) (fun _ _ _ h => h) (Or.inl ⟨by rfl,?_⟩) hHeld ?_ ?_
        rotate_left
        ·rintro w' ⟨s0,s1,s2,s3,s4,s5⟩
         go_simp
         with_reducible rfl
        rotate_left
        ·simp only [Act.put,sx_,sy_,sz_,i64_w,i32_w]
         rfl
        refine take_ (i:=7) (N:=some 24) (v:=?_) (a':=?_) #[true,true,true,true,true,true,true,true,false,false] rfl rfl (take_ofW HT_.out HW_.out (by kernel_rfl)) (fun _ _ _ h => h) (Or.inl ⟨by rfl,?_⟩) hHeld ?_ ?_
        rotate_left
        ·rintro w' ⟨s0,s1,s2,s3,s4,s5⟩
         go_simp
         with_reducible rfl
        rotate_left
        ·simp only [Act.put,sx_,sy_,sz_,i64_w,i32_w]
         rfl
        refine one_ (i:=8) (N:=some 25) #[true,true,true,true,true,true,true,true,true,false] rfl rfl (one_of HT_.out (by kernel_rfl)) (by decide) (fun K hK => ?_)
        refine goes_ Try.func76 (by kernel_rfl) rfl #[.agg #[.int .i64 ((rd_T51 l0 x5_1).f0),.int .i64 ((rd_T51 l0 x5_1).f1),.int .i64 ((rd_T51 l0 x5_1).f2)],.agg #[.int .i64 ((rd_T51 l1 x5_1).f0),.int .i64 ((rd_T51 l1 x5_1).f1),.int .i64 ((rd_T51 l1 x5_1).f2)]] (by rfl) rfl rfl qm_ ?_
        with_reducible refine (laws_eqCable.calls ((rd_T51 l0 x5_1).f0) ((rd_T51 l0 x5_1).f1) ((rd_T51 l0 x5_1).f2) ((rd_T51 l1 x5_1).f0) ((rd_T51 l1 x5_1).f1) ((rd_T51 l1 x5_1).f2) false _ A7.out).mono ?_
        rintro e w12 ⟨rfl,hb⟩
        refine ⟨_,rfl,?_⟩
        have n0_:=mk_ (st_ (qb_ HB) hb)
        clear HB
        have HB:=n0_
        clear n0_
        (try clear hb)
        (try clear hb2)
        (try clear hk)
        (try clear hi)
        refine hK.out _ _ ⟨((HB.out.cell (wl_ w _ hw137_0)).trans hw137_0),((HB.out.cell (wl_ w _ hw137_1)).trans hw137_1),((HB.out.cell (wl_ w _ hw137_2)).trans hw137_2),((HB.out.cell (wl_ w _ hw138_0)).trans hw138_0),((HB.out.cell (wl_ w _ hw138_1)).trans hw138_1),((HB.out.cell (wl_ w _ hw138_2)).trans hw138_2)⟩ (fun hHeld => ?_)
        clear hK K
        refine norm_ (a':=?_) ?_ ?_
        rotate_left
        ·show Act.put _ (some 25) _ = _
         simp only [Act.put,sx_,sy_,sz_,i64_w,i32_w]
         rfl
        refine pure_ (i:=9) (N:=some 26) (v:=?_) (a':=?_) #[true,true,true,true,true,true,true,true,true,true] rfl rfl (any_of HT_.out (by kernel_rfl)) (fun _ _ _ h => h) (Or.inl ⟨by rfl,?_⟩) ?_ ?_
        rotate_left
        ·intro w'
         go_simp
         with_reducible rfl
        rotate_left
        ·simp only [Act.put,sx_,sy_,sz_,i64_w,i32_w]
         rfl
        refine done_ (done_of HT_.out (by kernel_rfl)) ?_
        try go_wp2
        go_ret
        exact ⟨qe_,u2_ HB⟩
      ·rw [if_neg c6] at H
       exact absurd H (by simp)
     ·rw [if_neg c5] at H
      exact absurd H (by simp)
    ·rw [if_neg c4] at H
     have c4b0 : decide (x5_1 < (l0.length : Int)) = false:=decide_eq_false c4
     clear c4
     obtain rfl:=Option.some.inj H
     go_wp2
     go_ret
     exact ⟨qe_,u2_ HB⟩
 ·rw [if_neg c3] at H
  have c3b0 : ((l0.length : Int) == (l1.length : Int)) = false:=beq_eq_false_iff_ne.mpr c3
  have c3b1 : ((l0.length : Int) != (l1.length : Int)) = true:=bne_iff_ne.mpr c3
  have c3b2 : (l0.length == l1.length) = false:=by first|simpa using c3|(simp at c3 ⊢;omega)
  obtain rfl:=Option.some.inj H
  go_enter Try.func50,Try.ntmps50
  go_wp2
  go_ret
  exact ⟨qe_,u2_ HB⟩

/-! ### laws_eqNet: function 16 -/
def laws_eqNet.f (k : Nat) (a0_0 : Int) (l0_1 : List (S51)) (l0_2 : List Int) (l0_3 : List Int) (a1_0 : Int) (l1_1 : List (S51)) (l1_2 : List Int) (l1_3 : List Int) : Option (Bool):=if a0_0 = a1_0 then ((laws_eqCableS.f k l0_1 l1_1).bind fun t142 => (if t142 = true then ((laws_eqIntS.f k l0_2 l1_2).bind fun t143 => (if t143 = true then ((laws_eqIntS.f k l0_3 l1_3).bind fun t144 => (if t144 = true then (some true) else (some false))) else (some false))) else (some false))) else (some false)
theorem laws_eqNet.mono : ∀ a0 a1 a2 a3 a4 a5 a6 a7 k,LeO (laws_eqNet.f k a0 a1 a2 a3 a4 a5 a6 a7) (laws_eqNet.f (k + 1) a0 a1 a2 a3 a4 a5 a6 a7):=by
 intro a0 a1 a2 a3 a4 a5 a6 a7 k
 unfold laws_eqNet.f
 repeat' first
   | (with_reducible exact laws_eqCableS.mono _ _ _)
   | (with_reducible exact laws_eqIntS.mono _ _ _)
   | (with_reducible exact LeO.refl _)
   | (with_reducible exact LeO.none _)
   | (with_reducible refine LeO.ite ?_ ?_)
   | (with_reducible refine LeO.bind ?_ (fun _ => ?_))
   | exact laws_eqCableS.mono _ _ _
   | exact laws_eqIntS.mono _ _ _
   | exact LeO.none _
   | refine LeO.ite ?_ ?_
   | refine LeO.bind ?_ (fun _ => ?_)
set_option maxHeartbeats 8000000 in
set_option maxRecDepth 100000 in
theorem laws_eqNet.calls (k : Nat) (a0_0 : Int) (A0_1 : Option Addr) (c0_1 : Nat) (l0_1 : List (S51)) (A0_2 : Option Addr) (c0_2 : Nat) (l0_2 : List Int) (A0_3 : Option Addr) (c0_3 : Nat) (l0_3 : List Int) (a1_0 : Int) (A1_1 : Option Addr) (c1_1 : Nat) (l1_1 : List (S51)) (A1_2 : Option Addr) (c1_2 : Nat) (l1_2 : List Int) (A1_3 : Option Addr) (c1_3 : Nat) (l1_3 : List Int) (r : Bool) (w : World) (hr0_1 : Kd.C k51 w A0_1 l0_1.length l0_1) (hc0_1 : l0_1.length ≤ c0_1) (hr0_2 : Kd.C (Kd.int .i64) w A0_2 l0_2.length l0_2) (hc0_2 : l0_2.length ≤ c0_2) (hr0_3 : Kd.C (Kd.int .i64) w A0_3 l0_3.length l0_3) (hc0_3 : l0_3.length ≤ c0_3) (hr1_1 : Kd.C k51 w A1_1 l1_1.length l1_1) (hc1_1 : l1_1.length ≤ c1_1) (hr1_2 : Kd.C (Kd.int .i64) w A1_2 l1_2.length l1_2) (hc1_2 : l1_2.length ≤ c1_2) (hr1_3 : Kd.C (Kd.int .i64) w A1_3 l1_3.length l1_3) (hc1_3 : l1_3.length ≤ c1_3) (h : laws_eqNet.f k a0_0 l0_1 l0_2 l0_3 a1_0 l1_1 l1_2 l1_3 = some r) :
  Calls Try.prog 16 #[.agg #[.int .i64 a0_0,.slice A0_1 l0_1.length c0_1,.slice A0_2 l0_2.length c0_2,.slice A0_3 l0_3.length c0_3],.agg #[.int .i64 a1_0,.slice A1_1 l1_1.length c1_1,.slice A1_2 l1_2.length c1_2,.slice A1_3 l1_3.length c1_3]] w fun e w' => e = .returned (.bool r) ∧ Below w.heap.size w w':=by
 have hu30:=Try.underlying30
 have HR0_1:=mk_ hr0_1
 have HC0_1:=mk_ hc0_1
 clear hr0_1 hc0_1
 have HR0_2:=mk_ hr0_2
 have HC0_2:=mk_ hc0_2
 clear hr0_2 hc0_2
 have HR0_3:=mk_ hr0_3
 have HC0_3:=mk_ hc0_3
 clear hr0_3 hc0_3
 have HR1_1:=mk_ hr1_1
 have HC1_1:=mk_ hc1_1
 clear hr1_1 hc1_1
 have HR1_2:=mk_ hr1_2
 have HC1_2:=mk_ hc1_2
 clear hr1_2 hc1_2
 have HR1_3:=mk_ hr1_3
 have HC1_3:=mk_ hc1_3
 clear hr1_3 hc1_3
 have HB:=mk_ (Below.refl w.heap.size w)
 have H : (if a0_0 = a1_0 then ((laws_eqCableS.f k l0_1 l1_1).bind fun t142 => (if t142 = true then ((laws_eqIntS.f k l0_2 l1_2).bind fun t143 => (if t143 = true then ((laws_eqIntS.f k l0_3 l1_3).bind fun t144 => (if t144 = true then (some true) else (some false))) else (some false))) else (some false))) else (some false)) = some r:=h
 clear h
 by_cases c3 : a0_0 = a1_0
 ·rw [if_pos c3] at H
  have c3b0 : (a0_0 == a1_0) = true:=beq_iff_eq.mpr c3
  have c3b1 : (a0_0 != a1_0) = false:=bne_eq_false_iff_eq.mpr c3
  clear c3
  replace H:=Option.bind_eq_some_iff.mp H
  obtain ⟨t142,A40,H⟩:=H
  replace H : (if t142 = true then ((laws_eqIntS.f k l0_2 l1_2).bind fun t143 => (if t143 = true then ((laws_eqIntS.f k l0_3 l1_3).bind fun t144 => (if t144 = true then (some true) else (some false))) else (some false))) else (some false)) = some r:=H
  have A4:=mk_ A40
  clear A40
  by_cases c5 : t142 = true
  ·subst c5
   have H1 : ((laws_eqIntS.f k l0_2 l1_2).bind fun t143 => (if t143 = true then ((laws_eqIntS.f k l0_3 l1_3).bind fun t144 => (if t144 = true then (some true) else (some false))) else (some false))) = some r:=by rw [if_pos rfl] at H;exact H
   clear H
   have H:=H1
   clear H1
   replace H:=Option.bind_eq_some_iff.mp H
   obtain ⟨t143,A60,H⟩:=H
   replace H : (if t143 = true then ((laws_eqIntS.f k l0_3 l1_3).bind fun t144 => (if t144 = true then (some true) else (some false))) else (some false)) = some r:=H
   have A6:=mk_ A60
   clear A60
   by_cases c7 : t143 = true
   ·subst c7
    have H1 : ((laws_eqIntS.f k l0_3 l1_3).bind fun t144 => (if t144 = true then (some true) else (some false))) = some r:=by rw [if_pos rfl] at H;exact H
    clear H
    have H:=H1
    clear H1
    replace H:=Option.bind_eq_some_iff.mp H
    obtain ⟨t144,A80,H⟩:=H
    replace H : (if t144 = true then (some true) else (some false)) = some r:=H
    have A8:=mk_ A80
    clear A80
    by_cases c9 : t144 = true
    ·subst c9
     have H1 : (some true) = some r:=by rw [if_pos rfl] at H;exact H
     clear H
     have H:=H1
     clear H1
     obtain rfl:=Option.some.inj H
     go_enter Try.func16,Try.ntmps16
     go_wp2_with (first|((with_reducible refine gate_dst (N:=2) rfl ?_);refine box_event ?hg (N:=2) ?hd (cs:=#[.int .i64 a0_0,.slice A0_1 l0_1.length c0_1,.slice A0_2 l0_2.length c0_2,.slice A0_3 l0_3.length c0_3]) (t:=30) ?hr ?_;(case hd => rfl);(case hg => rfl);(case hr => first|(go_simp;done)|(go_simp;rfl));intro gb140 hg w10 hbox hb;have n0_:=mk_ (st_ (qb_ HB) hb);have n1_:=mk_ (hbox);have n2_:=mk_ ((by rw [hg];exact (bz_ (qb_ HB)) : w.heap.size ≤ gb140));have n3_:=mk_ ((by rw [hg];exact (bz_ (qb_ HB)) : w.heap.size ≤ gb140));clear HB;have HB:=n0_;have BK140:=n1_;have GW140:=n2_;have GE140:=n3_;clear n0_ n1_ n2_ n3_ hb hbox hg)|((with_reducible refine gate_dst (N:=3) rfl ?_);refine box_event ?hg (N:=3) ?hd (cs:=#[.int .i64 a1_0,.slice A1_1 l1_1.length c1_1,.slice A1_2 l1_2.length c1_2,.slice A1_3 l1_3.length c1_3]) (t:=30) ?hr ?_;(case hd => rfl);(case hg => rfl);(case hr => first|(go_simp;done)|(go_simp;rfl));intro gb141 hg w11 hbox hb;have n0_:=mk_ (blk_below (g:=gb140) (o:=.cells #[.int .i64 a0_0,.slice A0_1 l0_1.length c0_1,.slice A0_2 l0_2.length c0_2,.slice A0_3 l0_3.length c0_3] 30 (0,0)) (qk_ BK140) hb);have n1_:=mk_ (st_ (qc_ HB GE140) hb);have n2_:=mk_ (hbox);have n3_:=mk_ ((by rw [hg];exact (bz_ (qc_ HB GE140)) : w.heap.size ≤ gb141));have n4_:=mk_ ((by rw [hg];exact (bz_ (qc_ HB GE140)) : w.heap.size ≤ gb141));have n5_:=mk_ ((by rw [hg];exact Nat.ne_of_lt (blk_lt (g:=gb140) (o:=.cells #[.int .i64 a0_0,.slice A0_1 l0_1.length c0_1,.slice A0_2 l0_2.length c0_2,.slice A0_3 l0_3.length c0_3] 30 (0,0)) (qk_ BK140)) : gb140 ≠ gb141));have n6_:=mk_ ((by rw [hg];exact Nat.ne_of_gt (blk_lt (g:=gb140) (o:=.cells #[.int .i64 a0_0,.slice A0_1 l0_1.length c0_1,.slice A0_2 l0_2.length c0_2,.slice A0_3 l0_3.length c0_3] 30 (0,0)) (qk_ BK140)) : gb141 ≠ gb140));clear BK140 HB;have BK140:=n0_;have HB:=n1_;have BK141:=n2_;have GW141:=n3_;have GE141:=n4_;have NB140_141:=n5_;have NB141_140:=n6_;clear n0_ n1_ n2_ n3_ n4_ n5_ n6_ hb hbox hg;have hnb12:=NB140_141.out;have hnc12:=NB141_140.out;have hcz13_0 : w11.cell? ⟨gb140,0,none⟩ = some (.int .i64 a0_0):=(bc_ BK140.out 0).trans rfl;have hcz13_1 : w11.cell? ⟨gb140,1,none⟩ = some (.slice A0_1 l0_1.length c0_1):=(bc_ BK140.out 1).trans rfl;have hcz13_2 : w11.cell? ⟨gb140,2,none⟩ = some (.slice A0_2 l0_2.length c0_2):=(bc_ BK140.out 2).trans rfl;have hcz13_3 : w11.cell? ⟨gb140,3,none⟩ = some (.slice A0_3 l0_3.length c0_3):=(bc_ BK140.out 3).trans rfl;have hfz13_0:=bf_ BK140.out 0;have hfz13_1:=bf_ BK140.out 1;have hfz13_2:=bf_ BK140.out 2;have hfz13_3:=bf_ BK140.out 3;have hcz14_0 : w11.cell? ⟨gb141,0,none⟩ = some (.int .i64 a1_0):=(bc_ BK141.out 0).trans rfl;have hcz14_1 : w11.cell? ⟨gb141,1,none⟩ = some (.slice A1_1 l1_1.length c1_1):=(bc_ BK141.out 1).trans rfl;have hcz14_2 : w11.cell? ⟨gb141,2,none⟩ = some (.slice A1_2 l1_2.length c1_2):=(bc_ BK141.out 2).trans rfl;have hcz14_3 : w11.cell? ⟨gb141,3,none⟩ = some (.slice A1_3 l1_3.length c1_3):=(bc_ BK141.out 3).trans rfl;have hfz14_0:=bf_ BK141.out 0;have hfz14_1:=bf_ BK141.out 1;have hfz14_2:=bf_ BK141.out 2;have hfz14_3:=bf_ BK141.out 3)|((with_reducible refine gate_callee (f:=50) rfl ?_);refine goesL_ (some 14) rfl rfl Try.func50 (by kernel_rfl) rfl #[.slice A0_1 l0_1.length c0_1,.slice A1_1 l1_1.length c1_1] rfl qm_ ?_;(with_reducible refine (laws_eqCableS.calls k _ _ l0_1 _ _ l1_1 true _ ?side1 ?side2 ?side3 ?side4 A4.out).mono ?_);(case side1 => exact qn_ HR0_1 HB);(case side2 => exact HC0_1.out);(case side3 => exact qn_ HR1_1 HB);(case side4 => exact HC1_1.out);rintro e w15 ⟨rfl,hb⟩;refine ⟨_,rfl,?_⟩;have n0_:=mk_ (blk_below (g:=gb140) (o:=.cells #[.int .i64 a0_0,.slice A0_1 l0_1.length c0_1,.slice A0_2 l0_2.length c0_2,.slice A0_3 l0_3.length c0_3] 30 (0,0)) (qk_ BK140) hb);have n1_:=mk_ (blk_below (g:=gb141) (o:=.cells #[.int .i64 a1_0,.slice A1_1 l1_1.length c1_1,.slice A1_2 l1_2.length c1_2,.slice A1_3 l1_3.length c1_3] 30 (0,0)) (qk_ BK141) hb);have n2_:=mk_ (st_ (qd_ HB GE140 GE141) hb);clear BK140 BK141 HB;have BK140:=n0_;have BK141:=n1_;have HB:=n2_;clear n0_ n1_ n2_;(try clear hb);(try clear hb2);(try clear hk);(try clear hi);have hcz16_0 : w15.cell? ⟨gb140,0,none⟩ = some (.int .i64 a0_0):=(bc_ BK140.out 0).trans rfl;have hcz16_1 : w15.cell? ⟨gb140,1,none⟩ = some (.slice A0_1 l0_1.length c0_1):=(bc_ BK140.out 1).trans rfl;have hcz16_2 : w15.cell? ⟨gb140,2,none⟩ = some (.slice A0_2 l0_2.length c0_2):=(bc_ BK140.out 2).trans rfl;have hcz16_3 : w15.cell? ⟨gb140,3,none⟩ = some (.slice A0_3 l0_3.length c0_3):=(bc_ BK140.out 3).trans rfl;have hfz16_0:=bf_ BK140.out 0;have hfz16_1:=bf_ BK140.out 1;have hfz16_2:=bf_ BK140.out 2;have hfz16_3:=bf_ BK140.out 3;have hcz17_0 : w15.cell? ⟨gb141,0,none⟩ = some (.int .i64 a1_0):=(bc_ BK141.out 0).trans rfl;have hcz17_1 : w15.cell? ⟨gb141,1,none⟩ = some (.slice A1_1 l1_1.length c1_1):=(bc_ BK141.out 1).trans rfl;have hcz17_2 : w15.cell? ⟨gb141,2,none⟩ = some (.slice A1_2 l1_2.length c1_2):=(bc_ BK141.out 2).trans rfl;have hcz17_3 : w15.cell? ⟨gb141,3,none⟩ = some (.slice A1_3 l1_3.length c1_3):=(bc_ BK141.out 3).trans rfl;have hfz17_0:=bf_ BK141.out 0;have hfz17_1:=bf_ BK141.out 1;have hfz17_2:=bf_ BK141.out 2;have hfz17_3:=bf_ BK141.out 3)|((with_reducible refine gate_callee (f:=22) rfl ?_);refine goesL_ (some 20) rfl rfl Try.func22 (by kernel_rfl) rfl #[.slice A0_2 l0_2.length c0_2,.slice A1_2 l1_2.length c1_2] rfl qm_ ?_;(with_reducible refine (laws_eqIntS.calls k _ _ l0_2 _ _ l1_2 true _ ?side1 ?side2 ?side3 ?side4 A6.out).mono ?_);(case side1 => exact qn_ HR0_2 HB);(case side2 => exact HC0_2.out);(case side3 => exact qn_ HR1_2 HB);(case side4 => exact HC1_2.out);rintro e w' ⟨rfl,⟨nd,rfl⟩⟩;refine ⟨_,rfl,?_⟩)|((with_reducible refine gate_callee (f:=22) rfl ?_);refine goesL_ (some 26) rfl rfl Try.func22 (by kernel_rfl) rfl #[.slice A0_3 l0_3.length c0_3,.slice A1_3 l1_3.length c1_3] rfl qm_ ?_;(with_reducible refine (laws_eqIntS.calls k _ _ l0_3 _ _ l1_3 true _ ?side1 ?side2 ?side3 ?side4 A8.out).mono ?_);(case side1 => repeat (first|exact (cb_ HR0_3.out (qd_ HB GE140 GE141))|(with_reducible refine ca_ ?_ _)|(with_reducible refine cn_ ?_ _)|(with_reducible refine cd_ ?_)));(case side2 => exact HC0_3.out);(case side3 => repeat (first|exact (cb_ HR1_3.out (qd_ HB GE140 GE141))|(with_reducible refine ca_ ?_ _)|(with_reducible refine cn_ ?_ _)|(with_reducible refine cd_ ?_)));(case side4 => exact HC1_3.out);rintro e w' ⟨rfl,⟨nd,rfl⟩⟩;refine ⟨_,rfl,?_⟩))
     go_ret
     exact ⟨qe_,u3_ HB GE140 GE141⟩
    ·replace c9:=Bool.eq_false_iff.mpr c9
     subst c9
     have H1 : (some false) = some r:=by rw [if_neg (show ¬ (false = true) by decide)] at H;exact H
     clear H
     have H:=H1
     clear H1
     obtain rfl:=Option.some.inj H
     go_enter Try.func16,Try.ntmps16
     go_wp2_with (first|((with_reducible refine gate_dst (N:=2) rfl ?_);refine box_event ?hg (N:=2) ?hd (cs:=#[.int .i64 a0_0,.slice A0_1 l0_1.length c0_1,.slice A0_2 l0_2.length c0_2,.slice A0_3 l0_3.length c0_3]) (t:=30) ?hr ?_;(case hd => rfl);(case hg => rfl);(case hr => first|(go_simp;done)|(go_simp;rfl));intro gb140 hg w18 hbox hb;have n0_:=mk_ (st_ (qb_ HB) hb);have n1_:=mk_ (hbox);have n2_:=mk_ ((by rw [hg];exact (bz_ (qb_ HB)) : w.heap.size ≤ gb140));have n3_:=mk_ ((by rw [hg];exact (bz_ (qb_ HB)) : w.heap.size ≤ gb140));clear HB;have HB:=n0_;have BK140:=n1_;have GW140:=n2_;have GE140:=n3_;clear n0_ n1_ n2_ n3_ hb hbox hg)|((with_reducible refine gate_dst (N:=3) rfl ?_);refine box_event ?hg (N:=3) ?hd (cs:=#[.int .i64 a1_0,.slice A1_1 l1_1.length c1_1,.slice A1_2 l1_2.length c1_2,.slice A1_3 l1_3.length c1_3]) (t:=30) ?hr ?_;(case hd => rfl);(case hg => rfl);(case hr => first|(go_simp;done)|(go_simp;rfl));intro gb141 hg w19 hbox hb;have n0_:=mk_ (blk_below (g:=gb140) (o:=.cells #[.int .i64 a0_0,.slice A0_1 l0_1.length c0_1,.slice A0_2 l0_2.length c0_2,.slice A0_3 l0_3.length c0_3] 30 (0,0)) (qk_ BK140) hb);have n1_:=mk_ (st_ (qc_ HB GE140) hb);have n2_:=mk_ (hbox);have n3_:=mk_ ((by rw [hg];exact (bz_ (qc_ HB GE140)) : w.heap.size ≤ gb141));have n4_:=mk_ ((by rw [hg];exact (bz_ (qc_ HB GE140)) : w.heap.size ≤ gb141));have n5_:=mk_ ((by rw [hg];exact Nat.ne_of_lt (blk_lt (g:=gb140) (o:=.cells #[.int .i64 a0_0,.slice A0_1 l0_1.length c0_1,.slice A0_2 l0_2.length c0_2,.slice A0_3 l0_3.length c0_3] 30 (0,0)) (qk_ BK140)) : gb140 ≠ gb141));have n6_:=mk_ ((by rw [hg];exact Nat.ne_of_gt (blk_lt (g:=gb140) (o:=.cells #[.int .i64 a0_0,.slice A0_1 l0_1.length c0_1,.slice A0_2 l0_2.length c0_2,.slice A0_3 l0_3.length c0_3] 30 (0,0)) (qk_ BK140)) : gb141 ≠ gb140));clear BK140 HB;have BK140:=n0_;have HB:=n1_;have BK141:=n2_;have GW141:=n3_;have GE141:=n4_;have NB140_141:=n5_;have NB141_140:=n6_;clear n0_ n1_ n2_ n3_ n4_ n5_ n6_ hb hbox hg;have hnb20:=NB140_141.out;have hnc20:=NB141_140.out;have hcz21_0 : w19.cell? ⟨gb140,0,none⟩ = some (.int .i64 a0_0):=(bc_ BK140.out 0).trans rfl;have hcz21_1 : w19.cell? ⟨gb140,1,none⟩ = some (.slice A0_1 l0_1.length c0_1):=(bc_ BK140.out 1).trans rfl;have hcz21_2 : w19.cell? ⟨gb140,2,none⟩ = some (.slice A0_2 l0_2.length c0_2):=(bc_ BK140.out 2).trans rfl;have hcz21_3 : w19.cell? ⟨gb140,3,none⟩ = some (.slice A0_3 l0_3.length c0_3):=(bc_ BK140.out 3).trans rfl;have hfz21_0:=bf_ BK140.out 0;have hfz21_1:=bf_ BK140.out 1;have hfz21_2:=bf_ BK140.out 2;have hfz21_3:=bf_ BK140.out 3;have hcz22_0 : w19.cell? ⟨gb141,0,none⟩ = some (.int .i64 a1_0):=(bc_ BK141.out 0).trans rfl;have hcz22_1 : w19.cell? ⟨gb141,1,none⟩ = some (.slice A1_1 l1_1.length c1_1):=(bc_ BK141.out 1).trans rfl;have hcz22_2 : w19.cell? ⟨gb141,2,none⟩ = some (.slice A1_2 l1_2.length c1_2):=(bc_ BK141.out 2).trans rfl;have hcz22_3 : w19.cell? ⟨gb141,3,none⟩ = some (.slice A1_3 l1_3.length c1_3):=(bc_ BK141.out 3).trans rfl;have hfz22_0:=bf_ BK141.out 0;have hfz22_1:=bf_ BK141.out 1;have hfz22_2:=bf_ BK141.out 2;have hfz22_3:=bf_ BK141.out 3)|((with_reducible refine gate_callee (f:=50) rfl ?_);refine goesL_ (some 14) rfl rfl Try.func50 (by kernel_rfl) rfl #[.slice A0_1 l0_1.length c0_1,.slice A1_1 l1_1.length c1_1] rfl qm_ ?_;(with_reducible refine (laws_eqCableS.calls k _ _ l0_1 _ _ l1_1 true _ ?side1 ?side2 ?side3 ?side4 A4.out).mono ?_);(case side1 => exact qn_ HR0_1 HB);(case side2 => exact HC0_1.out);(case side3 => exact qn_ HR1_1 HB);(case side4 => exact HC1_1.out);rintro e w23 ⟨rfl,hb⟩;refine ⟨_,rfl,?_⟩;have n0_:=mk_ (blk_below (g:=gb140) (o:=.cells #[.int .i64 a0_0,.slice A0_1 l0_1.length c0_1,.slice A0_2 l0_2.length c0_2,.slice A0_3 l0_3.length c0_3] 30 (0,0)) (qk_ BK140) hb);have n1_:=mk_ (blk_below (g:=gb141) (o:=.cells #[.int .i64 a1_0,.slice A1_1 l1_1.length c1_1,.slice A1_2 l1_2.length c1_2,.slice A1_3 l1_3.length c1_3] 30 (0,0)) (qk_ BK141) hb);have n2_:=mk_ (st_ (qd_ HB GE140 GE141) hb);clear BK140 BK141 HB;have BK140:=n0_;have BK141:=n1_;have HB:=n2_;clear n0_ n1_ n2_;(try clear hb);(try clear hb2);(try clear hk);(try clear hi);have hcz24_0 : w23.cell? ⟨gb140,0,none⟩ = some (.int .i64 a0_0):=(bc_ BK140.out 0).trans rfl;have hcz24_1 : w23.cell? ⟨gb140,1,none⟩ = some (.slice A0_1 l0_1.length c0_1):=(bc_ BK140.out 1).trans rfl;have hcz24_2 : w23.cell? ⟨gb140,2,none⟩ = some (.slice A0_2 l0_2.length c0_2):=(bc_ BK140.out 2).trans rfl;have hcz24_3 : w23.cell? ⟨gb140,3,none⟩ = some (.slice A0_3 l0_3.length c0_3):=(bc_ BK140.out 3).trans rfl;have hfz24_0:=bf_ BK140.out 0;have hfz24_1:=bf_ BK140.out 1;have hfz24_2:=bf_ BK140.out 2;have hfz24_3:=bf_ BK140.out 3;have hcz25_0 : w23.cell? ⟨gb141,0,none⟩ = some (.int .i64 a1_0):=(bc_ BK141.out 0).trans rfl;have hcz25_1 : w23.cell? ⟨gb141,1,none⟩ = some (.slice A1_1 l1_1.length c1_1):=(bc_ BK141.out 1).trans rfl;have hcz25_2 : w23.cell? ⟨gb141,2,none⟩ = some (.slice A1_2 l1_2.length c1_2):=(bc_ BK141.out 2).trans rfl;have hcz25_3 : w23.cell? ⟨gb141,3,none⟩ = some (.slice A1_3 l1_3.length c1_3):=(bc_ BK141.out 3).trans rfl;have hfz25_0:=bf_ BK141.out 0;have hfz25_1:=bf_ BK141.out 1;have hfz25_2:=bf_ BK141.out 2;have hfz25_3:=bf_ BK141.out 3)|((with_reducible refine gate_callee (f:=22) rfl ?_);refine goesL_ (some 20) rfl rfl Try.func22 (by kernel_rfl) rfl #[.slice A0_2 l0_2.length c0_2,.slice A1_2 l1_2.length c1_2] rfl qm_ ?_;(with_reducible refine (laws_eqIntS.calls k _ _ l0_2 _ _ l1_2 true _ ?side1 ?side2 ?side3 ?side4 A6.out).mono ?_);(case side1 => exact qn_ HR0_2 HB);(case side2 => exact HC0_2.out);(case side3 => exact qn_ HR1_2 HB);(case side4 => exact HC1_2.out);rintro e w' ⟨rfl,⟨nd,rfl⟩⟩;refine ⟨_,rfl,?_⟩)|((with_reducible refine gate_callee (f:=22) rfl ?_);refine goesL_ (some 26) rfl rfl Try.func22 (by kernel_rfl) rfl #[.slice A0_3 l0_3.length c0_3,.slice A1_3 l1_3.length c1_3] rfl qm_ ?_;(with_reducible refine (laws_eqIntS.calls k _ _ l0_3 _ _ l1_3 false _ ?side1 ?side2 ?side3 ?side4 A8.out).mono ?_);(case side1 => repeat (first|exact (cb_ HR0_3.out (qd_ HB GE140 GE141))|(with_reducible refine ca_ ?_ _)|(with_reducible refine cn_ ?_ _)|(with_reducible refine cd_ ?_)));(case side2 => exact HC0_3.out);(case side3 => repeat (first|exact (cb_ HR1_3.out (qd_ HB GE140 GE141))|(with_reducible refine ca_ ?_ _)|(with_reducible refine cn_ ?_ _)|(with_reducible refine cd_ ?_)));(case side4 => exact HC1_3.out);rintro e w' ⟨rfl,⟨nd,rfl⟩⟩;refine ⟨_,rfl,?_⟩))
     go_ret
     exact ⟨qe_,u3_ HB GE140 GE141⟩
   ·replace c7:=Bool.eq_false_iff.mpr c7
    subst c7
    have H1 : (some false) = some r:=by rw [if_neg (show ¬ (false = true) by decide)] at H;exact H
    clear H
    have H:=H1
    clear H1
    obtain rfl:=Option.some.inj H
    go_enter Try.func16,Try.ntmps16
    go_wp2_with (first|((with_reducible refine gate_dst (N:=2) rfl ?_);refine box_event ?hg (N:=2) ?hd (cs:=#[.int .i64 a0_0,.slice A0_1 l0_1.length c0_1,.slice A0_2 l0_2.length c0_2,.slice A0_3 l0_3.length c0_3]) (t:=30) ?hr ?_;(case hd => rfl);(case hg => rfl);(case hr => first|(go_simp;done)|(go_simp;rfl));intro gb140 hg w26 hbox hb;have n0_:=mk_ (st_ (qb_ HB) hb);have n1_:=mk_ (hbox);have n2_:=mk_ ((by rw [hg];exact (bz_ (qb_ HB)) : w.heap.size ≤ gb140));have n3_:=mk_ ((by rw [hg];exact (bz_ (qb_ HB)) : w.heap.size ≤ gb140));clear HB;have HB:=n0_;have BK140:=n1_;have GW140:=n2_;have GE140:=n3_;clear n0_ n1_ n2_ n3_ hb hbox hg)|((with_reducible refine gate_dst (N:=3) rfl ?_);refine box_event ?hg (N:=3) ?hd (cs:=#[.int .i64 a1_0,.slice A1_1 l1_1.length c1_1,.slice A1_2 l1_2.length c1_2,.slice A1_3 l1_3.length c1_3]) (t:=30) ?hr ?_;(case hd => rfl);(case hg => rfl);(case hr => first|(go_simp;done)|(go_simp;rfl));intro gb141 hg w27 hbox hb;have n0_:=mk_ (blk_below (g:=gb140) (o:=.cells #[.int .i64 a0_0,.slice A0_1 l0_1.length c0_1,.slice A0_2 l0_2.length c0_2,.slice A0_3 l0_3.length c0_3] 30 (0,0)) (qk_ BK140) hb);have n1_:=mk_ (st_ (qc_ HB GE140) hb);have n2_:=mk_ (hbox);have n3_:=mk_ ((by rw [hg];exact (bz_ (qc_ HB GE140)) : w.heap.size ≤ gb141));have n4_:=mk_ ((by rw [hg];exact (bz_ (qc_ HB GE140)) : w.heap.size ≤ gb141));have n5_:=mk_ ((by rw [hg];exact Nat.ne_of_lt (blk_lt (g:=gb140) (o:=.cells #[.int .i64 a0_0,.slice A0_1 l0_1.length c0_1,.slice A0_2 l0_2.length c0_2,.slice A0_3 l0_3.length c0_3] 30 (0,0)) (qk_ BK140)) : gb140 ≠ gb141));have n6_:=mk_ ((by rw [hg];exact Nat.ne_of_gt (blk_lt (g:=gb140) (o:=.cells #[.int .i64 a0_0,.slice A0_1 l0_1.length c0_1,.slice A0_2 l0_2.length c0_2,.slice A0_3 l0_3.length c0_3] 30 (0,0)) (qk_ BK140)) : gb141 ≠ gb140));clear BK140 HB;have BK140:=n0_;have HB:=n1_;have BK141:=n2_;have GW141:=n3_;have GE141:=n4_;have NB140_141:=n5_;have NB141_140:=n6_;clear n0_ n1_ n2_ n3_ n4_ n5_ n6_ hb hbox hg;have hnb28:=NB140_141.out;have hnc28:=NB141_140.out;have hcz29_0 : w27.cell? ⟨gb140,0,none⟩ = some (.int .i64 a0_0):=(bc_ BK140.out 0).trans rfl;have hcz29_1 : w27.cell? ⟨gb140,1,none⟩ = some (.slice A0_1 l0_1.length c0_1):=(bc_ BK140.out 1).trans rfl;have hcz29_2 : w27.cell? ⟨gb140,2,none⟩ = some (.slice A0_2 l0_2.length c0_2):=(bc_ BK140.out 2).trans rfl;have hcz29_3 : w27.cell? ⟨gb140,3,none⟩ = some (.slice A0_3 l0_3.length c0_3):=(bc_ BK140.out 3).trans rfl;have hfz29_0:=bf_ BK140.out 0;have hfz29_1:=bf_ BK140.out 1;have hfz29_2:=bf_ BK140.out 2;have hfz29_3:=bf_ BK140.out 3;have hcz30_0 : w27.cell? ⟨gb141,0,none⟩ = some (.int .i64 a1_0):=(bc_ BK141.out 0).trans rfl;have hcz30_1 : w27.cell? ⟨gb141,1,none⟩ = some (.slice A1_1 l1_1.length c1_1):=(bc_ BK141.out 1).trans rfl;have hcz30_2 : w27.cell? ⟨gb141,2,none⟩ = some (.slice A1_2 l1_2.length c1_2):=(bc_ BK141.out 2).trans rfl;have hcz30_3 : w27.cell? ⟨gb141,3,none⟩ = some (.slice A1_3 l1_3.length c1_3):=(bc_ BK141.out 3).trans rfl;have hfz30_0:=bf_ BK141.out 0;have hfz30_1:=bf_ BK141.out 1;have hfz30_2:=bf_ BK141.out 2;have hfz30_3:=bf_ BK141.out 3)|((with_reducible refine gate_callee (f:=50) rfl ?_);refine goesL_ (some 14) rfl rfl Try.func50 (by kernel_rfl) rfl #[.slice A0_1 l0_1.length c0_1,.slice A1_1 l1_1.length c1_1] rfl qm_ ?_;(with_reducible refine (laws_eqCableS.calls k _ _ l0_1 _ _ l1_1 true _ ?side1 ?side2 ?side3 ?side4 A4.out).mono ?_);(case side1 => exact qn_ HR0_1 HB);(case side2 => exact HC0_1.out);(case side3 => exact qn_ HR1_1 HB);(case side4 => exact HC1_1.out);rintro e w31 ⟨rfl,hb⟩;refine ⟨_,rfl,?_⟩;have n0_:=mk_ (blk_below (g:=gb140) (o:=.cells #[.int .i64 a0_0,.slice A0_1 l0_1.length c0_1,.slice A0_2 l0_2.length c0_2,.slice A0_3 l0_3.length c0_3] 30 (0,0)) (qk_ BK140) hb);have n1_:=mk_ (blk_below (g:=gb141) (o:=.cells #[.int .i64 a1_0,.slice A1_1 l1_1.length c1_1,.slice A1_2 l1_2.length c1_2,.slice A1_3 l1_3.length c1_3] 30 (0,0)) (qk_ BK141) hb);have n2_:=mk_ (st_ (qd_ HB GE140 GE141) hb);clear BK140 BK141 HB;have BK140:=n0_;have BK141:=n1_;have HB:=n2_;clear n0_ n1_ n2_;(try clear hb);(try clear hb2);(try clear hk);(try clear hi);have hcz32_0 : w31.cell? ⟨gb140,0,none⟩ = some (.int .i64 a0_0):=(bc_ BK140.out 0).trans rfl;have hcz32_1 : w31.cell? ⟨gb140,1,none⟩ = some (.slice A0_1 l0_1.length c0_1):=(bc_ BK140.out 1).trans rfl;have hcz32_2 : w31.cell? ⟨gb140,2,none⟩ = some (.slice A0_2 l0_2.length c0_2):=(bc_ BK140.out 2).trans rfl;have hcz32_3 : w31.cell? ⟨gb140,3,none⟩ = some (.slice A0_3 l0_3.length c0_3):=(bc_ BK140.out 3).trans rfl;have hfz32_0:=bf_ BK140.out 0;have hfz32_1:=bf_ BK140.out 1;have hfz32_2:=bf_ BK140.out 2;have hfz32_3:=bf_ BK140.out 3;have hcz33_0 : w31.cell? ⟨gb141,0,none⟩ = some (.int .i64 a1_0):=(bc_ BK141.out 0).trans rfl;have hcz33_1 : w31.cell? ⟨gb141,1,none⟩ = some (.slice A1_1 l1_1.length c1_1):=(bc_ BK141.out 1).trans rfl;have hcz33_2 : w31.cell? ⟨gb141,2,none⟩ = some (.slice A1_2 l1_2.length c1_2):=(bc_ BK141.out 2).trans rfl;have hcz33_3 : w31.cell? ⟨gb141,3,none⟩ = some (.slice A1_3 l1_3.length c1_3):=(bc_ BK141.out 3).trans rfl;have hfz33_0:=bf_ BK141.out 0;have hfz33_1:=bf_ BK141.out 1;have hfz33_2:=bf_ BK141.out 2;have hfz33_3:=bf_ BK141.out 3)|((with_reducible refine gate_callee (f:=22) rfl ?_);refine goesL_ (some 20) rfl rfl Try.func22 (by kernel_rfl) rfl #[.slice A0_2 l0_2.length c0_2,.slice A1_2 l1_2.length c1_2] rfl qm_ ?_;(with_reducible refine (laws_eqIntS.calls k _ _ l0_2 _ _ l1_2 false _ ?side1 ?side2 ?side3 ?side4 A6.out).mono ?_);(case side1 => exact qn_ HR0_2 HB);(case side2 => exact HC0_2.out);(case side3 => exact qn_ HR1_2 HB);(case side4 => exact HC1_2.out);rintro e w' ⟨rfl,⟨nd,rfl⟩⟩;refine ⟨_,rfl,?_⟩))
    go_ret
    exact ⟨qe_,u3_ HB GE140 GE141⟩
  ·replace c5:=Bool.eq_false_iff.mpr c5
   subst c5
   have H1 : (some false) = some r:=by rw [if_neg (show ¬ (false = true) by decide)] at H;exact H
   clear H
   have H:=H1
   clear H1
   obtain rfl:=Option.some.inj H
   go_enter Try.func16,Try.ntmps16
   go_wp2_with (first|((with_reducible refine gate_dst (N:=2) rfl ?_);refine box_event ?hg (N:=2) ?hd (cs:=#[.int .i64 a0_0,.slice A0_1 l0_1.length c0_1,.slice A0_2 l0_2.length c0_2,.slice A0_3 l0_3.length c0_3]) (t:=30) ?hr ?_;(case hd => rfl);(case hg => rfl);(case hr => first|(go_simp;done)|(go_simp;rfl));intro gb140 hg w34 hbox hb;have n0_:=mk_ (st_ (qb_ HB) hb);have n1_:=mk_ (hbox);have n2_:=mk_ ((by rw [hg];exact (bz_ (qb_ HB)) : w.heap.size ≤ gb140));have n3_:=mk_ ((by rw [hg];exact (bz_ (qb_ HB)) : w.heap.size ≤ gb140));clear HB;have HB:=n0_;have BK140:=n1_;have GW140:=n2_;have GE140:=n3_;clear n0_ n1_ n2_ n3_ hb hbox hg)|((with_reducible refine gate_dst (N:=3) rfl ?_);refine box_event ?hg (N:=3) ?hd (cs:=#[.int .i64 a1_0,.slice A1_1 l1_1.length c1_1,.slice A1_2 l1_2.length c1_2,.slice A1_3 l1_3.length c1_3]) (t:=30) ?hr ?_;(case hd => rfl);(case hg => rfl);(case hr => first|(go_simp;done)|(go_simp;rfl));intro gb141 hg w35 hbox hb;have n0_:=mk_ (blk_below (g:=gb140) (o:=.cells #[.int .i64 a0_0,.slice A0_1 l0_1.length c0_1,.slice A0_2 l0_2.length c0_2,.slice A0_3 l0_3.length c0_3] 30 (0,0)) (qk_ BK140) hb);have n1_:=mk_ (st_ (qc_ HB GE140) hb);have n2_:=mk_ (hbox);have n3_:=mk_ ((by rw [hg];exact (bz_ (qc_ HB GE140)) : w.heap.size ≤ gb141));have n4_:=mk_ ((by rw [hg];exact (bz_ (qc_ HB GE140)) : w.heap.size ≤ gb141));have n5_:=mk_ ((by rw [hg];exact Nat.ne_of_lt (blk_lt (g:=gb140) (o:=.cells #[.int .i64 a0_0,.slice A0_1 l0_1.length c0_1,.slice A0_2 l0_2.length c0_2,.slice A0_3 l0_3.length c0_3] 30 (0,0)) (qk_ BK140)) : gb140 ≠ gb141));have n6_:=mk_ ((by rw [hg];exact Nat.ne_of_gt (blk_lt (g:=gb140) (o:=.cells #[.int .i64 a0_0,.slice A0_1 l0_1.length c0_1,.slice A0_2 l0_2.length c0_2,.slice A0_3 l0_3.length c0_3] 30 (0,0)) (qk_ BK140)) : gb141 ≠ gb140));clear BK140 HB;have BK140:=n0_;have HB:=n1_;have BK141:=n2_;have GW141:=n3_;have GE141:=n4_;have NB140_141:=n5_;have NB141_140:=n6_;clear n0_ n1_ n2_ n3_ n4_ n5_ n6_ hb hbox hg;have hnb36:=NB140_141.out;have hnc36:=NB141_140.out;have hcz37_0 : w35.cell? ⟨gb140,0,none⟩ = some (.int .i64 a0_0):=(bc_ BK140.out 0).trans rfl;have hcz37_1 : w35.cell? ⟨gb140,1,none⟩ = some (.slice A0_1 l0_1.length c0_1):=(bc_ BK140.out 1).trans rfl;have hcz37_2 : w35.cell? ⟨gb140,2,none⟩ = some (.slice A0_2 l0_2.length c0_2):=(bc_ BK140.out 2).trans rfl;have hcz37_3 : w35.cell? ⟨gb140,3,none⟩ = some (.slice A0_3 l0_3.length c0_3):=(bc_ BK140.out 3).trans rfl;have hfz37_0:=bf_ BK140.out 0;have hfz37_1:=bf_ BK140.out 1;have hfz37_2:=bf_ BK140.out 2;have hfz37_3:=bf_ BK140.out 3;have hcz38_0 : w35.cell? ⟨gb141,0,none⟩ = some (.int .i64 a1_0):=(bc_ BK141.out 0).trans rfl;have hcz38_1 : w35.cell? ⟨gb141,1,none⟩ = some (.slice A1_1 l1_1.length c1_1):=(bc_ BK141.out 1).trans rfl;have hcz38_2 : w35.cell? ⟨gb141,2,none⟩ = some (.slice A1_2 l1_2.length c1_2):=(bc_ BK141.out 2).trans rfl;have hcz38_3 : w35.cell? ⟨gb141,3,none⟩ = some (.slice A1_3 l1_3.length c1_3):=(bc_ BK141.out 3).trans rfl;have hfz38_0:=bf_ BK141.out 0;have hfz38_1:=bf_ BK141.out 1;have hfz38_2:=bf_ BK141.out 2;have hfz38_3:=bf_ BK141.out 3)|((with_reducible refine gate_callee (f:=50) rfl ?_);refine goesL_ (some 14) rfl rfl Try.func50 (by kernel_rfl) rfl #[.slice A0_1 l0_1.length c0_1,.slice A1_1 l1_1.length c1_1] rfl qm_ ?_;(with_reducible refine (laws_eqCableS.calls k _ _ l0_1 _ _ l1_1 false _ ?side1 ?side2 ?side3 ?side4 A4.out).mono ?_);(case side1 => exact qn_ HR0_1 HB);(case side2 => exact HC0_1.out);(case side3 => exact qn_ HR1_1 HB);(case side4 => exact HC1_1.out);rintro e w39 ⟨rfl,hb⟩;refine ⟨_,rfl,?_⟩;have n0_:=mk_ (blk_below (g:=gb140) (o:=.cells #[.int .i64 a0_0,.slice A0_1 l0_1.length c0_1,.slice A0_2 l0_2.length c0_2,.slice A0_3 l0_3.length c0_3] 30 (0,0)) (qk_ BK140) hb);have n1_:=mk_ (blk_below (g:=gb141) (o:=.cells #[.int .i64 a1_0,.slice A1_1 l1_1.length c1_1,.slice A1_2 l1_2.length c1_2,.slice A1_3 l1_3.length c1_3] 30 (0,0)) (qk_ BK141) hb);have n2_:=mk_ (st_ (qd_ HB GE140 GE141) hb);clear BK140 BK141 HB;have BK140:=n0_;have BK141:=n1_;have HB:=n2_;clear n0_ n1_ n2_;(try clear hb);(try clear hb2);(try clear hk);(try clear hi)))
   go_ret
   exact ⟨qe_,u3_ HB GE140 GE141⟩
 ·rw [if_neg c3] at H
  have c3b0 : (a0_0 == a1_0) = false:=beq_eq_false_iff_ne.mpr c3
  have c3b1 : (a0_0 != a1_0) = true:=bne_iff_ne.mpr c3
  obtain rfl:=Option.some.inj H
  go_enter Try.func16,Try.ntmps16
  go_wp2_with (first|((with_reducible refine gate_dst (N:=2) rfl ?_);refine box_event ?hg (N:=2) ?hd (cs:=#[.int .i64 a0_0,.slice A0_1 l0_1.length c0_1,.slice A0_2 l0_2.length c0_2,.slice A0_3 l0_3.length c0_3]) (t:=30) ?hr ?_;(case hd => rfl);(case hg => rfl);(case hr => first|(go_simp;done)|(go_simp;rfl));intro gb140 hg w40 hbox hb;have n0_:=mk_ (st_ (qb_ HB) hb);have n1_:=mk_ (hbox);have n2_:=mk_ ((by rw [hg];exact (bz_ (qb_ HB)) : w.heap.size ≤ gb140));have n3_:=mk_ ((by rw [hg];exact (bz_ (qb_ HB)) : w.heap.size ≤ gb140));clear HB;have HB:=n0_;have BK140:=n1_;have GW140:=n2_;have GE140:=n3_;clear n0_ n1_ n2_ n3_ hb hbox hg)|((with_reducible refine gate_dst (N:=3) rfl ?_);refine box_event ?hg (N:=3) ?hd (cs:=#[.int .i64 a1_0,.slice A1_1 l1_1.length c1_1,.slice A1_2 l1_2.length c1_2,.slice A1_3 l1_3.length c1_3]) (t:=30) ?hr ?_;(case hd => rfl);(case hg => rfl);(case hr => first|(go_simp;done)|(go_simp;rfl));intro gb141 hg w41 hbox hb;have n0_:=mk_ (blk_below (g:=gb140) (o:=.cells #[.int .i64 a0_0,.slice A0_1 l0_1.length c0_1,.slice A0_2 l0_2.length c0_2,.slice A0_3 l0_3.length c0_3] 30 (0,0)) (qk_ BK140) hb);have n1_:=mk_ (st_ (qc_ HB GE140) hb);have n2_:=mk_ (hbox);have n3_:=mk_ ((by rw [hg];exact (bz_ (qc_ HB GE140)) : w.heap.size ≤ gb141));have n4_:=mk_ ((by rw [hg];exact (bz_ (qc_ HB GE140)) : w.heap.size ≤ gb141));have n5_:=mk_ ((by rw [hg];exact Nat.ne_of_lt (blk_lt (g:=gb140) (o:=.cells #[.int .i64 a0_0,.slice A0_1 l0_1.length c0_1,.slice A0_2 l0_2.length c0_2,.slice A0_3 l0_3.length c0_3] 30 (0,0)) (qk_ BK140)) : gb140 ≠ gb141));have n6_:=mk_ ((by rw [hg];exact Nat.ne_of_gt (blk_lt (g:=gb140) (o:=.cells #[.int .i64 a0_0,.slice A0_1 l0_1.length c0_1,.slice A0_2 l0_2.length c0_2,.slice A0_3 l0_3.length c0_3] 30 (0,0)) (qk_ BK140)) : gb141 ≠ gb140));clear BK140 HB;have BK140:=n0_;have HB:=n1_;have BK141:=n2_;have GW141:=n3_;have GE141:=n4_;have NB140_141:=n5_;have NB141_140:=n6_;clear n0_ n1_ n2_ n3_ n4_ n5_ n6_ hb hbox hg;have hnb42:=NB140_141.out;have hnc42:=NB141_140.out;have hcz43_0 : w41.cell? ⟨gb140,0,none⟩ = some (.int .i64 a0_0):=(bc_ BK140.out 0).trans rfl;have hcz43_1 : w41.cell? ⟨gb140,1,none⟩ = some (.slice A0_1 l0_1.length c0_1):=(bc_ BK140.out 1).trans rfl;have hcz43_2 : w41.cell? ⟨gb140,2,none⟩ = some (.slice A0_2 l0_2.length c0_2):=(bc_ BK140.out 2).trans rfl;have hcz43_3 : w41.cell? ⟨gb140,3,none⟩ = some (.slice A0_3 l0_3.length c0_3):=(bc_ BK140.out 3).trans rfl;have hfz43_0:=bf_ BK140.out 0;have hfz43_1:=bf_ BK140.out 1;have hfz43_2:=bf_ BK140.out 2;have hfz43_3:=bf_ BK140.out 3;have hcz44_0 : w41.cell? ⟨gb141,0,none⟩ = some (.int .i64 a1_0):=(bc_ BK141.out 0).trans rfl;have hcz44_1 : w41.cell? ⟨gb141,1,none⟩ = some (.slice A1_1 l1_1.length c1_1):=(bc_ BK141.out 1).trans rfl;have hcz44_2 : w41.cell? ⟨gb141,2,none⟩ = some (.slice A1_2 l1_2.length c1_2):=(bc_ BK141.out 2).trans rfl;have hcz44_3 : w41.cell? ⟨gb141,3,none⟩ = some (.slice A1_3 l1_3.length c1_3):=(bc_ BK141.out 3).trans rfl;have hfz44_0:=bf_ BK141.out 0;have hfz44_1:=bf_ BK141.out 1;have hfz44_2:=bf_ BK141.out 2;have hfz44_3:=bf_ BK141.out 3))
  go_ret
  exact ⟨qe_,u3_ HB GE140 GE141⟩

/-! ### laws_markIntS: function 24 -/
def laws_markIntS.l0 : Nat → List Int → Int → Int → Option (Int × List Int)
 | 0,_,_,_ => none
 | k + 1,x0,x1,x5 => if x5 < (x0.length : Int) then (if 0 ≤ x5 then (laws_markIntS.l0 k (x0.set (x5 : Int).toNat x1) (wrap64 (x1 + 1)) (wrap64 (x5 + 1))) else (none)) else (some (x1,x0))
def laws_markIntS.f (k : Nat) (l0 : List Int) (a1 : Int) : Option (Int × List Int):=laws_markIntS.l0 k l0 a1 0
theorem laws_markIntS.mono_l : ∀ k,(∀ y0 y1 y2,LeO (laws_markIntS.l0 k y0 y1 y2) (laws_markIntS.l0 (k + 1) y0 y1 y2))
 | 0 => fun _ _ _ r h => by simp [laws_markIntS.l0] at h
 | k + 1 => by
  have ih0:=laws_markIntS.mono_l k
  ·intro y0 y1 y2
   unfold laws_markIntS.l0
   repeat' first
   | (with_reducible exact ih0 _ _ _)
   | (with_reducible exact LeO.refl _)
   | (with_reducible exact LeO.none _)
   | (with_reducible refine LeO.ite ?_ ?_)
   | (with_reducible refine LeO.bind ?_ (fun _ => ?_))
   | exact ih0 _ _ _
   | exact LeO.none _
   | refine LeO.ite ?_ ?_
   | refine LeO.bind ?_ (fun _ => ?_)
theorem laws_markIntS.mono : ∀ a0 a1 k,LeO (laws_markIntS.f k a0 a1) (laws_markIntS.f (k + 1) a0 a1):=by
 intro a0 a1 k
 have ih0:=laws_markIntS.mono_l k
 unfold laws_markIntS.f
 repeat' first
   | (with_reducible exact ih0 _ _ _)
   | (with_reducible exact LeO.refl _)
   | (with_reducible exact LeO.none _)
   | (with_reducible refine LeO.ite ?_ ?_)
   | (with_reducible refine LeO.bind ?_ (fun _ => ?_))
   | exact ih0 _ _ _
   | exact LeO.none _
   | refine LeO.ite ?_ ?_
   | refine LeO.bind ?_ (fun _ => ?_)
set_option maxHeartbeats 8000000 in
set_option maxRecDepth 100000 in
theorem laws_markIntS.calls (k : Nat) (P0_ : Nat → Prop) (u9000_ : Value) (l0 : List Int) (a1 : Int) (r1 : Int) (r2 : List Int) (w0 w : World) (hB : Below w0.heap.size w0 w) (ho0 : Kd.R (Kd.int .i64) 3 w w0.heap.size P0_ u9000_ l0) (h : laws_markIntS.f k l0 a1 = some (r1,r2)) :
  Calls Try.prog 24 #[u9000_,.int .i64 a1] w fun e w' => e = .returned (.int .i64 r1) ∧ Kd.R (Kd.int .i64) 3 w' w0.heap.size (fun k_ => (P0_ k_ ∨ w.heap.size ≤ k_)) u9000_ r2 ∧ Below w0.heap.size w0 w' ∧ Kept w w' (fun k_ => P0_ k_):=by
 have HO0:=mk_ (show Kd.R (Kd.int .i64) 3 w w0.heap.size (fun k_ => (P0_ k_ ∨ w.heap.size ≤ k_)) u9000_ l0 from rm_ ho0 (fun k_ hk => (.inl hk)))
 have HK:=mk_ (Kept.refl w (fun k_ => P0_ k_))
 have HW0:=mk_ hB.size
 have HB:=mk_ hB
 clear hB
 have H : (laws_markIntS.l0 k l0 a1 0) = some (r1,r2):=h
 clear h
 have H':=mk_ H
 clear H
 go_enter Try.func24,Try.ntmps24
 go_wp2
 go_loopg [1,5] k (fun kq v1 v5 w' => ∃ (x0_1 : List Int) (x1_1 : Int) (x5_1 : Int),v1 = .int .i64 x1_1 ∧ v5 = .int .i64 x5_1 ∧ Aside0 (laws_markIntS.l0 kq x0_1 x1_1 x5_1 = some (r1,r2)) ∧ Aside0 (kq ≤ k) ∧ Aside0 (Kd.R (Kd.int .i64) 3 w' w0.heap.size (fun k_ => (P0_ k_ ∨ w.heap.size ≤ k_)) u9000_ x0_1) ∧ Aside0 (Kept w w' (fun k_ => P0_ k_)) ∧ Aside0 (Below w0.heap.size w0 w'))
 case atStart => exact ⟨(l0),(a1),(0),qf_,qf_,H',⟨Nat.le_refl _⟩,⟨qr_ HO0⟩,⟨u4_ HK⟩,⟨u2_ HB⟩⟩
 case round =>
  clear H'
  try clear c2
  try clear p2
  obtain ⟨x0_1,x1_1,x5_1,rfl,rfl,HA,HK1,HO_0,HK,HB⟩:=hrel
  cases gk with
  | zero => exact absurd HA.out (by simp [laws_markIntS.l0])
  | succ k1 =>
   have H:=HA.out
   clear HA
   simp only [laws_markIntS.l0] at H
   by_cases c3 : x5_1 < (x0_1.length : Int)
   ·rw [if_pos c3] at H
    have c3b0 : decide (x5_1 < (x0_1.length : Int)) = true:=decide_eq_true c3
    clear c3
    by_cases c4 : 0 ≤ x5_1
    ·rw [if_pos c4] at H
     have c4b0 : decide (0 ≤ x5_1) = true:=decide_eq_true c4
     clear c4
     obtain ⟨y145,hy145⟩ : ∃ y_ : List Int,y_ = (x0_1.set (x5_1 : Int).toNat x1_1):=⟨_,rfl⟩
     replace H : (laws_markIntS.l0 k1 y145 (wrap64 (x1_1 + 1)) (wrap64 (x5_1 + 1))) = some (r1,r2):=by first|(rw [hy145];with_reducible exact H)|(have H2_:=(Option.bind_some _ _).symm.trans H;rw [hy145];with_reducible exact H2_)|(have H2_:=(Option.bind_some _ _).symm.trans H;with_reducible exact H2_)|with_reducible exact H|(rw [hy145];exact H)|exact H
     have Ny145:=mk_ hy145
     clear hy145
     have H':=mk_ H
     clear H
     obtain ⟨Ao6,co6,eo6⟩:=Kd.R_slice HO_0.out
     subst eo6
     have p5 : 0 ≤ (x5_1 : Int):=od_ qa_
     have q5 : (x5_1 : Int) < ((x0_1.length : Int) : Int):=od_ qa_
     obtain ⟨go5,co5,eo5,gb5,gl5,cl5,HG5⟩:=Kd.R_form HO_0.out (by omega)
     (first|cases eo5|(injection eo5 with ea_ en_ ec_;(first|subst ea_|(injection ea_ with ea_;subst ea_));subst ec_;clear en_))
     have GB5:=mk_ gb5
     have GG5:=mk_ HG5
     clear gb5 gl5 HG5
     have HMgo5:=mk_ (show (P0_ go5 ∨ w.heap.size ≤ go5) from (HO_0.out.1 _ rfl))
     obtain ⟨hx5_0,hf5_0⟩:=Kd.R_celln 0 HO_0.out (x5_1 : Int) p5 q5
     replace p5:=eq_true p5
     replace q5:=eq_true q5
     have HP7:=Kd.R_putg HO_0.out (x5_1 : Int) x1_1
     go_wp2_with (first|((with_reducible refine gate_store (t:=3) (p:=15) rfl ?_);refine store_event (t:=3) (p:=15) (v:=?vo_w8) (w1:=(wr.setCell ⟨go5,(x5_1 : Int).toNat,none⟩ (.int .i64 x1_1))) ?hg ?ho ?hn ?hr ?_;(case ho => rfl);(case hg => rfl);(case hn => rfl);(case hr => first|(go_simp;done)|(go_simp;rfl));intro w8 hw;have hg : wr.grownBy w8 (some go5):=(by rw [hw];exact HP7.2);have hp_ : Kd.R (Kd.int .i64) 3 w8 w0.heap.size (fun k_ => (P0_ k_ ∨ w.heap.size ≤ k_)) (.slice (some ⟨go5,0,none⟩) x0_1.length co6) y145:=(by rw [hw,Ny145.out];exact HP7.1);clear HP7;have n0_:=mk_ (hp_);have n1_:=mk_ ((by rw [hw];exact bs_ (HB.out) GB5.out : Below w0.heap.size w0 w8));have n2_:=mk_ (Kept.of_grown (S:=(fun k_ => P0_ k_)) hg (u4_ HK) (fun k_ e_ => (HO_0.out.1 k_ e_)));clear HO_0 HB HK;have HO_0:=n0_;have HB:=n1_;have HK:=n2_;clear n0_ n1_ n2_ hg hw hp_))
     go_roundg k1
     case measure => have:=HK1.out;omega
     case rel => exact ⟨(y145),(wrap64 (x1_1 + 1)),(wrap64 (x5_1 + 1)),qf_,qf_,H',⟨by have:=HK1.out;omega⟩,⟨qr_ HO_0⟩,⟨u4_ HK⟩,⟨u2_ HB⟩⟩
    ·rw [if_neg c4] at H
     exact absurd H (by simp)
   ·rw [if_neg c3] at H
    have c3b0 : decide (x5_1 < (x0_1.length : Int)) = false:=decide_eq_false c3
    clear c3
    simp only [Option.some.injEq,Prod.mk.injEq] at H
    obtain ⟨rfl,rfl⟩:=H
    obtain ⟨Ao9,co9,eo9⟩:=Kd.R_slice HO_0.out
    subst eo9
    go_wp2
    go_ret
    exact ⟨qe_,qr_ HO_0,u2_ HB,u4_ HK⟩

/-! ### laws_markCableS: function 58 -/
def laws_markCableS.l0 : Nat → List (S51) → Int → Int → Option (Int × (List (S51)))
 | 0,_,_,_ => none
 | k + 1,x0,x1,x5 => if x5 < (x0.length : Int) then (if 0 ≤ x5 then ((some (x0.set (x5 : Int).toNat (⟨x1,(rd_T51 x0 x5).f1,(rd_T51 x0 x5).f2⟩ : S51) : List (S51))).bind fun y146 => ((some (y146.set (x5 : Int).toNat (⟨(rd_T51 y146 x5).f0,wrap64 (x1 + 1),(rd_T51 y146 x5).f2⟩ : S51) : List (S51))).bind fun y147 => (laws_markCableS.l0 k (y147.set (x5 : Int).toNat (⟨(rd_T51 y147 x5).f0,(rd_T51 y147 x5).f1,wrap64 ((wrap64 (x1 + 1)) + 1)⟩ : S51)) (wrap64 ((wrap64 ((wrap64 (x1 + 1)) + 1)) + 1)) (wrap64 (x5 + 1))))) else (none)) else (some (x1,x0))
def laws_markCableS.f (k : Nat) (l0 : List (S51)) (a1 : Int) : Option (Int × (List (S51))):=laws_markCableS.l0 k l0 a1 0
theorem laws_markCableS.mono_l : ∀ k,(∀ y0 y1 y2,LeO (laws_markCableS.l0 k y0 y1 y2) (laws_markCableS.l0 (k + 1) y0 y1 y2))
 | 0 => fun _ _ _ r h => by simp [laws_markCableS.l0] at h
 | k + 1 => by
  have ih0:=laws_markCableS.mono_l k
  ·intro y0 y1 y2
   unfold laws_markCableS.l0
   repeat' first
   | (with_reducible exact ih0 _ _ _)
   | (with_reducible exact LeO.refl _)
   | (with_reducible exact LeO.none _)
   | (with_reducible refine LeO.ite ?_ ?_)
   | (with_reducible refine LeO.bind ?_ (fun _ => ?_))
   | exact ih0 _ _ _
   | exact LeO.none _
   | refine LeO.ite ?_ ?_
   | refine LeO.bind ?_ (fun _ => ?_)
theorem laws_markCableS.mono : ∀ a0 a1 k,LeO (laws_markCableS.f k a0 a1) (laws_markCableS.f (k + 1) a0 a1):=by
 intro a0 a1 k
 have ih0:=laws_markCableS.mono_l k
 unfold laws_markCableS.f
 repeat' first
   | (with_reducible exact ih0 _ _ _)
   | (with_reducible exact LeO.refl _)
   | (with_reducible exact LeO.none _)
   | (with_reducible refine LeO.ite ?_ ?_)
   | (with_reducible refine LeO.bind ?_ (fun _ => ?_))
   | exact ih0 _ _ _
   | exact LeO.none _
   | refine LeO.ite ?_ ?_
   | refine LeO.bind ?_ (fun _ => ?_)
set_option maxHeartbeats 8000000 in
set_option maxRecDepth 100000 in
theorem laws_markCableS.calls (k : Nat) (P0_ : Nat → Prop) (u9000_ : Value) (l0 : List (S51)) (a1 : Int) (r1 : Int) (r2 : List (S51)) (w0 w : World) (hB : Below w0.heap.size w0 w) (ho0 : Kd.R k51 51 w w0.heap.size P0_ u9000_ l0) (h : laws_markCableS.f k l0 a1 = some (r1,r2)) :
  Calls Try.prog 58 #[u9000_,.int .i64 a1] w fun e w' => e = .returned (.int .i64 r1) ∧ Kd.R k51 51 w' w0.heap.size (fun k_ => (P0_ k_ ∨ w.heap.size ≤ k_)) u9000_ r2 ∧ Below w0.heap.size w0 w' ∧ Kept w w' (fun k_ => P0_ k_):=by
 have HO0:=mk_ (show Kd.R k51 51 w w0.heap.size (fun k_ => (P0_ k_ ∨ w.heap.size ≤ k_)) u9000_ l0 from rm_ ho0 (fun k_ hk => (.inl hk)))
 have HK:=mk_ (Kept.refl w (fun k_ => P0_ k_))
 have HW0:=mk_ hB.size
 have HB:=mk_ hB
 clear hB
 have H : (laws_markCableS.l0 k l0 a1 0) = some (r1,r2):=h
 clear h
 have H':=mk_ H
 clear H
 go_enter Try.func58,Try.ntmps58
 go_wp2
 go_loopg [1,5] k (fun kq v1 v5 w' => ∃ (x0_1 : List (S51)) (x1_1 : Int) (x5_1 : Int),v1 = .int .i64 x1_1 ∧ v5 = .int .i64 x5_1 ∧ Aside0 (laws_markCableS.l0 kq x0_1 x1_1 x5_1 = some (r1,r2)) ∧ Aside0 (kq ≤ k) ∧ Aside0 (Kd.R k51 51 w' w0.heap.size (fun k_ => (P0_ k_ ∨ w.heap.size ≤ k_)) u9000_ x0_1) ∧ Aside0 (Kept w w' (fun k_ => P0_ k_)) ∧ Aside0 (Below w0.heap.size w0 w'))
 case atStart => exact ⟨(l0),(a1),(0),qf_,qf_,H',⟨Nat.le_refl _⟩,⟨qr_ HO0⟩,⟨u4_ HK⟩,⟨u2_ HB⟩⟩
 case round =>
  clear H'
  try clear p2
  obtain ⟨x0_1,x1_1,x5_1,rfl,rfl,HA,HK1,HO_0,HK,HB⟩:=hrel
  cases gk with
  | zero => exact absurd HA.out (by simp [laws_markCableS.l0])
  | succ k1 =>
   have H:=HA.out
   clear HA
   simp only [laws_markCableS.l0] at H
   by_cases c3 : x5_1 < (x0_1.length : Int)
   ·rw [if_pos c3] at H
    have c3b0 : decide (x5_1 < (x0_1.length : Int)) = true:=decide_eq_true c3
    clear c3
    by_cases c4 : 0 ≤ x5_1
    ·rw [if_pos c4] at H
     have c4b0 : decide (0 ≤ x5_1) = true:=decide_eq_true c4
     clear c4
     obtain ⟨y146,hy146⟩ : ∃ y_ : List (S51),y_ = (x0_1.set (x5_1 : Int).toNat (⟨x1_1,(rd_T51 x0_1 x5_1).f1,(rd_T51 x0_1 x5_1).f2⟩ : S51)):=⟨_,rfl⟩
     replace H : ((some (y146.set (x5_1 : Int).toNat (⟨(rd_T51 y146 x5_1).f0,wrap64 (x1_1 + 1),(rd_T51 y146 x5_1).f2⟩ : S51) : List (S51))).bind fun y147 => (laws_markCableS.l0 k1 (y147.set (x5_1 : Int).toNat (⟨(rd_T51 y147 x5_1).f0,(rd_T51 y147 x5_1).f1,wrap64 ((wrap64 (x1_1 + 1)) + 1)⟩ : S51)) (wrap64 ((wrap64 ((wrap64 (x1_1 + 1)) + 1)) + 1)) (wrap64 (x5_1 + 1)))) = some (r1,r2):=by first|(rw [hy146];with_reducible exact H)|(have H2_:=(Option.bind_some _ _).symm.trans H;rw [hy146];with_reducible exact H2_)|(have H2_:=(Option.bind_some _ _).symm.trans H;with_reducible exact H2_)|with_reducible exact H|(rw [hy146];exact H)|exact H
     have Ny146:=mk_ hy146
     clear hy146
     obtain ⟨y147,hy147⟩ : ∃ y_ : List (S51),y_ = (y146.set (x5_1 : Int).toNat (⟨(rd_T51 y146 x5_1).f0,wrap64 (x1_1 + 1),(rd_T51 y146 x5_1).f2⟩ : S51)):=⟨_,rfl⟩
     replace H : (laws_markCableS.l0 k1 (y147.set (x5_1 : Int).toNat (⟨(rd_T51 y147 x5_1).f0,(rd_T51 y147 x5_1).f1,wrap64 ((wrap64 (x1_1 + 1)) + 1)⟩ : S51)) (wrap64 ((wrap64 ((wrap64 (x1_1 + 1)) + 1)) + 1)) (wrap64 (x5_1 + 1))) = some (r1,r2):=by first|(rw [hy147];with_reducible exact H)|(have H2_:=(Option.bind_some _ _).symm.trans H;rw [hy147];with_reducible exact H2_)|(have H2_:=(Option.bind_some _ _).symm.trans H;with_reducible exact H2_)|with_reducible exact H|(rw [hy147];exact H)|exact H
     have Ny147:=mk_ hy147
     clear hy147
     obtain ⟨y148,hy148⟩ : ∃ y_ : List (S51),y_ = (y147.set (x5_1 : Int).toNat (⟨(rd_T51 y147 x5_1).f0,(rd_T51 y147 x5_1).f1,wrap64 ((wrap64 (x1_1 + 1)) + 1)⟩ : S51)):=⟨_,rfl⟩
     replace H : (laws_markCableS.l0 k1 y148 (wrap64 ((wrap64 ((wrap64 (x1_1 + 1)) + 1)) + 1)) (wrap64 (x5_1 + 1))) = some (r1,r2):=by first|(rw [hy148];with_reducible exact H)|(have H2_:=(Option.bind_some _ _).symm.trans H;rw [hy148];with_reducible exact H2_)|(have H2_:=(Option.bind_some _ _).symm.trans H;with_reducible exact H2_)|with_reducible exact H|(rw [hy148];exact H)|exact H
     have Ny148:=mk_ hy148
     clear hy148
     have H':=mk_ H
     clear H
     obtain ⟨Ao8,co8,eo8⟩:=Kd.R_slice HO_0.out
     subst eo8
     have p5 : 0 ≤ (x5_1 : Int):=od_ qa_
     have q5 : (x5_1 : Int) < ((x0_1.length : Int) : Int):=od_ qa_
     obtain ⟨go5,co5,eo5,gb5,gl5,cl5,HG5⟩:=Kd.R_form HO_0.out (by omega)
     (first|cases eo5|(injection eo5 with ea_ en_ ec_;(first|subst ea_|(injection ea_ with ea_;subst ea_));subst ec_;clear en_))
     have GB5:=mk_ gb5
     have GG5:=mk_ HG5
     clear gb5 gl5 HG5
     have HMgo5:=mk_ (show (P0_ go5 ∨ w.heap.size ≤ go5) from (HO_0.out.1 _ rfl))
     obtain ⟨ce5,hcl5,hM5,hcc5,hfr5⟩:=Kd.R_elem HO_0.out z51 (x5_1 : Int) p5 q5
     obtain rfl:=k51_openM hM5
     have hx5_0 : wr.cell? ⟨go5,(x5_1 : Int).toNat * 3,none⟩ = some (.int .i64 ((rd_T51 x0_1 x5_1).f0)):=hcc5 0 _ rfl
     have hx5_1 : wr.cell? ⟨go5,(x5_1 : Int).toNat * 3 + 1,none⟩ = some (.int .i64 ((rd_T51 x0_1 x5_1).f1)):=hcc5 1 _ rfl
     have hx5_2 : wr.cell? ⟨go5,(x5_1 : Int).toNat * 3 + 2,none⟩ = some (.int .i64 ((rd_T51 x0_1 x5_1).f2)):=hcc5 2 _ rfl
     have hf5_0 : wr.frozen? ⟨go5,(x5_1 : Int).toNat * 3,none⟩ = false:=hfr5 0
     have hf5_1 : wr.frozen? ⟨go5,(x5_1 : Int).toNat * 3 + 1,none⟩ = false:=hfr5 1
     have hf5_2 : wr.frozen? ⟨go5,(x5_1 : Int).toNat * 3 + 2,none⟩ = false:=hfr5 2
     clear hcl5 hcc5 hfr5 hM5
     replace p5:=eq_true p5
     replace q5:=eq_true q5
     have HX9:=mk_ (show Kd.R k51 51 wr w0.heap.size (fun k_ => (P0_ k_ ∨ w.heap.size ≤ k_)) (.slice (some ⟨go5,0,none⟩) x0_1.length co8) x0_1 from (qr_ HO_0))
     obtain ⟨ce9,hcl9,hM9,hcc9,hfr9⟩:=Kd.R_elem HX9.out z51 (x5_1 : Int) (od_ qa_) (by have h_ : (x5_1 : Int) < ((x0_1.length : Int) : Int):=od_ qa_;first|exact h_|(have e_:=(rr_ HO_0.out).1;omega)|simpa using h_)
     obtain rfl:=k51_openM hM9
     have HP9:=Kd.R_seg HX9.out (x5_1 : Int) (od_ qa_) (by have h_ : (x5_1 : Int) < ((x0_1.length : Int) : Int):=od_ qa_;first|exact h_|(have e_:=(rr_ HO_0.out).1;omega)|simpa using h_) (seg:=[.int .i64 x1_1]) (j:=0) hcl9 hcc9 (show 1 ≤ 3 from by decide) (x':=(⟨x1_1,(rd_T51 x0_1 x5_1).f1,(rd_T51 x0_1 x5_1).f2⟩ : S51)) (k51_mkM _ _ _ (⟨x1_1,(rd_T51 x0_1 x5_1).f1,(rd_T51 x0_1 x5_1).f2⟩ : S51) ) (fun _ hk => hk)
     have hx9_0:=hcc9 0 _ rfl
     (try simp only [show (k51).sz = 3 from rfl,Nat.mul_one,Nat.add_zero] at hx9_0)
     have hf9_0:=hfr9 0
     (try simp only [show (k51).sz = 3 from rfl,Nat.mul_one,Nat.add_zero] at hf9_0)
     clear hcl9 hcc9 hfr9 hM9
     go_wp2_with (first|((with_reducible refine gate_store (t:=3) (p:=16) rfl ?_);refine store_event (t:=3) (p:=16) (v:=?vo_w10) (w1:=(wr.setCell ⟨go5,(x5_1 : Int).toNat * 3,none⟩ (.int .i64 x1_1))) ?hg ?ho ?hn ?hr ?_;(case ho => rfl);(case hg => rfl);(case hn => rfl);(case hr => first|(go_simp;done)|(go_simp;rfl));intro w10 hw;have hg : wr.grownBy w10 (some go5):=(by rw [hw];exact HP9.2);have hp_ : Kd.R k51 51 w10 w0.heap.size (fun k_ => (P0_ k_ ∨ w.heap.size ≤ k_)) (.slice (some ⟨go5,0,none⟩) x0_1.length co8) y146:=(by rw [hw,Ny146.out];exact HP9.1);clear HP9;have n0_:=mk_ (hp_);have n1_:=mk_ ((by rw [hw];exact bs_ (HB.out) GB5.out : Below w0.heap.size w0 w10));have n2_:=mk_ (Kept.of_grown (S:=(fun k_ => P0_ k_)) hg (u4_ HK) (fun k_ e_ => (HO_0.out.1 k_ e_)));clear HO_0 HB HK;have HO_0:=n0_;have HB:=n1_;have HK:=n2_;clear n0_ n1_ n2_ hg hw hp_;have p6 : 0 ≤ (x5_1 : Int):=od_ qa_;have q6 : (x5_1 : Int) < ((x0_1.length : Int) : Int):=od_ qa_;obtain ⟨ce6,hcl6,hM6,hcc6,hfr6⟩:=Kd.R_elem HO_0.out z51 (x5_1 : Int) p6 q6;obtain rfl:=k51_openM hM6;have hx6_0 : w10.cell? ⟨go5,(x5_1 : Int).toNat * 3,none⟩ = some (.int .i64 ((rd_T51 y146 x5_1).f0)):=hcc6 0 _ rfl;have hx6_1 : w10.cell? ⟨go5,(x5_1 : Int).toNat * 3 + 1,none⟩ = some (.int .i64 ((rd_T51 y146 x5_1).f1)):=hcc6 1 _ rfl;have hx6_2 : w10.cell? ⟨go5,(x5_1 : Int).toNat * 3 + 2,none⟩ = some (.int .i64 ((rd_T51 y146 x5_1).f2)):=hcc6 2 _ rfl;have hf6_0 : w10.frozen? ⟨go5,(x5_1 : Int).toNat * 3,none⟩ = false:=hfr6 0;have hf6_1 : w10.frozen? ⟨go5,(x5_1 : Int).toNat * 3 + 1,none⟩ = false:=hfr6 1;have hf6_2 : w10.frozen? ⟨go5,(x5_1 : Int).toNat * 3 + 2,none⟩ = false:=hfr6 2;clear hcl6 hcc6 hfr6 hM6;replace p6:=eq_true p6;replace q6:=eq_true q6;have HX11:=mk_ (show Kd.R k51 51 w10 w0.heap.size (fun k_ => (P0_ k_ ∨ w.heap.size ≤ k_)) (.slice (some ⟨go5,0,none⟩) x0_1.length co8) y146 from (qr_ HO_0));obtain ⟨ce11,hcl11,hM11,hcc11,hfr11⟩:=Kd.R_elem HX11.out z51 (x5_1 : Int) (od_ qa_) (by have h_ : (x5_1 : Int) < ((x0_1.length : Int) : Int):=od_ qa_;first|exact h_|(have e_:=(rr_ HO_0.out).1;omega)|simpa using h_);obtain rfl:=k51_openM hM11;have HP11:=Kd.R_seg HX11.out (x5_1 : Int) (od_ qa_) (by have h_ : (x5_1 : Int) < ((x0_1.length : Int) : Int):=od_ qa_;first|exact h_|(have e_:=(rr_ HO_0.out).1;omega)|simpa using h_) (seg:=[.int .i64 (wrap64 (x1_1 + 1))]) (j:=1) hcl11 hcc11 (show 2 ≤ 3 from by decide) (x':=(⟨(rd_T51 y146 x5_1).f0,wrap64 (x1_1 + 1),(rd_T51 y146 x5_1).f2⟩ : S51)) (k51_mkM _ _ _ (⟨(rd_T51 y146 x5_1).f0,wrap64 (x1_1 + 1),(rd_T51 y146 x5_1).f2⟩ : S51) ) (fun _ hk => hk);have hx11_1:=hcc11 1 _ rfl;(try simp only [show (k51).sz = 3 from rfl,Nat.mul_one,Nat.add_zero] at hx11_1);have hf11_1:=hfr11 1;(try simp only [show (k51).sz = 3 from rfl,Nat.mul_one,Nat.add_zero] at hf11_1);clear hcl11 hcc11 hfr11 hM11)|((with_reducible refine gate_store (t:=3) (p:=23) rfl ?_);refine store_event (t:=3) (p:=23) (v:=?vo_w12) (w1:=(w10.setCell ⟨go5,(x5_1 : Int).toNat * 3 + 1,none⟩ (.int .i64 (wrap64 (x1_1 + 1))))) ?hg ?ho ?hn ?hr ?_;(case ho => rfl);(case hg => rfl);(case hn => rfl);(case hr => first|(go_simp;done)|(go_simp;rfl));intro w12 hw;have hg : w10.grownBy w12 (some go5):=(by rw [hw];exact HP11.2);have hp_ : Kd.R k51 51 w12 w0.heap.size (fun k_ => (P0_ k_ ∨ w.heap.size ≤ k_)) (.slice (some ⟨go5,0,none⟩) x0_1.length co8) y147:=(by rw [hw,Ny147.out];exact HP11.1);clear HP11;have n0_:=mk_ (hp_);have n1_:=mk_ ((by rw [hw];exact bs_ (HB.out) GB5.out : Below w0.heap.size w0 w12));have n2_:=mk_ (Kept.of_grown (S:=(fun k_ => P0_ k_)) hg (u4_ HK) (fun k_ e_ => (HO_0.out.1 k_ e_)));clear HO_0 HB HK;have HO_0:=n0_;have HB:=n1_;have HK:=n2_;clear n0_ n1_ n2_ hg hw hp_;have p7 : 0 ≤ (x5_1 : Int):=od_ qa_;have q7 : (x5_1 : Int) < ((x0_1.length : Int) : Int):=od_ qa_;obtain ⟨ce7,hcl7,hM7,hcc7,hfr7⟩:=Kd.R_elem HO_0.out z51 (x5_1 : Int) p7 q7;obtain rfl:=k51_openM hM7;have hx7_0 : w12.cell? ⟨go5,(x5_1 : Int).toNat * 3,none⟩ = some (.int .i64 ((rd_T51 y147 x5_1).f0)):=hcc7 0 _ rfl;have hx7_1 : w12.cell? ⟨go5,(x5_1 : Int).toNat * 3 + 1,none⟩ = some (.int .i64 ((rd_T51 y147 x5_1).f1)):=hcc7 1 _ rfl;have hx7_2 : w12.cell? ⟨go5,(x5_1 : Int).toNat * 3 + 2,none⟩ = some (.int .i64 ((rd_T51 y147 x5_1).f2)):=hcc7 2 _ rfl;have hf7_0 : w12.frozen? ⟨go5,(x5_1 : Int).toNat * 3,none⟩ = false:=hfr7 0;have hf7_1 : w12.frozen? ⟨go5,(x5_1 : Int).toNat * 3 + 1,none⟩ = false:=hfr7 1;have hf7_2 : w12.frozen? ⟨go5,(x5_1 : Int).toNat * 3 + 2,none⟩ = false:=hfr7 2;clear hcl7 hcc7 hfr7 hM7;replace p7:=eq_true p7;replace q7:=eq_true q7;have HX13:=mk_ (show Kd.R k51 51 w12 w0.heap.size (fun k_ => (P0_ k_ ∨ w.heap.size ≤ k_)) (.slice (some ⟨go5,0,none⟩) x0_1.length co8) y147 from (qr_ HO_0));obtain ⟨ce13,hcl13,hM13,hcc13,hfr13⟩:=Kd.R_elem HX13.out z51 (x5_1 : Int) (od_ qa_) (by have h_ : (x5_1 : Int) < ((x0_1.length : Int) : Int):=od_ qa_;first|exact h_|(have e_:=(rr_ HO_0.out).1;omega)|simpa using h_);obtain rfl:=k51_openM hM13;have HP13:=Kd.R_seg HX13.out (x5_1 : Int) (od_ qa_) (by have h_ : (x5_1 : Int) < ((x0_1.length : Int) : Int):=od_ qa_;first|exact h_|(have e_:=(rr_ HO_0.out).1;omega)|simpa using h_) (seg:=[.int .i64 (wrap64 ((wrap64 (x1_1 + 1)) + 1))]) (j:=2) hcl13 hcc13 (show 3 ≤ 3 from by decide) (x':=(⟨(rd_T51 y147 x5_1).f0,(rd_T51 y147 x5_1).f1,wrap64 ((wrap64 (x1_1 + 1)) + 1)⟩ : S51)) (k51_mkM _ _ _ (⟨(rd_T51 y147 x5_1).f0,(rd_T51 y147 x5_1).f1,wrap64 ((wrap64 (x1_1 + 1)) + 1)⟩ : S51) ) (fun _ hk => hk);have hx13_2:=hcc13 2 _ rfl;(try simp only [show (k51).sz = 3 from rfl,Nat.mul_one,Nat.add_zero] at hx13_2);have hf13_2:=hfr13 2;(try simp only [show (k51).sz = 3 from rfl,Nat.mul_one,Nat.add_zero] at hf13_2);clear hcl13 hcc13 hfr13 hM13)|((with_reducible refine gate_store (t:=3) (p:=30) rfl ?_);refine store_event (t:=3) (p:=30) (v:=?vo_w14) (w1:=(w12.setCell ⟨go5,(x5_1 : Int).toNat * 3 + 2,none⟩ (.int .i64 (wrap64 ((wrap64 (x1_1 + 1)) + 1))))) ?hg ?ho ?hn ?hr ?_;(case ho => rfl);(case hg => rfl);(case hn => rfl);(case hr => first|(go_simp;done)|(go_simp;rfl));intro w14 hw;have hg : w12.grownBy w14 (some go5):=(by rw [hw];exact HP13.2);have hp_ : Kd.R k51 51 w14 w0.heap.size (fun k_ => (P0_ k_ ∨ w.heap.size ≤ k_)) (.slice (some ⟨go5,0,none⟩) x0_1.length co8) y148:=(by rw [hw,Ny148.out];exact HP13.1);clear HP13;have n0_:=mk_ (hp_);have n1_:=mk_ ((by rw [hw];exact bs_ (HB.out) GB5.out : Below w0.heap.size w0 w14));have n2_:=mk_ (Kept.of_grown (S:=(fun k_ => P0_ k_)) hg (u4_ HK) (fun k_ e_ => (HO_0.out.1 k_ e_)));clear HO_0 HB HK;have HO_0:=n0_;have HB:=n1_;have HK:=n2_;clear n0_ n1_ n2_ hg hw hp_))
     go_roundg k1
     case measure => have:=HK1.out;omega
     case rel => exact ⟨(y148),(wrap64 ((wrap64 ((wrap64 (x1_1 + 1)) + 1)) + 1)),(wrap64 (x5_1 + 1)),qf_,qf_,H',⟨by have:=HK1.out;omega⟩,⟨qr_ HO_0⟩,⟨u4_ HK⟩,⟨u2_ HB⟩⟩
    ·rw [if_neg c4] at H
     exact absurd H (by simp)
   ·rw [if_neg c3] at H
    have c3b0 : decide (x5_1 < (x0_1.length : Int)) = false:=decide_eq_false c3
    clear c3
    simp only [Option.some.injEq,Prod.mk.injEq] at H
    obtain ⟨rfl,rfl⟩:=H
    obtain ⟨Ao15,co15,eo15⟩:=Kd.R_slice HO_0.out
    subst eo15
    go_wp2
    go_ret
    exact ⟨qe_,qr_ HO_0,u2_ HB,u4_ HK⟩

/-! ### laws_markNet: function 23 -/
def laws_markNet.f (k : Nat) (a0_0 : Int) (l0_1 : List (S51)) (l0_2 : List Int) (l0_3 : List Int) (a1 : Int) : Option (Int × (List (S51)) × List Int × List Int):=(laws_markCableS.f k l0_1 a1).bind fun bt150 => ((laws_markIntS.f k l0_2 bt150.1).bind fun bt152 => ((laws_markIntS.f k l0_3 bt152.1).bind fun bt154 => (some (bt154.1,bt150.2,bt152.2,bt154.2))))
theorem laws_markNet.mono : ∀ a0 a1 a2 a3 a4 k,LeO (laws_markNet.f k a0 a1 a2 a3 a4) (laws_markNet.f (k + 1) a0 a1 a2 a3 a4):=by
 intro a0 a1 a2 a3 a4 k
 unfold laws_markNet.f
 repeat' first
   | (with_reducible exact laws_markCableS.mono _ _ _)
   | (with_reducible exact laws_markIntS.mono _ _ _)
   | (with_reducible exact LeO.refl _)
   | (with_reducible exact LeO.none _)
   | (with_reducible refine LeO.ite ?_ ?_)
   | (with_reducible refine LeO.bind ?_ (fun _ => ?_))
   | exact laws_markCableS.mono _ _ _
   | exact laws_markIntS.mono _ _ _
   | exact LeO.none _
   | refine LeO.ite ?_ ?_
   | refine LeO.bind ?_ (fun _ => ?_)
set_option maxHeartbeats 8000000 in
set_option maxRecDepth 100000 in
theorem laws_markNet.calls (k : Nat) (a0_0 : Int) (P0_1_ : Nat → Prop) (u9000_ : Value) (l0_1 : List (S51)) (P0_2_ : Nat → Prop) (u9001_ : Value) (l0_2 : List Int) (P0_3_ : Nat → Prop) (u9002_ : Value) (l0_3 : List Int) (a1 : Int) (r1 : Int) (r2 : List (S51)) (r3 : List Int) (r4 : List Int) (w0 w : World) (hB : Below w0.heap.size w0 w) (ho0_1 : Kd.R k51 51 w w0.heap.size P0_1_ u9000_ l0_1) (ho0_2 : Kd.R (Kd.int .i64) 3 w w0.heap.size P0_2_ u9001_ l0_2) (hp0_2_0_3 : ∀ k_,P0_2_ k_ → ¬ P0_3_ k_) (ho0_3 : Kd.R (Kd.int .i64) 3 w w0.heap.size P0_3_ u9002_ l0_3) (hp0_3_0_2 : ∀ k_,P0_3_ k_ → ¬ P0_2_ k_) (h : laws_markNet.f k a0_0 l0_1 l0_2 l0_3 a1 = some (r1,r2,r3,r4)) :
  Calls Try.prog 23 #[.agg #[.int .i64 a0_0,u9000_,u9001_,u9002_],.int .i64 a1] w fun e w' => e = .returned (.int .i64 r1) ∧ Kd.R k51 51 w' w0.heap.size (fun k_ => ((P0_1_ k_ ∨ P0_2_ k_ ∨ P0_3_ k_) ∨ w.heap.size ≤ k_)) u9000_ r2 ∧ Kd.R (Kd.int .i64) 3 w' w0.heap.size (fun k_ => ((P0_1_ k_ ∨ P0_2_ k_ ∨ P0_3_ k_) ∨ w.heap.size ≤ k_)) u9001_ r3 ∧ Kd.R (Kd.int .i64) 3 w' w0.heap.size (fun k_ => ((P0_1_ k_ ∨ P0_2_ k_ ∨ P0_3_ k_) ∨ w.heap.size ≤ k_)) u9002_ r4 ∧ Below w0.heap.size w0 w' ∧ Kept w w' (fun k_ => P0_1_ k_ ∨ P0_2_ k_ ∨ P0_3_ k_):=by
 have hu30:=Try.underlying30
 have HO0_1:=mk_ (show Kd.R k51 51 w w0.heap.size (fun k_ => ((P0_1_ k_ ∨ P0_2_ k_ ∨ P0_3_ k_) ∨ w.heap.size ≤ k_)) u9000_ l0_1 from rm_ ho0_1 (fun k_ hk => (.inl (.inl hk))))
 have HO0_2:=mk_ (show Kd.R (Kd.int .i64) 3 w w0.heap.size (fun k_ => ((P0_1_ k_ ∨ P0_2_ k_ ∨ P0_3_ k_) ∨ w.heap.size ≤ k_) ∧ some k_ ≠ (u9002_ : Value).ownBlock) u9001_ l0_2 from rm_ ho0_2 (fun k_ hk => ⟨(.inl (.inr (.inl hk))),fun e_ => hp0_2_0_3 k_ hk (ho0_3.1 k_ e_.symm)⟩))
 have HO0_3:=mk_ (show Kd.R (Kd.int .i64) 3 w w0.heap.size (fun k_ => ((P0_1_ k_ ∨ P0_2_ k_ ∨ P0_3_ k_) ∨ w.heap.size ≤ k_) ∧ some k_ ≠ (u9001_ : Value).ownBlock) u9002_ l0_3 from rm_ ho0_3 (fun k_ hk => ⟨(.inl (.inr (.inr hk))),fun e_ => hp0_3_0_2 k_ hk (ho0_2.1 k_ e_.symm)⟩))
 have HK:=mk_ (Kept.refl w (fun k_ => P0_1_ k_ ∨ P0_2_ k_ ∨ P0_3_ k_))
 have HW0:=mk_ hB.size
 have HB:=mk_ hB
 clear hB
 have H : ((laws_markCableS.f k l0_1 a1).bind fun bt150 => ((laws_markIntS.f k l0_2 bt150.1).bind fun bt152 => ((laws_markIntS.f k l0_3 bt152.1).bind fun bt154 => (some (bt154.1,bt150.2,bt152.2,bt154.2))))) = some (r1,r2,r3,r4):=h
 clear h
 replace H:=Option.bind_eq_some_iff.mp H
 obtain ⟨⟨t150,t151⟩,A30,H⟩:=H
 replace H : ((laws_markIntS.f k l0_2 t150).bind fun bt152 => ((laws_markIntS.f k l0_3 bt152.1).bind fun bt154 => (some (bt154.1,t151,bt152.2,bt154.2)))) = some (r1,r2,r3,r4):=H
 have A3:=mk_ A30
 clear A30
 replace H:=Option.bind_eq_some_iff.mp H
 obtain ⟨⟨t152,t153⟩,A40,H⟩:=H
 replace H : ((laws_markIntS.f k l0_3 t152).bind fun bt154 => (some (bt154.1,t151,t153,bt154.2))) = some (r1,r2,r3,r4):=H
 have A4:=mk_ A40
 clear A40
 replace H:=Option.bind_eq_some_iff.mp H
 obtain ⟨⟨t154,t155⟩,A50,H⟩:=H
 replace H : (some (t154,t151,t153,t155)) = some (r1,r2,r3,r4):=H
 have A5:=mk_ A50
 clear A50
 simp only [Option.some.injEq,Prod.mk.injEq] at H
 obtain ⟨rfl,rfl,rfl,rfl⟩:=H
 obtain ⟨Ao6,co6,eo6⟩:=Kd.R_slice HO0_1.out
 subst eo6
 obtain ⟨Ao7,co7,eo7⟩:=Kd.R_slice HO0_2.out
 subst eo7
 obtain ⟨Ao8,co8,eo8⟩:=Kd.R_slice HO0_3.out
 subst eo8
 go_enter Try.func23,Try.ntmps23
 go_wp2_with (first|((with_reducible refine gate_dst (N:=2) rfl ?_);refine box_event ?hg (N:=2) ?hd (cs:=#[.int .i64 a0_0,.slice Ao6 l0_1.length co6,.slice Ao7 l0_2.length co7,.slice Ao8 l0_3.length co8]) (t:=30) ?hr ?_;(case hd => rfl);(case hg => rfl);(case hr => first|(go_simp;done)|(go_simp;rfl));intro gb149 hg w9 hbox hb;have n0_:=mk_ (rb_ (qr_ HO0_1) hb);have n1_:=mk_ (rb_ (qr_ HO0_2) hb);have n2_:=mk_ (rb_ (qr_ HO0_3) hb);have n3_:=mk_ (Kept.below (S:=(fun k_ => P0_1_ k_ ∨ P0_2_ k_ ∨ P0_3_ k_)) (u4_ HK) hb);have n4_:=mk_ (st_ (qb_ HB) hb);have n5_:=mk_ (hbox);have n6_:=mk_ ((by rw [hg];exact (by first|exact HK.out.1|exact (show Kept w _ (fun k_ => P0_1_ k_ ∨ P0_2_ k_ ∨ P0_3_ k_) from u4_ HK).1) : w.heap.size ≤ gb149));have n7_:=mk_ ((by rw [hg];exact (bz_ (qb_ HB)) : w0.heap.size ≤ gb149));clear HO0_1 HO0_2 HO0_3 HK HB;have HO0_1:=n0_;have HO0_2:=n1_;have HO0_3:=n2_;have HK:=n3_;have HB:=n4_;have BK149:=n5_;have GW149:=n6_;have GE149:=n7_;clear n0_ n1_ n2_ n3_ n4_ n5_ n6_ n7_ hb hbox hg;have hcz10_0 : w9.cell? ⟨gb149,0,none⟩ = some (.int .i64 a0_0):=(bc_ BK149.out 0).trans rfl;have hcz10_1 : w9.cell? ⟨gb149,1,none⟩ = some (.slice Ao6 l0_1.length co6):=(bc_ BK149.out 1).trans rfl;have hcz10_2 : w9.cell? ⟨gb149,2,none⟩ = some (.slice Ao7 l0_2.length co7):=(bc_ BK149.out 2).trans rfl;have hcz10_3 : w9.cell? ⟨gb149,3,none⟩ = some (.slice Ao8 l0_3.length co8):=(bc_ BK149.out 3).trans rfl;have hfz10_0:=bf_ BK149.out 0;have hfz10_1:=bf_ BK149.out 1;have hfz10_2:=bf_ BK149.out 2;have hfz10_3:=bf_ BK149.out 3)|((with_reducible refine gate_callee (f:=58) rfl ?_);refine goesL_ (some 8) rfl rfl Try.func58 (by kernel_rfl) rfl #[.slice Ao6 l0_1.length co6,.int .i64 a1] rfl qm_ ?_;(with_reducible refine (laws_markCableS.calls k (fun k_ => some k_ = (.slice Ao6 l0_1.length co6 : Value).ownBlock) (.slice Ao6 l0_1.length co6) l0_1 a1 t150 t151 w0 _ ?side1 ?side2 A3.out).mono ?_);(case side1 => exact u0_ HB GE149);(case side2 => exact Kd.R_tight rfl HO0_1.out);rintro e w11 ⟨rfl,hy0,hb,hkp⟩;refine ⟨_,rfl,?_⟩;have n0_:=mk_ (Kd.R_reok rfl hy0 (fun k_ e_ => HO0_1.out.1 k_ e_));have n1_:=mk_ (rm_ (ok':=fun k_ => ((P0_1_ k_ ∨ P0_2_ k_ ∨ P0_3_ k_) ∨ w.heap.size ≤ k_) ∧ some k_ ≠ (.slice Ao8 l0_3.length co8 : Value).ownBlock) (Kd.R_keptB ((Kd.R_apart' HO0_2.out (Kd.R_typed HO0_1.out) (by decide))) hkp (fun k_ hk_ hs_ => (hk_.2) hs_)) (fun k_ hk_ => ⟨hk_.1.1.1,hk_.1.1.2⟩));have n2_:=mk_ (rm_ (ok':=fun k_ => ((P0_1_ k_ ∨ P0_2_ k_ ∨ P0_3_ k_) ∨ w.heap.size ≤ k_) ∧ some k_ ≠ (.slice Ao7 l0_2.length co7 : Value).ownBlock) (Kd.R_keptB ((Kd.R_apart' HO0_3.out (Kd.R_typed HO0_1.out) (by decide))) hkp (fun k_ hk_ hs_ => (hk_.2) hs_)) (fun k_ hk_ => ⟨hk_.1.1.1,hk_.1.1.2⟩));have n3_:=mk_ (blk_kept (qk_ BK149) hkp (fun hs_ => (fun e_ => (Kd.R_ne HO0_1.out BK149.out (by decide)) e_) hs_));have n4_:=mk_ (Kept.then_ (S:=(fun k_ => P0_1_ k_ ∨ P0_2_ k_ ∨ P0_3_ k_)) (u5_ HK GW149) hkp (fun k_ hs_ => (fun e_ => (HO0_1.out.1 k_ e_.symm)) hs_));have n5_:=mk_ (hb);clear HO0_1 HO0_2 HO0_3 BK149 HK HB;have HO0_1:=n0_;have HO0_2:=n1_;have HO0_3:=n2_;have BK149:=n3_;have HK:=n4_;have HB:=n5_;clear n0_ n1_ n2_ n3_ n4_ n5_;(try clear hb);(try clear hkp);(try clear hy0);have hcz12_0 : w11.cell? ⟨gb149,0,none⟩ = some (.int .i64 a0_0):=(bc_ BK149.out 0).trans rfl;have hcz12_1 : w11.cell? ⟨gb149,1,none⟩ = some (.slice Ao6 l0_1.length co6):=(bc_ BK149.out 1).trans rfl;have hcz12_2 : w11.cell? ⟨gb149,2,none⟩ = some (.slice Ao7 l0_2.length co7):=(bc_ BK149.out 2).trans rfl;have hcz12_3 : w11.cell? ⟨gb149,3,none⟩ = some (.slice Ao8 l0_3.length co8):=(bc_ BK149.out 3).trans rfl;have hfz12_0:=bf_ BK149.out 0;have hfz12_1:=bf_ BK149.out 1;have hfz12_2:=bf_ BK149.out 2;have hfz12_3:=bf_ BK149.out 3)|((with_reducible refine gate_callee (f:=24) rfl ?_);refine goesL_ (some 12) rfl rfl Try.func24 (by kernel_rfl) rfl #[.slice Ao7 l0_2.length co7,.int .i64 t150] rfl qm_ ?_;(with_reducible refine (laws_markIntS.calls k (fun k_ => some k_ = (.slice Ao7 l0_2.length co7 : Value).ownBlock) (.slice Ao7 l0_2.length co7) l0_2 t150 t152 t153 w0 _ ?side1 ?side2 A4.out).mono ?_);(case side1 => exact u0_ HB GE149);(case side2 => exact Kd.R_tight rfl HO0_2.out);rintro e w13 ⟨rfl,hy0,hb,hkp⟩;refine ⟨_,rfl,?_⟩;have n0_:=mk_ (rm_ (ok':=fun k_ => ((P0_1_ k_ ∨ P0_2_ k_ ∨ P0_3_ k_) ∨ w.heap.size ≤ k_)) (Kd.R_keptB ((Kd.R_apart' HO0_1.out (Kd.R_typed HO0_2.out) (by decide))) hkp (fun k_ hk_ hs_ => (hk_.2) hs_)) (fun k_ hk_ => hk_.1.1));have n1_:=mk_ (Kd.R_reok rfl hy0 (fun k_ e_ => HO0_2.out.1 k_ e_));have n2_:=mk_ (rm_ (ok':=fun k_ => ((P0_1_ k_ ∨ P0_2_ k_ ∨ P0_3_ k_) ∨ w.heap.size ≤ k_) ∧ some k_ ≠ (.slice Ao7 l0_2.length co7 : Value).ownBlock) (Kd.R_keptB (HO0_3.out) hkp (fun k_ hk_ hs_ => (hk_.2) hs_)) (fun k_ hk_ => ⟨hk_.1.1,hk_.1.2⟩));have n3_:=mk_ (blk_kept (qk_ BK149) hkp (fun hs_ => (fun e_ => (Kd.R_ne HO0_2.out BK149.out (by decide)) e_) hs_));have n4_:=mk_ (Kept.then_ (S:=(fun k_ => P0_1_ k_ ∨ P0_2_ k_ ∨ P0_3_ k_)) (u5_ HK GW149) hkp (fun k_ hs_ => (fun e_ => (HO0_2.out.1 k_ e_.symm).1) hs_));have n5_:=mk_ (hb);clear HO0_1 HO0_2 HO0_3 BK149 HK HB;have HO0_1:=n0_;have HO0_2:=n1_;have HO0_3:=n2_;have BK149:=n3_;have HK:=n4_;have HB:=n5_;clear n0_ n1_ n2_ n3_ n4_ n5_;(try clear hb);(try clear hkp);(try clear hy0);have hcz14_0 : w13.cell? ⟨gb149,0,none⟩ = some (.int .i64 a0_0):=(bc_ BK149.out 0).trans rfl;have hcz14_1 : w13.cell? ⟨gb149,1,none⟩ = some (.slice Ao6 l0_1.length co6):=(bc_ BK149.out 1).trans rfl;have hcz14_2 : w13.cell? ⟨gb149,2,none⟩ = some (.slice Ao7 l0_2.length co7):=(bc_ BK149.out 2).trans rfl;have hcz14_3 : w13.cell? ⟨gb149,3,none⟩ = some (.slice Ao8 l0_3.length co8):=(bc_ BK149.out 3).trans rfl;have hfz14_0:=bf_ BK149.out 0;have hfz14_1:=bf_ BK149.out 1;have hfz14_2:=bf_ BK149.out 2;have hfz14_3:=bf_ BK149.out 3)|((with_reducible refine gate_callee (f:=24) rfl ?_);refine goesL_ (some 16) rfl rfl Try.func24 (by kernel_rfl) rfl #[.slice Ao8 l0_3.length co8,.int .i64 t152] rfl qm_ ?_;(with_reducible refine (laws_markIntS.calls k (fun k_ => some k_ = (.slice Ao8 l0_3.length co8 : Value).ownBlock) (.slice Ao8 l0_3.length co8) l0_3 t152 t154 t155 w0 _ ?side1 ?side2 A5.out).mono ?_);(case side1 => exact u0_ HB GE149);(case side2 => exact Kd.R_tight rfl HO0_3.out);rintro e w15 ⟨rfl,hy0,hb,hkp⟩;refine ⟨_,rfl,?_⟩;have n0_:=mk_ (rm_ (ok':=fun k_ => ((P0_1_ k_ ∨ P0_2_ k_ ∨ P0_3_ k_) ∨ w.heap.size ≤ k_)) (Kd.R_keptB ((Kd.R_apart' HO0_1.out (Kd.R_typed HO0_3.out) (by decide))) hkp (fun k_ hk_ hs_ => (hk_.2) hs_)) (fun k_ hk_ => hk_.1.1));have n1_:=mk_ (rm_ (ok':=fun k_ => ((P0_1_ k_ ∨ P0_2_ k_ ∨ P0_3_ k_) ∨ w.heap.size ≤ k_) ∧ some k_ ≠ (.slice Ao8 l0_3.length co8 : Value).ownBlock) (Kd.R_keptB (HO0_2.out) hkp (fun k_ hk_ hs_ => (hk_.2) hs_)) (fun k_ hk_ => ⟨hk_.1.1,hk_.1.2⟩));have n2_:=mk_ (Kd.R_reok rfl hy0 (fun k_ e_ => HO0_3.out.1 k_ e_));have n3_:=mk_ (blk_kept (qk_ BK149) hkp (fun hs_ => (fun e_ => (Kd.R_ne HO0_3.out BK149.out (by decide)) e_) hs_));have n4_:=mk_ (Kept.then_ (S:=(fun k_ => P0_1_ k_ ∨ P0_2_ k_ ∨ P0_3_ k_)) (u5_ HK GW149) hkp (fun k_ hs_ => (fun e_ => (HO0_3.out.1 k_ e_.symm).1) hs_));have n5_:=mk_ (hb);clear HO0_1 HO0_2 HO0_3 BK149 HK HB;have HO0_1:=n0_;have HO0_2:=n1_;have HO0_3:=n2_;have BK149:=n3_;have HK:=n4_;have HB:=n5_;clear n0_ n1_ n2_ n3_ n4_ n5_;(try clear hb);(try clear hkp);(try clear hy0)))
 go_ret
 exact ⟨qe_,qr_ HO0_1,by (with_reducible repeat (first|apply ra_|apply rn_|apply rd_));exact rm_ HO0_2.out (fun _ hk => hk.1),by (with_reducible repeat (first|apply ra_|apply rn_|apply rd_));exact rm_ HO0_3.out (fun _ hk => hk.1),u0_ HB GE149,u5_ HK GW149⟩

/-! ### spec_l1In: function 40 -/
def spec_l1In.f (a0 : Int) (a1 : Int) (a2 : Int) : Option (Bool):=if a0 ≥ a1 then (some (decide (a0 ≤ a2))) else (some false)
set_option maxHeartbeats 8000000 in
set_option maxRecDepth 100000 in
theorem spec_l1In.calls (a0 : Int) (a1 : Int) (a2 : Int) (r : Bool) (w : World) (h : spec_l1In.f a0 a1 a2 = some r) :
  Calls Try.prog 40 #[.int .i64 a0,.int .i64 a1,.int .i64 a2] w fun e w' => e = .returned (.bool r) ∧ Drawn0 w w':=by
 have H : (if a0 ≥ a1 then (some (decide (a0 ≤ a2))) else (some false)) = some r:=h
 clear h
 by_cases c4 : a0 ≥ a1
 ·rw [if_pos c4] at H
  have c4b0 : decide (a1 ≤ a0) = true:=decide_eq_true c4
  clear c4
  obtain rfl:=Option.some.inj H
  go_enter Try.func40,Try.ntmps40
  go_wp2
  go_ret
  exact ⟨by first|rfl|(simp;done)|(simp [*];done),by repeat (first|exact Drawn0.refl _|apply Drawn0.step)⟩
 ·rw [if_neg c4] at H
  have c4b0 : decide (a1 ≤ a0) = false:=decide_eq_false c4
  clear c4
  obtain rfl:=Option.some.inj H
  go_enter Try.func40,Try.ntmps40
  go_wp2
  go_ret
  exact ⟨by first|rfl|(simp;done)|(simp [*];done),by repeat (first|exact Drawn0.refl _|apply Drawn0.step)⟩

end Go.Proofs.Ytdamdcdjodmemaa.PAll
