/- Proved here: contracts of functions of the given program, or lemmas on them, for the laws of this seat. Written by xprint.py, a program of this session, on the ground of the kit's print; parts by hand: wip/x/ext. -/
import Derived.Test.YtdpnloibbimblaaPAllx0
import Derived.Test.YtdpnloibbimblaaPAllx1
import Derived.Test.YtdpnloibbimblaaPAllx3
import Derived.Test.YtdpnloibbimblaaPAllx5
import Derived.Test.YtdpnloibbimblaaPAllx6
namespace Go.Proofs.Ytdpnloibbimblaa.PAll
open Go.RowKit Go.Proofs.YtdpnloibbimblaaW.PrintWords Go.Proofs.YtdpnloibbimblaaW.PrintLast Go.Proofs.YtdpnloibbimblaaW.PrintMore
attribute [local go_sem] max2_int min2_int max_two min_two max_three min_three max_four min_four   -- for this text's walks alone
set_option linter.unusedVariables false
set_option linter.unusedSimpArgs false

/-! ### laws_FnLinkSafe: function 5 -/
def laws_FnLinkSafe.j0 : Nat → List (List Int) → Int → Bool → Bool → Bool → List (List Int) → Int → Int → Bool → List (List Int) → Int → Int → Bool → Option (Bool)
 | 0,_,_,_,_,_,_,_,_,_,_,_,_,_ => none
 | k + 1,x4,x7,x9,x11,x76,z2_,z3_,z4_,z5_,z6_,z7_,z8_,z9_ => if x76 = true then (if (x9 == x11) = true then (if z3_ = z7_ then ((laws_wnTexts.f k z2_ z6_).bind fun t561 => (if t561 = true then (if z4_ = z8_ then (some (z5_ == z9_)) else (some false)) else (some false))) else (some false)) else (some false)) else (if (z2_.length : Int) ≤ (x4.length : Int) then (if 0 ≤ (z2_.length : Int) then ((laws_wnTexts.f k z2_ (x4.take ((z2_.length : Int) : Int).toNat)).bind fun t566 => (if t566 = true then (if z5_ = true then (if (z2_.length : Int) = (x4.length : Int) then (some (decide (z3_ ≤ x7))) else (some false)) else (some (decide (z3_ ≤ x7)))) else (some false))) else (none)) else (some false))
def laws_FnLinkSafe.f (k : Nat) (l0 : List Int) : Option (Bool):=if (l0.length : Int) > 1048576 then (some true) else ((spec_DrawRunLink.f k l0).bind fun bt533 => ((impl_RunLink.f bt533.1 bt533.2.1 bt533.2.2.1 bt533.2.2.2.1 bt533.2.2.2.2).bind fun bt544 => ((spec_RunLink.f k bt533.1 bt533.2.1 bt533.2.2.1 bt533.2.2.2.1 bt533.2.2.2.2).bind fun bt552 => (if (bt544.2.2.2.2 != bt552.2.2.2.2) = true then (laws_FnLinkSafe.j0 k bt533.2.1 bt533.2.2.2.2 bt544.2.2.2.2 bt552.2.2.2.2 true bt544.1 bt544.2.1 bt544.2.2.1 bt544.2.2.2.1 bt552.1 bt552.2.1 bt552.2.2.1 bt552.2.2.2.1) else ((laws_wnTexts.f k bt544.1 bt552.1).bind fun t560 => (if t560 = true then (if bt544.2.1 = bt552.2.1 then (if bt544.2.2.1 = bt552.2.2.1 then (if (bt544.2.2.2.1 != bt552.2.2.2.1) = true then (laws_FnLinkSafe.j0 k bt533.2.1 bt533.2.2.2.2 bt544.2.2.2.2 bt552.2.2.2.2 true bt544.1 bt544.2.1 bt544.2.2.1 bt544.2.2.2.1 bt552.1 bt552.2.1 bt552.2.2.1 bt552.2.2.2.1) else (laws_FnLinkSafe.j0 k bt533.2.1 bt533.2.2.2.2 bt544.2.2.2.2 bt552.2.2.2.2 (!bt544.2.2.2.2) bt544.1 bt544.2.1 bt544.2.2.1 bt544.2.2.2.1 bt552.1 bt552.2.1 bt552.2.2.1 bt552.2.2.2.1)) else (laws_FnLinkSafe.j0 k bt533.2.1 bt533.2.2.2.2 bt544.2.2.2.2 bt552.2.2.2.2 true bt544.1 bt544.2.1 bt544.2.2.1 bt544.2.2.2.1 bt552.1 bt552.2.1 bt552.2.2.1 bt552.2.2.2.1)) else (laws_FnLinkSafe.j0 k bt533.2.1 bt533.2.2.2.2 bt544.2.2.2.2 bt552.2.2.2.2 true bt544.1 bt544.2.1 bt544.2.2.1 bt544.2.2.2.1 bt552.1 bt552.2.1 bt552.2.2.1 bt552.2.2.2.1)) else (laws_FnLinkSafe.j0 k bt533.2.1 bt533.2.2.2.2 bt544.2.2.2.2 bt552.2.2.2.2 true bt544.1 bt544.2.1 bt544.2.2.1 bt544.2.2.2.1 bt552.1 bt552.2.1 bt552.2.2.1 bt552.2.2.2.1)))))))
theorem laws_FnLinkSafe.mono_l : ∀ k,(∀ y0 y1 y2 y3 y4 y5 y6 y7 y8 y9 y10 y11 y12,LeO (laws_FnLinkSafe.j0 k y0 y1 y2 y3 y4 y5 y6 y7 y8 y9 y10 y11 y12) (laws_FnLinkSafe.j0 (k + 1) y0 y1 y2 y3 y4 y5 y6 y7 y8 y9 y10 y11 y12))
 | 0 => fun _ _ _ _ _ _ _ _ _ _ _ _ _ r h => by simp [laws_FnLinkSafe.j0] at h
 | k + 1 => by
  have ih0:=laws_FnLinkSafe.mono_l k
  ·intro y0 y1 y2 y3 y4 y5 y6 y7 y8 y9 y10 y11 y12
   unfold laws_FnLinkSafe.j0
   repeat' first
   | (with_reducible exact ih0 _ _ _ _ _ _ _ _ _ _ _ _ _)
   | (with_reducible exact laws_wnTexts.mono _ _ _)
   | (with_reducible exact spec_DrawRunLink.mono _ _)
   | (with_reducible exact spec_RunLink.mono _ _ _ _ _ _)
   | (with_reducible exact LeO.refl _)
   | (with_reducible exact LeO.none _)
   | (with_reducible refine LeO.ite ?_ ?_)
   | (with_reducible refine LeO.bind ?_ (fun _ => ?_))
   | exact ih0 _ _ _ _ _ _ _ _ _ _ _ _ _
   | exact laws_wnTexts.mono _ _ _
   | exact spec_DrawRunLink.mono _ _
   | exact spec_RunLink.mono _ _ _ _ _ _
   | exact LeO.none _
   | refine LeO.ite ?_ ?_
   | refine LeO.bind ?_ (fun _ => ?_)
theorem laws_FnLinkSafe.mono : ∀ a0 k,LeO (laws_FnLinkSafe.f k a0) (laws_FnLinkSafe.f (k + 1) a0):=by
 intro a0 k
 have ih0:=laws_FnLinkSafe.mono_l k
 unfold laws_FnLinkSafe.f
 repeat' first
   | (with_reducible exact ih0 _ _ _ _ _ _ _ _ _ _ _ _ _)
   | (with_reducible exact laws_wnTexts.mono _ _ _)
   | (with_reducible exact spec_DrawRunLink.mono _ _)
   | (with_reducible exact spec_RunLink.mono _ _ _ _ _ _)
   | (with_reducible exact LeO.refl _)
   | (with_reducible exact LeO.none _)
   | (with_reducible refine LeO.ite ?_ ?_)
   | (with_reducible refine LeO.bind ?_ (fun _ => ?_))
   | exact ih0 _ _ _ _ _ _ _ _ _ _ _ _ _
   | exact laws_wnTexts.mono _ _ _
   | exact spec_DrawRunLink.mono _ _
   | exact spec_RunLink.mono _ _ _ _ _ _
   | exact LeO.none _
   | refine LeO.ite ?_ ?_
   | refine LeO.bind ?_ (fun _ => ?_)
def laws_FnLinkSafe.T8 : Bool × List (List Nat × List Nat):=(true,[([],[]),([0],[0]),([1],[1]),([],[]),([3],[3]),([2,4],[2,4]),([5],[5]),([6],[6]),([7,6],[6,7]),([6],[6]),([6],[6]),([10,6],[6,10]),([11,6],[6,11]),([9,12,6],[6,9,12]),([8,13,6,6],[6,8,13]),([6,14],[6,14]),([15,14],[15]),([16],[16]),([17,16],[16,17]),([18,16],[16,18]),([19,16,16],[16,19]),([20],[20]),([21,20],[20,21]),([22,20],[20,22]),([20],[20]),([24,20],[20,24]),([23,25,20],[20,23,25]),([20,26,16],[16,20,26]),([16,27],[16,27]),([28,20],[28]),([29],[29]),([30,29],[29,30]),([29],[29]),([31,32,29],[29,31,32]),([29,33],[29,33]),([34,29,0,1,2,3,4,5,6,7,8,9,10,11,12,13,14,15,16,17,18,19,20,21,22,23,24,25,26,27,28,29,30,31,32,33,34],[34])])
def laws_FnLinkSafe.B8 : List Nat:=[0,1,3,0,8,31,63,127,255,127,127,1151,3199,7807,16383,32767,65535,131071,262143,524287,1048575,2097151,4194303,8388607,2097151,18874367,67108863,134217727,268435455,536870911,1073741823,2147483647,1073741823,8589934591,17179869183,34359738367]
theorem laws_FnLinkSafe.tab8 : rtab .any (opsOf Try.f5 8) = laws_FnLinkSafe.T8:=by kernel_rfl
theorem laws_FnLinkSafe.bits8 : waitsOk laws_FnLinkSafe.T8.2 laws_FnLinkSafe.B8 = true:=by kernel_rfl
set_option maxHeartbeats 8000000 in
set_option maxRecDepth 100000 in
theorem laws_FnLinkSafe.calls (k : Nat) (A0 : Option Addr) (c0 : Nat) (l0 : List Int) (r : Bool) (w : World) (hr0 : Kd.C (Kd.int .u8) w A0 l0.length l0) (hc0 : l0.length ≤ c0) (h : laws_FnLinkSafe.f k l0 = some r) :
  Calls Try.prog 5 #[.slice A0 l0.length c0] w fun e w' => e = .returned (.bool r) ∧ Below w.heap.size w w':=by
 have hu28:=Try.underlying28
 have HR0:=mk_ hr0
 have HC0:=mk_ hc0
 clear hr0 hc0
 have HB:=mk_ (Below.refl w.heap.size w)
 have H : (if (l0.length : Int) > 1048576 then (some true) else ((spec_DrawRunLink.f k l0).bind fun bt533 => ((impl_RunLink.f bt533.1 bt533.2.1 bt533.2.2.1 bt533.2.2.2.1 bt533.2.2.2.2).bind fun bt544 => ((spec_RunLink.f k bt533.1 bt533.2.1 bt533.2.2.1 bt533.2.2.2.1 bt533.2.2.2.2).bind fun bt552 => (if (bt544.2.2.2.2 != bt552.2.2.2.2) = true then (laws_FnLinkSafe.j0 k bt533.2.1 bt533.2.2.2.2 bt544.2.2.2.2 bt552.2.2.2.2 true bt544.1 bt544.2.1 bt544.2.2.1 bt544.2.2.2.1 bt552.1 bt552.2.1 bt552.2.2.1 bt552.2.2.2.1) else ((laws_wnTexts.f k bt544.1 bt552.1).bind fun t560 => (if t560 = true then (if bt544.2.1 = bt552.2.1 then (if bt544.2.2.1 = bt552.2.2.1 then (if (bt544.2.2.2.1 != bt552.2.2.2.1) = true then (laws_FnLinkSafe.j0 k bt533.2.1 bt533.2.2.2.2 bt544.2.2.2.2 bt552.2.2.2.2 true bt544.1 bt544.2.1 bt544.2.2.1 bt544.2.2.2.1 bt552.1 bt552.2.1 bt552.2.2.1 bt552.2.2.2.1) else (laws_FnLinkSafe.j0 k bt533.2.1 bt533.2.2.2.2 bt544.2.2.2.2 bt552.2.2.2.2 (!bt544.2.2.2.2) bt544.1 bt544.2.1 bt544.2.2.1 bt544.2.2.2.1 bt552.1 bt552.2.1 bt552.2.2.1 bt552.2.2.2.1)) else (laws_FnLinkSafe.j0 k bt533.2.1 bt533.2.2.2.2 bt544.2.2.2.2 bt552.2.2.2.2 true bt544.1 bt544.2.1 bt544.2.2.1 bt544.2.2.2.1 bt552.1 bt552.2.1 bt552.2.2.1 bt552.2.2.2.1)) else (laws_FnLinkSafe.j0 k bt533.2.1 bt533.2.2.2.2 bt544.2.2.2.2 bt552.2.2.2.2 true bt544.1 bt544.2.1 bt544.2.2.1 bt544.2.2.2.1 bt552.1 bt552.2.1 bt552.2.2.1 bt552.2.2.2.1)) else (laws_FnLinkSafe.j0 k bt533.2.1 bt533.2.2.2.2 bt544.2.2.2.2 bt552.2.2.2.2 true bt544.1 bt544.2.1 bt544.2.2.1 bt544.2.2.2.1 bt552.1 bt552.2.1 bt552.2.2.1 bt552.2.2.2.1)))))))) = some r:=h
 clear h
 by_cases c2 : (l0.length : Int) > 1048576
 ·rw [if_pos c2] at H
  have c2b0 : decide (1048576 < (l0.length : Int)) = true:=decide_eq_true c2
  have c2b1 : decide (1048576 < l0.length) = true:=decide_eq_true (by omega)
  clear c2
  obtain rfl:=Option.some.inj H
  go_enter Try.func5,Try.ntmps5
  go_wp2
  go_ret
  exact ⟨qe_,u0_ HB⟩
 ·rw [if_neg c2] at H
  have c2b0 : decide (1048576 < (l0.length : Int)) = false:=decide_eq_false c2
  have c2b1 : decide (1048576 < l0.length) = false:=decide_eq_false (by omega)
  clear c2
  replace H:=Option.bind_eq_some_iff.mp H
  obtain ⟨⟨t533,t534,t535,t536,t537⟩,A30,H⟩:=H
  replace H : ((impl_RunLink.f t533 t534 t535 t536 t537).bind fun bt544 => ((spec_RunLink.f k t533 t534 t535 t536 t537).bind fun bt552 => (if (bt544.2.2.2.2 != bt552.2.2.2.2) = true then (laws_FnLinkSafe.j0 k t534 t537 bt544.2.2.2.2 bt552.2.2.2.2 true bt544.1 bt544.2.1 bt544.2.2.1 bt544.2.2.2.1 bt552.1 bt552.2.1 bt552.2.2.1 bt552.2.2.2.1) else ((laws_wnTexts.f k bt544.1 bt552.1).bind fun t560 => (if t560 = true then (if bt544.2.1 = bt552.2.1 then (if bt544.2.2.1 = bt552.2.2.1 then (if (bt544.2.2.2.1 != bt552.2.2.2.1) = true then (laws_FnLinkSafe.j0 k t534 t537 bt544.2.2.2.2 bt552.2.2.2.2 true bt544.1 bt544.2.1 bt544.2.2.1 bt544.2.2.2.1 bt552.1 bt552.2.1 bt552.2.2.1 bt552.2.2.2.1) else (laws_FnLinkSafe.j0 k t534 t537 bt544.2.2.2.2 bt552.2.2.2.2 (!bt544.2.2.2.2) bt544.1 bt544.2.1 bt544.2.2.1 bt544.2.2.2.1 bt552.1 bt552.2.1 bt552.2.2.1 bt552.2.2.2.1)) else (laws_FnLinkSafe.j0 k t534 t537 bt544.2.2.2.2 bt552.2.2.2.2 true bt544.1 bt544.2.1 bt544.2.2.1 bt544.2.2.2.1 bt552.1 bt552.2.1 bt552.2.2.1 bt552.2.2.2.1)) else (laws_FnLinkSafe.j0 k t534 t537 bt544.2.2.2.2 bt552.2.2.2.2 true bt544.1 bt544.2.1 bt544.2.2.1 bt544.2.2.2.1 bt552.1 bt552.2.1 bt552.2.2.1 bt552.2.2.2.1)) else (laws_FnLinkSafe.j0 k t534 t537 bt544.2.2.2.2 bt552.2.2.2.2 true bt544.1 bt544.2.1 bt544.2.2.1 bt544.2.2.2.1 bt552.1 bt552.2.1 bt552.2.2.1 bt552.2.2.2.1)))))) = some r:=H
  have A3:=mk_ A30
  clear A30
  replace H:=Option.bind_eq_some_iff.mp H
  obtain ⟨⟨t544,t547,t548,t549,t550⟩,A40,H⟩:=H
  replace H : ((spec_RunLink.f k t533 t534 t535 t536 t537).bind fun bt552 => (if (t550 != bt552.2.2.2.2) = true then (laws_FnLinkSafe.j0 k t534 t537 t550 bt552.2.2.2.2 true t544 t547 t548 t549 bt552.1 bt552.2.1 bt552.2.2.1 bt552.2.2.2.1) else ((laws_wnTexts.f k t544 bt552.1).bind fun t560 => (if t560 = true then (if t547 = bt552.2.1 then (if t548 = bt552.2.2.1 then (if (t549 != bt552.2.2.2.1) = true then (laws_FnLinkSafe.j0 k t534 t537 t550 bt552.2.2.2.2 true t544 t547 t548 t549 bt552.1 bt552.2.1 bt552.2.2.1 bt552.2.2.2.1) else (laws_FnLinkSafe.j0 k t534 t537 t550 bt552.2.2.2.2 (!t550) t544 t547 t548 t549 bt552.1 bt552.2.1 bt552.2.2.1 bt552.2.2.2.1)) else (laws_FnLinkSafe.j0 k t534 t537 t550 bt552.2.2.2.2 true t544 t547 t548 t549 bt552.1 bt552.2.1 bt552.2.2.1 bt552.2.2.2.1)) else (laws_FnLinkSafe.j0 k t534 t537 t550 bt552.2.2.2.2 true t544 t547 t548 t549 bt552.1 bt552.2.1 bt552.2.2.1 bt552.2.2.2.1)) else (laws_FnLinkSafe.j0 k t534 t537 t550 bt552.2.2.2.2 true t544 t547 t548 t549 bt552.1 bt552.2.1 bt552.2.2.1 bt552.2.2.2.1))))) = some r:=H
  have A4:=mk_ A40
  clear A40
  replace H:=Option.bind_eq_some_iff.mp H
  obtain ⟨⟨t552,t555,t556,t557,t558⟩,A50,H⟩:=H
  replace H : (if (t550 != t558) = true then (laws_FnLinkSafe.j0 k t534 t537 t550 t558 true t544 t547 t548 t549 t552 t555 t556 t557) else ((laws_wnTexts.f k t544 t552).bind fun t560 => (if t560 = true then (if t547 = t555 then (if t548 = t556 then (if (t549 != t557) = true then (laws_FnLinkSafe.j0 k t534 t537 t550 t558 true t544 t547 t548 t549 t552 t555 t556 t557) else (laws_FnLinkSafe.j0 k t534 t537 t550 t558 (!t550) t544 t547 t548 t549 t552 t555 t556 t557)) else (laws_FnLinkSafe.j0 k t534 t537 t550 t558 true t544 t547 t548 t549 t552 t555 t556 t557)) else (laws_FnLinkSafe.j0 k t534 t537 t550 t558 true t544 t547 t548 t549 t552 t555 t556 t557)) else (laws_FnLinkSafe.j0 k t534 t537 t550 t558 true t544 t547 t548 t549 t552 t555 t556 t557)))) = some r:=H
  have A5:=mk_ A50
  clear A50
  have HC6:=mk_ H
  clear H
  go_enter Try.func5,Try.ntmps5
  go_upto_region 6 with (first|((with_reducible refine gate_callee (f:=19) rfl ?_);refine goesL_ (some 17) rfl rfl Try.func19 (by kernel_rfl) rfl #[.slice A0 l0.length c0] rfl qm_ ?_;(with_reducible refine (spec_DrawRunLink.calls k _ _ l0 t533 t534 t535 t536 t537 _ ?side1 ?side2 A3.out).mono ?_);(case side1 => repeat (first|exact HR0.out|(with_reducible refine ca_ ?_ _)|(with_reducible refine cn_ ?_ _)|(with_reducible refine cd_ ?_)));(case side2 => exact HC0.out);rintro e w7 ⟨v538,v540,v542,rfl,ho0,ho1,ho2,hb⟩;refine ⟨_,rfl,?_⟩;have n0_:=mk_ (Kd.S_lower ho0 (bz_ (qb_ HB)));have n1_:=mk_ (Kd.R_lower ho1 (bz_ (qb_ HB)));have n2_:=mk_ (Kd.R_lower ho2 (bz_ (qb_ HB)));have n3_:=mk_ (st_ (qb_ HB) hb);clear HB;have HO539:=n0_;have HO541:=n1_;have HO543:=n2_;have HB:=n3_;clear n0_ n1_ n2_ n3_;(try clear hb);(try clear hb2);(try clear hk);(try clear hi);(try clear ho0);(try clear ho1);(try clear ho2);obtain ⟨Ao8,co8,eo8⟩:=Kd.S_slice HO539.out;subst eo8;obtain ⟨Ao9,co9,eo9⟩:=Kd.R_slice HO541.out;subst eo9;obtain ⟨Ao10,co10,eo10⟩:=Kd.R_slice HO543.out;subst eo10)|((with_reducible refine gate_callee (f:=10) rfl ?_);refine goesL_ (some 29) rfl rfl Try.func10 (by kernel_rfl) rfl #[.int .i64 t533,.slice Ao8 t534.length co8,.slice Ao9 t535.length co9,.slice Ao10 t536.length co10,.int .i64 t537] rfl qm_ ?_;(with_reducible refine (impl_RunLink.calls t533 _ _ t534 _ _ t535 _ _ t536 t537 t544 t547 t548 t549 t550 _ ?side1 ?side2 ?side3 ?side4 ?side5 ?side6 A4.out).mono ?_);(case side1 => repeat (first|exact (Kd.S_reads' HO539.out).2.2|(with_reducible refine ca_ ?_ _)|(with_reducible refine cn_ ?_ _)|(with_reducible refine cd_ ?_)));(case side2 => exact (Kd.S_reads' HO539.out).2.1);(case side3 => repeat (first|exact (rr_ HO541.out).2.2|(with_reducible refine ca_ ?_ _)|(with_reducible refine cn_ ?_ _)|(with_reducible refine cd_ ?_)));(case side4 => exact (rr_ HO541.out).2.1);(case side5 => repeat (first|exact (rr_ HO543.out).2.2|(with_reducible refine ca_ ?_ _)|(with_reducible refine cn_ ?_ _)|(with_reducible refine cd_ ?_)));(case side6 => exact (rr_ HO543.out).2.1);rintro e w11 ⟨v545,rfl,ho0,hb⟩;refine ⟨_,rfl,?_⟩;have n0_:=mk_ (Kd.S_elder' (by (with_reducible repeat (first|apply Kd.S_alloc|apply Kd.S_drewN|apply Kd.S_drew));exact HO539.out) (Kd.S_base ho0) hb);have n1_:=mk_ (rb_ (qr_ HO541) hb);have n2_:=mk_ (rb_ (qr_ HO543) hb);have n3_:=mk_ (Kd.S_lower (Kd.S_new' ho0 (Kd.S_lt (by (with_reducible repeat (first|apply Kd.S_alloc|apply Kd.S_drewN|apply Kd.S_drew));exact HO539.out))) (bz_ (qb_ HB)));have n4_:=mk_ (st_ (qb_ HB) hb);clear HO539 HO541 HO543 HB;have HO539:=n0_;have HO541:=n1_;have HO543:=n2_;have HO546:=n3_;have HB:=n4_;clear n0_ n1_ n2_ n3_ n4_;(try clear hb);(try clear hb2);(try clear hk);(try clear hi);(try clear ho0))|((with_reducible refine gate_dst (N:=8) rfl ?_);(try (refine gate_guard (by rfl) ?_;dsimp only));refine box_event ?hg (N:=8) ?hd (cs:=#[.slice none 0 0,.int .i64 0,.int .i64 0,.bool false]) (t:=28) ?hr ?_;(case hd => rfl);(case hg => rfl);(case hr => first|(go_simp;done)|(go_simp;rfl));intro gb551 hg w12 hbox hb;have n0_:=mk_ (Kd.S_below (by (with_reducible repeat (first|apply Kd.S_alloc|apply Kd.S_drewN|apply Kd.S_drew));exact HO539.out) hb);have n1_:=mk_ (rb_ (qr_ HO541) hb);have n2_:=mk_ (rb_ (qr_ HO543) hb);have n3_:=mk_ (Kd.S_below (by (with_reducible repeat (first|apply Kd.S_alloc|apply Kd.S_drewN|apply Kd.S_drew));exact HO546.out) hb);have n4_:=mk_ (st_ (qb_ HB) hb);have n5_:=mk_ (hbox);have n6_:=mk_ ((by rw [hg];exact (bz_ (qb_ HB)) : w.heap.size ≤ gb551));have n7_:=mk_ ((by rw [hg];exact (bz_ (qb_ HB)) : w.heap.size ≤ gb551));clear HO539 HO541 HO543 HO546 HB;have HO539:=n0_;have HO541:=n1_;have HO543:=n2_;have HO546:=n3_;have HB:=n4_;have BK551:=n5_;have GW551:=n6_;have GE551:=n7_;clear n0_ n1_ n2_ n3_ n4_ n5_ n6_ n7_ hb hbox hg;obtain ⟨Ao13,co13,eo13⟩:=Kd.S_slice HO546.out;subst eo13;have hcz14_0 : w12.cell? ⟨gb551,0,none⟩ = some (.slice none 0 0):=(bc_ BK551.out 0).trans rfl;have hcz14_1 : w12.cell? ⟨gb551,1,none⟩ = some (.int .i64 0):=(bc_ BK551.out 1).trans rfl;have hcz14_2 : w12.cell? ⟨gb551,2,none⟩ = some (.int .i64 0):=(bc_ BK551.out 2).trans rfl;have hcz14_3 : w12.cell? ⟨gb551,3,none⟩ = some (.bool false):=(bc_ BK551.out 3).trans rfl;have hfz14_0:=bf_ BK551.out 0;have hfz14_1:=bf_ BK551.out 1;have hfz14_2:=bf_ BK551.out 2;have hfz14_3:=bf_ BK551.out 3)|((with_reducible refine gate_callee (f:=11) rfl ?_);refine goesL_ (some 38) rfl rfl Try.func11 (by kernel_rfl) rfl #[.int .i64 t533,.slice Ao8 t534.length co8,.slice Ao9 t535.length co9,.slice Ao10 t536.length co10,.int .i64 t537] rfl qm_ ?_;(with_reducible refine (spec_RunLink.calls k t533 _ _ t534 _ _ t535 _ _ t536 t537 t552 t555 t556 t557 t558 _ ?side1 ?side2 ?side3 ?side4 ?side5 ?side6 A5.out).mono ?_);(case side1 => refine (Kd.S_reads' (e:=22) (base:=w.heap.size) (ok:=fun k_ => (True ∧ some k_ ≠ (.slice Ao13 t544.length co13 : Value).ownBlock)) (n:=t534.length) (c:=co8) ?_).2.2;exact (by (with_reducible repeat (first|apply Kd.S_alloc|apply Kd.S_drewN|apply Kd.S_drew));exact (Kd.S_mono (Kd.S_far (p:=⟨gb551,3,none⟩) (Kd.S_far (p:=⟨gb551,2,none⟩) (Kd.S_far (p:=⟨gb551,1,none⟩) (Kd.S_far (p:=⟨gb551,0,none⟩) (Kd.S_types HO539.out BK551.out (by decide)) (λ_ h=>h.2) (.slice Ao13 t544.length co13)) (λ_ h=>h.2) (.int .i64 t547)) (λ_ h=>h.2) (.int .i64 t548)) (λ_ h=>h.2) (.bool t549)) (λ_ h=>h.1))));(case side2 => exact (Kd.S_reads' HO539.out).2.1);(case side3 => refine (rr_ (e:=3) (base:=w.heap.size) (ok:=fun k_ => some k_ ≠ (.slice Ao10 t536.length co10 : Value).ownBlock) (n:=t535.length) (c:=co9) ?_).2.2;exact (by (with_reducible repeat (first|apply ra_|apply rn_|apply rd_));exact (rm_ (rf_ (p:=⟨gb551,3,none⟩) (rf_ (p:=⟨gb551,2,none⟩) (rf_ (p:=⟨gb551,1,none⟩) (rf_ (p:=⟨gb551,0,none⟩) (rt_ HO541.out BK551.out (by decide)) (λ_ h=>h.2) (.slice Ao13 t544.length co13)) (λ_ h=>h.2) (.int .i64 t547)) (λ_ h=>h.2) (.int .i64 t548)) (λ_ h=>h.2) (.bool t549)) (λ_ h=>h.1))));(case side4 => exact (rr_ HO541.out).2.1);(case side5 => refine (rr_ (e:=3) (base:=w.heap.size) (ok:=fun k_ => some k_ ≠ (.slice Ao9 t535.length co9 : Value).ownBlock) (n:=t536.length) (c:=co10) ?_).2.2;exact (by (with_reducible repeat (first|apply ra_|apply rn_|apply rd_));exact (rm_ (rf_ (p:=⟨gb551,3,none⟩) (rf_ (p:=⟨gb551,2,none⟩) (rf_ (p:=⟨gb551,1,none⟩) (rf_ (p:=⟨gb551,0,none⟩) (rt_ HO543.out BK551.out (by decide)) (λ_ h=>h.2) (.slice Ao13 t544.length co13)) (λ_ h=>h.2) (.int .i64 t547)) (λ_ h=>h.2) (.int .i64 t548)) (λ_ h=>h.2) (.bool t549)) (λ_ h=>h.1))));(case side6 => exact (rr_ HO543.out).2.1);rintro e w15 ⟨v553,rfl,ho0,hb⟩;refine ⟨_,rfl,?_⟩;have n0_:=mk_ (Kd.S_elder' (by (with_reducible repeat (first|apply Kd.S_alloc|apply Kd.S_drewN|apply Kd.S_drew));exact (Kd.S_mono (Kd.S_far (p:=⟨gb551,3,none⟩) (Kd.S_far (p:=⟨gb551,2,none⟩) (Kd.S_far (p:=⟨gb551,1,none⟩) (Kd.S_far (p:=⟨gb551,0,none⟩) (Kd.S_types HO539.out BK551.out (by decide)) (λ_ h=>h.2) (.slice Ao13 t544.length co13)) (λ_ h=>h.2) (.int .i64 t547)) (λ_ h=>h.2) (.int .i64 t548)) (λ_ h=>h.2) (.bool t549)) (λ_ h=>h.1))) (Kd.S_base ho0) hb);have n1_:=mk_ (rb_ (by (with_reducible repeat (first|apply ra_|apply rn_|apply rd_));exact (rm_ (rf_ (p:=⟨gb551,3,none⟩) (rf_ (p:=⟨gb551,2,none⟩) (rf_ (p:=⟨gb551,1,none⟩) (rf_ (p:=⟨gb551,0,none⟩) (rt_ HO541.out BK551.out (by decide)) (λ_ h=>h.2) (.slice Ao13 t544.length co13)) (λ_ h=>h.2) (.int .i64 t547)) (λ_ h=>h.2) (.int .i64 t548)) (λ_ h=>h.2) (.bool t549)) (λ_ h=>h.1))) hb);have n2_:=mk_ (rb_ (by (with_reducible repeat (first|apply ra_|apply rn_|apply rd_));exact (rm_ (rf_ (p:=⟨gb551,3,none⟩) (rf_ (p:=⟨gb551,2,none⟩) (rf_ (p:=⟨gb551,1,none⟩) (rf_ (p:=⟨gb551,0,none⟩) (rt_ HO543.out BK551.out (by decide)) (λ_ h=>h.2) (.slice Ao13 t544.length co13)) (λ_ h=>h.2) (.int .i64 t547)) (λ_ h=>h.2) (.int .i64 t548)) (λ_ h=>h.2) (.bool t549)) (λ_ h=>h.1))) hb);have n3_:=mk_ (Kd.S_elder' (by (with_reducible repeat (first|apply Kd.S_alloc|apply Kd.S_drewN|apply Kd.S_drew));exact (Kd.S_mono (Kd.S_far (p:=⟨gb551,3,none⟩) (Kd.S_far (p:=⟨gb551,2,none⟩) (Kd.S_far (p:=⟨gb551,1,none⟩) (Kd.S_far (p:=⟨gb551,0,none⟩) (Kd.S_types HO546.out BK551.out (by decide)) (λ_ h=>h.2) (.slice Ao13 t544.length co13)) (λ_ h=>h.2) (.int .i64 t547)) (λ_ h=>h.2) (.int .i64 t548)) (λ_ h=>h.2) (.bool t549)) (λ_ h=>h.1))) (Kd.S_base ho0) hb);have n4_:=mk_ (Kd.S_lower (Kd.S_new' (Kd.S_new' ho0 (Kd.S_lt (by (with_reducible repeat (first|apply Kd.S_alloc|apply Kd.S_drewN|apply Kd.S_drew));exact (Kd.S_mono (Kd.S_far (p:=⟨gb551,3,none⟩) (Kd.S_far (p:=⟨gb551,2,none⟩) (Kd.S_far (p:=⟨gb551,1,none⟩) (Kd.S_far (p:=⟨gb551,0,none⟩) (Kd.S_types HO539.out BK551.out (by decide)) (λ_ h=>h.2) (.slice Ao13 t544.length co13)) (λ_ h=>h.2) (.int .i64 t547)) (λ_ h=>h.2) (.int .i64 t548)) (λ_ h=>h.2) (.bool t549)) (λ_ h=>h.1))))) (Kd.S_lt (by (with_reducible repeat (first|apply Kd.S_alloc|apply Kd.S_drewN|apply Kd.S_drew));exact (Kd.S_mono (Kd.S_far (p:=⟨gb551,3,none⟩) (Kd.S_far (p:=⟨gb551,2,none⟩) (Kd.S_far (p:=⟨gb551,1,none⟩) (Kd.S_far (p:=⟨gb551,0,none⟩) (Kd.S_types HO546.out BK551.out (by decide)) (λ_ h=>h.2) (.slice Ao13 t544.length co13)) (λ_ h=>h.2) (.int .i64 t547)) (λ_ h=>h.2) (.int .i64 t548)) (λ_ h=>h.2) (.bool t549)) (λ_ h=>h.1))))) (bz_ (qc_ HB GE551)));have n5_:=mk_ (blk_below (g:=gb551) (o:=.cells #[.slice Ao13 t544.length co13,.int .i64 t547,.int .i64 t548,.bool t549] 28 (0,0)) (by (with_reducible repeat (first|apply kn_|apply kd_|apply ka_));refine blk_put (cs:=#[.slice Ao13 t544.length co13,.int .i64 t547,.int .i64 t548,.bool false]) ?_ 3 _ rfl;(with_reducible repeat (first|apply kn_|apply kd_|apply ka_));refine blk_put (cs:=#[.slice Ao13 t544.length co13,.int .i64 t547,.int .i64 0,.bool false]) ?_ 2 _ rfl;(with_reducible repeat (first|apply kn_|apply kd_|apply ka_));refine blk_put (cs:=#[.slice Ao13 t544.length co13,.int .i64 0,.int .i64 0,.bool false]) ?_ 1 _ rfl;(with_reducible repeat (first|apply kn_|apply kd_|apply ka_));refine blk_put (cs:=#[.slice none 0 0,.int .i64 0,.int .i64 0,.bool false]) ?_ 0 _ rfl;(with_reducible repeat (first|apply kn_|apply kd_|apply ka_));exact BK551.out) hb);have n6_:=mk_ (st_ (qc_ HB GE551) hb);clear HO539 HO541 HO543 HO546 BK551 HB;have HO539:=n0_;have HO541:=n1_;have HO543:=n2_;have HO546:=n3_;have HO554:=n4_;have BK551:=n5_;have HB:=n6_;clear n0_ n1_ n2_ n3_ n4_ n5_ n6_;(try clear hb);(try clear hb2);(try clear hk);(try clear hi);(try clear ho0))|((with_reducible refine gate_dst (N:=10) rfl ?_);(try (refine gate_guard (by rfl) ?_;dsimp only));refine box_event ?hg (N:=10) ?hd (cs:=#[.slice none 0 0,.int .i64 0,.int .i64 0,.bool false]) (t:=28) ?hr ?_;(case hd => rfl);(case hg => rfl);(case hr => first|(go_simp;done)|(go_simp;rfl));intro gb559 hg w16 hbox hb;have n0_:=mk_ (Kd.S_below (by (with_reducible repeat (first|apply Kd.S_alloc|apply Kd.S_drewN|apply Kd.S_drew));exact HO539.out) hb);have n1_:=mk_ (rb_ (qr_ HO541) hb);have n2_:=mk_ (rb_ (qr_ HO543) hb);have n3_:=mk_ (Kd.S_below (by (with_reducible repeat (first|apply Kd.S_alloc|apply Kd.S_drewN|apply Kd.S_drew));exact HO546.out) hb);have n4_:=mk_ (Kd.S_below (by (with_reducible repeat (first|apply Kd.S_alloc|apply Kd.S_drewN|apply Kd.S_drew));exact HO554.out) hb);have n5_:=mk_ (blk_below (g:=gb551) (o:=.cells #[.slice Ao13 t544.length co13,.int .i64 t547,.int .i64 t548,.bool t549] 28 (0,0)) (qk_ BK551) hb);have n6_:=mk_ (st_ (qc_ HB GE551) hb);have n7_:=mk_ (hbox);have n8_:=mk_ ((by rw [hg];exact (bz_ (qc_ HB GE551)) : w.heap.size ≤ gb559));have n9_:=mk_ ((by rw [hg];exact (bz_ (qc_ HB GE551)) : w.heap.size ≤ gb559));have n10_:=mk_ ((by rw [hg];exact Nat.ne_of_lt (blk_lt (g:=gb551) (o:=.cells #[.slice Ao13 t544.length co13,.int .i64 t547,.int .i64 t548,.bool t549] 28 (0,0)) (qk_ BK551)) : gb551 ≠ gb559));have n11_:=mk_ ((by rw [hg];exact Nat.ne_of_gt (blk_lt (g:=gb551) (o:=.cells #[.slice Ao13 t544.length co13,.int .i64 t547,.int .i64 t548,.bool t549] 28 (0,0)) (qk_ BK551)) : gb559 ≠ gb551));clear HO539 HO541 HO543 HO546 HO554 BK551 HB;have HO539:=n0_;have HO541:=n1_;have HO543:=n2_;have HO546:=n3_;have HO554:=n4_;have BK551:=n5_;have HB:=n6_;have BK559:=n7_;have GW559:=n8_;have GE559:=n9_;have NB551_559:=n10_;have NB559_551:=n11_;clear n0_ n1_ n2_ n3_ n4_ n5_ n6_ n7_ n8_ n9_ n10_ n11_ hb hbox hg;obtain ⟨Ao17,co17,eo17⟩:=Kd.S_slice HO554.out;subst eo17;have hnb18:=NB559_551.out;have hnc18:=NB551_559.out;have hcz19_0 : w16.cell? ⟨gb559,0,none⟩ = some (.slice none 0 0):=(bc_ BK559.out 0).trans rfl;have hcz19_1 : w16.cell? ⟨gb559,1,none⟩ = some (.int .i64 0):=(bc_ BK559.out 1).trans rfl;have hcz19_2 : w16.cell? ⟨gb559,2,none⟩ = some (.int .i64 0):=(bc_ BK559.out 2).trans rfl;have hcz19_3 : w16.cell? ⟨gb559,3,none⟩ = some (.bool false):=(bc_ BK559.out 3).trans rfl;have hfz19_0:=bf_ BK559.out 0;have hfz19_1:=bf_ BK559.out 1;have hfz19_2:=bf_ BK559.out 2;have hfz19_3:=bf_ BK559.out 3))
  (try simp only [Act.put,sx_,sy_,sz_])
  go_cut [76] (fun v76 wc => ∃ (kq : Nat) (x76_5 : Bool),v76 = .bool x76_5 ∧ Aside0 (laws_FnLinkSafe.j0 kq t534 t537 t550 t558 x76_5 t544 t547 t548 t549 t552 t555 t556 t557 = some r) ∧ Aside0 (kq ≤ k) ∧ Aside0 (Kd.S (Kd.slice 5 (Kd.int .u8)) 22 wc w.heap.size (fun k_ => some k_ ≠ ((.slice Ao13 t544.length co13) : Value).ownBlock ∧ some k_ ≠ ((.slice Ao17 t552.length co17) : Value).ownBlock) (.slice Ao8 t534.length co8) t534) ∧ Aside0 (Kd.S (Kd.slice 5 (Kd.int .u8)) 22 wc w.heap.size (fun k_ => some k_ ≠ ((.slice Ao8 t534.length co8) : Value).ownBlock ∧ some k_ ≠ ((.slice Ao17 t552.length co17) : Value).ownBlock) (.slice Ao13 t544.length co13) t544) ∧ Aside0 (Kd.S (Kd.slice 5 (Kd.int .u8)) 22 wc w.heap.size (fun k_ => some k_ ≠ ((.slice Ao8 t534.length co8) : Value).ownBlock ∧ some k_ ≠ ((.slice Ao13 t544.length co13) : Value).ownBlock) (.slice Ao17 t552.length co17) t552) ∧ Aside0 (wc.heap[gb551]? = some (.cells #[(.slice Ao13 t544.length co13),.int .i64 t547,.int .i64 t548,.bool t549] 28 (0,0))) ∧ Aside0 (wc.heap[gb559]? = some (.cells #[(.slice Ao17 t552.length co17),.int .i64 t555,.int .i64 t556,.bool t557] 28 (0,0))) ∧ Aside0 (Below w.heap.size w wc))
  case first =>
   have H:=HC6.out
   clear HC6
   by_cases c20 : (t550 != t558) = true
   ·rw [if_pos c20] at H
    have c20b0 : (t550 != t558) = true:=c20
    (try (have c20b1 : decide (t550 = t558) = false:=by simpa using c20))
    (try (have c20b2 : (t550 == t558) = false:=by simpa using c20))
    (try (have c20b3 : ¬ (t550 = t558):=by simpa using c20))
    clear c20
    (first|rw [c20b0]|(simp only [i64_w,i32_w];rw [c20b0])|skip)
    have H':=mk_ H
    clear H
    go_wp2
    go_meet
    case rel => exact ⟨_,(true),qf_,H',⟨by first|omega|exact Nat.le_refl _⟩,⟨by (with_reducible repeat (first|apply Kd.S_alloc|apply Kd.S_drewN|apply Kd.S_drew));exact Kd.S_mono (Kd.S_far (p:=⟨gb559,3,none⟩) (Kd.S_far (p:=⟨gb559,2,none⟩) (Kd.S_far (p:=⟨gb559,1,none⟩) (Kd.S_far (p:=⟨gb559,0,none⟩) (Kd.S_types HO539.out BK559.out (by decide)) (λ_ h=>h.2) (.slice Ao17 t552.length co17)) (λ_ h=>h.2) (.int .i64 t555)) (λ_ h=>h.2) (.int .i64 t556)) (λ_ h=>h.2) (.bool t557)) (fun _ hk => ⟨hk.1.1.2,hk.1.2⟩)⟩,⟨by (with_reducible repeat (first|apply Kd.S_alloc|apply Kd.S_drewN|apply Kd.S_drew));exact Kd.S_mono (Kd.S_far (p:=⟨gb559,3,none⟩) (Kd.S_far (p:=⟨gb559,2,none⟩) (Kd.S_far (p:=⟨gb559,1,none⟩) (Kd.S_far (p:=⟨gb559,0,none⟩) (Kd.S_types HO546.out BK559.out (by decide)) (λ_ h=>h.2) (.slice Ao17 t552.length co17)) (λ_ h=>h.2) (.int .i64 t555)) (λ_ h=>h.2) (.int .i64 t556)) (λ_ h=>h.2) (.bool t557)) (fun _ hk => ⟨hk.1.1.2,hk.1.2⟩)⟩,⟨by (with_reducible repeat (first|apply Kd.S_alloc|apply Kd.S_drewN|apply Kd.S_drew));exact Kd.S_mono (Kd.S_far (p:=⟨gb559,3,none⟩) (Kd.S_far (p:=⟨gb559,2,none⟩) (Kd.S_far (p:=⟨gb559,1,none⟩) (Kd.S_far (p:=⟨gb559,0,none⟩) (Kd.S_types HO554.out BK559.out (by decide)) (λ_ h=>h.2) (.slice Ao17 t552.length co17)) (λ_ h=>h.2) (.int .i64 t555)) (λ_ h=>h.2) (.int .i64 t556)) (λ_ h=>h.2) (.bool t557)) (fun _ hk => ⟨hk.1.1.2,hk.1.2⟩)⟩,⟨by (with_reducible repeat (first|apply kn_|apply kd_|apply ka_));refine blk_far ?_ NB551_559.out _;(with_reducible repeat (first|apply kn_|apply kd_|apply ka_));refine blk_far ?_ NB551_559.out _;(with_reducible repeat (first|apply kn_|apply kd_|apply ka_));refine blk_far ?_ NB551_559.out _;(with_reducible repeat (first|apply kn_|apply kd_|apply ka_));refine blk_far ?_ NB551_559.out _;(with_reducible repeat (first|apply kn_|apply kd_|apply ka_));exact BK551.out⟩,⟨by (with_reducible repeat (first|apply kn_|apply kd_|apply ka_));refine blk_put (cs:=#[.slice Ao17 t552.length co17,.int .i64 t555,.int .i64 t556,.bool false]) ?_ 3 _ rfl;(with_reducible repeat (first|apply kn_|apply kd_|apply ka_));refine blk_put (cs:=#[.slice Ao17 t552.length co17,.int .i64 t555,.int .i64 0,.bool false]) ?_ 2 _ rfl;(with_reducible repeat (first|apply kn_|apply kd_|apply ka_));refine blk_put (cs:=#[.slice Ao17 t552.length co17,.int .i64 0,.int .i64 0,.bool false]) ?_ 1 _ rfl;(with_reducible repeat (first|apply kn_|apply kd_|apply ka_));refine blk_put (cs:=#[.slice none 0 0,.int .i64 0,.int .i64 0,.bool false]) ?_ 0 _ rfl;(with_reducible repeat (first|apply kn_|apply kd_|apply ka_));exact BK559.out⟩,⟨u5_ HB GE551 GE559⟩⟩
   ·rw [if_neg c20] at H
    have c20b0 : (t550 != t558) = false:=by simpa using c20
    (try (have c20b1 : decide (t550 = t558) = true:=by simpa using c20))
    (try (have c20b2 : (t550 == t558) = true:=by simpa using c20))
    clear c20
    (first|rw [c20b0]|(simp only [i64_w,i32_w];rw [c20b0])|skip)
    replace H:=Option.bind_eq_some_iff.mp H
    obtain ⟨t560,A210,H⟩:=H
    replace H : (if t560 = true then (if t547 = t555 then (if t548 = t556 then (if (t549 != t557) = true then (laws_FnLinkSafe.j0 k t534 t537 t550 t558 true t544 t547 t548 t549 t552 t555 t556 t557) else (laws_FnLinkSafe.j0 k t534 t537 t550 t558 (!t550) t544 t547 t548 t549 t552 t555 t556 t557)) else (laws_FnLinkSafe.j0 k t534 t537 t550 t558 true t544 t547 t548 t549 t552 t555 t556 t557)) else (laws_FnLinkSafe.j0 k t534 t537 t550 t558 true t544 t547 t548 t549 t552 t555 t556 t557)) else (laws_FnLinkSafe.j0 k t534 t537 t550 t558 true t544 t547 t548 t549 t552 t555 t556 t557)) = some r:=H
    have A21:=mk_ A210
    clear A210
    by_cases c22 : t560 = true
    ·subst c22
     have H1 : (if t547 = t555 then (if t548 = t556 then (if (t549 != t557) = true then (laws_FnLinkSafe.j0 k t534 t537 t550 t558 true t544 t547 t548 t549 t552 t555 t556 t557) else (laws_FnLinkSafe.j0 k t534 t537 t550 t558 (!t550) t544 t547 t548 t549 t552 t555 t556 t557)) else (laws_FnLinkSafe.j0 k t534 t537 t550 t558 true t544 t547 t548 t549 t552 t555 t556 t557)) else (laws_FnLinkSafe.j0 k t534 t537 t550 t558 true t544 t547 t548 t549 t552 t555 t556 t557)) = some r:=by rw [if_pos rfl] at H;exact H
     clear H
     have H:=H1
     clear H1
     by_cases c23 : t547 = t555
     ·rw [if_pos c23] at H
      have c23b0 : (t547 == t555) = true:=beq_iff_eq.mpr c23
      have c23b1 : (t547 != t555) = false:=bne_eq_false_iff_eq.mpr c23
      clear c23
      by_cases c24 : t548 = t556
      ·rw [if_pos c24] at H
       have c24b0 : (t548 == t556) = true:=beq_iff_eq.mpr c24
       have c24b1 : (t548 != t556) = false:=bne_eq_false_iff_eq.mpr c24
       clear c24
       by_cases c25 : (t549 != t557) = true
       ·rw [if_pos c25] at H
        have c25b0 : (t549 != t557) = true:=c25
        (try (have c25b1 : decide (t549 = t557) = false:=by simpa using c25))
        (try (have c25b2 : (t549 == t557) = false:=by simpa using c25))
        (try (have c25b3 : ¬ (t549 = t557):=by simpa using c25))
        clear c25
        have H':=mk_ H
        clear H
        have hnb26:=NB551_559.out
        have hnc26:=NB559_551.out
        have hcz27_0 : w16.cell? ⟨gb551,0,none⟩ = some (.slice Ao13 t544.length co13):=(bc_ BK551.out 0).trans rfl
        have hcz27_1 : w16.cell? ⟨gb551,1,none⟩ = some (.int .i64 t547):=(bc_ BK551.out 1).trans rfl
        have hcz27_2 : w16.cell? ⟨gb551,2,none⟩ = some (.int .i64 t548):=(bc_ BK551.out 2).trans rfl
        have hcz27_3 : w16.cell? ⟨gb551,3,none⟩ = some (.bool t549):=(bc_ BK551.out 3).trans rfl
        have hfz27_0:=bf_ BK551.out 0
        have hfz27_1:=bf_ BK551.out 1
        have hfz27_2:=bf_ BK551.out 2
        have hfz27_3:=bf_ BK551.out 3
        have hcz28_0 : w16.cell? ⟨gb559,0,none⟩ = some (.slice none 0 0):=(bc_ BK559.out 0).trans rfl
        have hcz28_1 : w16.cell? ⟨gb559,1,none⟩ = some (.int .i64 0):=(bc_ BK559.out 1).trans rfl
        have hcz28_2 : w16.cell? ⟨gb559,2,none⟩ = some (.int .i64 0):=(bc_ BK559.out 2).trans rfl
        have hcz28_3 : w16.cell? ⟨gb559,3,none⟩ = some (.bool false):=(bc_ BK559.out 3).trans rfl
        have hfz28_0:=bf_ BK559.out 0
        have hfz28_1:=bf_ BK559.out 1
        have hfz28_2:=bf_ BK559.out 2
        have hfz28_3:=bf_ BK559.out 3
        go_wp2_with (first|(go_at_call 20;(with_reducible refine (laws_wnTexts.calls k _ _ t544 _ _ t552 true _ ?side1 ?side2 ?side3 ?side4 A21.out).mono ?_);(case side1 => refine (Kd.S_reads' (e:=22) (base:=w.heap.size) (ok:=fun k_ => ((True ∧ some k_ ≠ (.slice Ao8 t534.length co8 : Value).ownBlock) ∧ some k_ ≠ (.slice Ao17 t552.length co17 : Value).ownBlock)) (n:=t544.length) (c:=co13) ?_).2.2;exact (by (with_reducible repeat (first|apply Kd.S_alloc|apply Kd.S_drewN|apply Kd.S_drew));exact (Kd.S_mono (Kd.S_far (p:=⟨gb559,3,none⟩) (Kd.S_far (p:=⟨gb559,2,none⟩) (Kd.S_far (p:=⟨gb559,1,none⟩) (Kd.S_far (p:=⟨gb559,0,none⟩) (Kd.S_types HO546.out BK559.out (by decide)) (λ_ h=>h.2) (.slice Ao17 t552.length co17)) (λ_ h=>h.2) (.int .i64 t555)) (λ_ h=>h.2) (.int .i64 t556)) (λ_ h=>h.2) (.bool t557)) (λ_ h=>h.1))));(case side2 => exact (Kd.S_reads' HO546.out).2.1);(case side3 => refine (Kd.S_reads' (e:=22) (base:=w.heap.size) (ok:=fun k_ => ((True ∧ some k_ ≠ (.slice Ao8 t534.length co8 : Value).ownBlock) ∧ some k_ ≠ (.slice Ao13 t544.length co13 : Value).ownBlock)) (n:=t552.length) (c:=co17) ?_).2.2;exact (by (with_reducible repeat (first|apply Kd.S_alloc|apply Kd.S_drewN|apply Kd.S_drew));exact (Kd.S_mono (Kd.S_far (p:=⟨gb559,3,none⟩) (Kd.S_far (p:=⟨gb559,2,none⟩) (Kd.S_far (p:=⟨gb559,1,none⟩) (Kd.S_far (p:=⟨gb559,0,none⟩) (Kd.S_types HO554.out BK559.out (by decide)) (λ_ h=>h.2) (.slice Ao17 t552.length co17)) (λ_ h=>h.2) (.int .i64 t555)) (λ_ h=>h.2) (.int .i64 t556)) (λ_ h=>h.2) (.bool t557)) (λ_ h=>h.1))));(case side4 => exact (Kd.S_reads' HO554.out).2.1);rintro e w' ⟨rfl,⟨nd,rfl⟩⟩))
        go_meet
        case rel => exact ⟨_,(true),qf_,H',⟨by first|omega|exact Nat.le_refl _⟩,⟨by (with_reducible repeat (first|apply Kd.S_alloc|apply Kd.S_drewN|apply Kd.S_drew));exact Kd.S_mono (Kd.S_far (p:=⟨gb559,3,none⟩) (Kd.S_far (p:=⟨gb559,2,none⟩) (Kd.S_far (p:=⟨gb559,1,none⟩) (Kd.S_far (p:=⟨gb559,0,none⟩) (Kd.S_types HO539.out BK559.out (by decide)) (λ_ h=>h.2) (.slice Ao17 t552.length co17)) (λ_ h=>h.2) (.int .i64 t555)) (λ_ h=>h.2) (.int .i64 t556)) (λ_ h=>h.2) (.bool t557)) (fun _ hk => ⟨hk.1.1.2,hk.1.2⟩)⟩,⟨by (with_reducible repeat (first|apply Kd.S_alloc|apply Kd.S_drewN|apply Kd.S_drew));exact Kd.S_mono (Kd.S_far (p:=⟨gb559,3,none⟩) (Kd.S_far (p:=⟨gb559,2,none⟩) (Kd.S_far (p:=⟨gb559,1,none⟩) (Kd.S_far (p:=⟨gb559,0,none⟩) (Kd.S_types HO546.out BK559.out (by decide)) (λ_ h=>h.2) (.slice Ao17 t552.length co17)) (λ_ h=>h.2) (.int .i64 t555)) (λ_ h=>h.2) (.int .i64 t556)) (λ_ h=>h.2) (.bool t557)) (fun _ hk => ⟨hk.1.1.2,hk.1.2⟩)⟩,⟨by (with_reducible repeat (first|apply Kd.S_alloc|apply Kd.S_drewN|apply Kd.S_drew));exact Kd.S_mono (Kd.S_far (p:=⟨gb559,3,none⟩) (Kd.S_far (p:=⟨gb559,2,none⟩) (Kd.S_far (p:=⟨gb559,1,none⟩) (Kd.S_far (p:=⟨gb559,0,none⟩) (Kd.S_types HO554.out BK559.out (by decide)) (λ_ h=>h.2) (.slice Ao17 t552.length co17)) (λ_ h=>h.2) (.int .i64 t555)) (λ_ h=>h.2) (.int .i64 t556)) (λ_ h=>h.2) (.bool t557)) (fun _ hk => ⟨hk.1.1.2,hk.1.2⟩)⟩,⟨by (with_reducible repeat (first|apply kn_|apply kd_|apply ka_));refine blk_far ?_ NB551_559.out _;(with_reducible repeat (first|apply kn_|apply kd_|apply ka_));refine blk_far ?_ NB551_559.out _;(with_reducible repeat (first|apply kn_|apply kd_|apply ka_));refine blk_far ?_ NB551_559.out _;(with_reducible repeat (first|apply kn_|apply kd_|apply ka_));refine blk_far ?_ NB551_559.out _;(with_reducible repeat (first|apply kn_|apply kd_|apply ka_));exact BK551.out⟩,⟨by (with_reducible repeat (first|apply kn_|apply kd_|apply ka_));refine blk_put (cs:=#[.slice Ao17 t552.length co17,.int .i64 t555,.int .i64 t556,.bool false]) ?_ 3 _ rfl;(with_reducible repeat (first|apply kn_|apply kd_|apply ka_));refine blk_put (cs:=#[.slice Ao17 t552.length co17,.int .i64 t555,.int .i64 0,.bool false]) ?_ 2 _ rfl;(with_reducible repeat (first|apply kn_|apply kd_|apply ka_));refine blk_put (cs:=#[.slice Ao17 t552.length co17,.int .i64 0,.int .i64 0,.bool false]) ?_ 1 _ rfl;(with_reducible repeat (first|apply kn_|apply kd_|apply ka_));refine blk_put (cs:=#[.slice none 0 0,.int .i64 0,.int .i64 0,.bool false]) ?_ 0 _ rfl;(with_reducible repeat (first|apply kn_|apply kd_|apply ka_));exact BK559.out⟩,⟨u5_ HB GE551 GE559⟩⟩
       ·rw [if_neg c25] at H
        have c25b0 : (t549 != t557) = false:=by simpa using c25
        (try (have c25b1 : decide (t549 = t557) = true:=by simpa using c25))
        (try (have c25b2 : (t549 == t557) = true:=by simpa using c25))
        clear c25
        have H':=mk_ H
        clear H
        have hnb29:=NB551_559.out
        have hnc29:=NB559_551.out
        have hcz30_0 : w16.cell? ⟨gb551,0,none⟩ = some (.slice Ao13 t544.length co13):=(bc_ BK551.out 0).trans rfl
        have hcz30_1 : w16.cell? ⟨gb551,1,none⟩ = some (.int .i64 t547):=(bc_ BK551.out 1).trans rfl
        have hcz30_2 : w16.cell? ⟨gb551,2,none⟩ = some (.int .i64 t548):=(bc_ BK551.out 2).trans rfl
        have hcz30_3 : w16.cell? ⟨gb551,3,none⟩ = some (.bool t549):=(bc_ BK551.out 3).trans rfl
        have hfz30_0:=bf_ BK551.out 0
        have hfz30_1:=bf_ BK551.out 1
        have hfz30_2:=bf_ BK551.out 2
        have hfz30_3:=bf_ BK551.out 3
        have hcz31_0 : w16.cell? ⟨gb559,0,none⟩ = some (.slice none 0 0):=(bc_ BK559.out 0).trans rfl
        have hcz31_1 : w16.cell? ⟨gb559,1,none⟩ = some (.int .i64 0):=(bc_ BK559.out 1).trans rfl
        have hcz31_2 : w16.cell? ⟨gb559,2,none⟩ = some (.int .i64 0):=(bc_ BK559.out 2).trans rfl
        have hcz31_3 : w16.cell? ⟨gb559,3,none⟩ = some (.bool false):=(bc_ BK559.out 3).trans rfl
        have hfz31_0:=bf_ BK559.out 0
        have hfz31_1:=bf_ BK559.out 1
        have hfz31_2:=bf_ BK559.out 2
        have hfz31_3:=bf_ BK559.out 3
        go_wp2_with (first|(go_at_call 20;(with_reducible refine (laws_wnTexts.calls k _ _ t544 _ _ t552 true _ ?side1 ?side2 ?side3 ?side4 A21.out).mono ?_);(case side1 => refine (Kd.S_reads' (e:=22) (base:=w.heap.size) (ok:=fun k_ => ((True ∧ some k_ ≠ (.slice Ao8 t534.length co8 : Value).ownBlock) ∧ some k_ ≠ (.slice Ao17 t552.length co17 : Value).ownBlock)) (n:=t544.length) (c:=co13) ?_).2.2;exact (by (with_reducible repeat (first|apply Kd.S_alloc|apply Kd.S_drewN|apply Kd.S_drew));exact (Kd.S_mono (Kd.S_far (p:=⟨gb559,3,none⟩) (Kd.S_far (p:=⟨gb559,2,none⟩) (Kd.S_far (p:=⟨gb559,1,none⟩) (Kd.S_far (p:=⟨gb559,0,none⟩) (Kd.S_types HO546.out BK559.out (by decide)) (λ_ h=>h.2) (.slice Ao17 t552.length co17)) (λ_ h=>h.2) (.int .i64 t555)) (λ_ h=>h.2) (.int .i64 t556)) (λ_ h=>h.2) (.bool t557)) (λ_ h=>h.1))));(case side2 => exact (Kd.S_reads' HO546.out).2.1);(case side3 => refine (Kd.S_reads' (e:=22) (base:=w.heap.size) (ok:=fun k_ => ((True ∧ some k_ ≠ (.slice Ao8 t534.length co8 : Value).ownBlock) ∧ some k_ ≠ (.slice Ao13 t544.length co13 : Value).ownBlock)) (n:=t552.length) (c:=co17) ?_).2.2;exact (by (with_reducible repeat (first|apply Kd.S_alloc|apply Kd.S_drewN|apply Kd.S_drew));exact (Kd.S_mono (Kd.S_far (p:=⟨gb559,3,none⟩) (Kd.S_far (p:=⟨gb559,2,none⟩) (Kd.S_far (p:=⟨gb559,1,none⟩) (Kd.S_far (p:=⟨gb559,0,none⟩) (Kd.S_types HO554.out BK559.out (by decide)) (λ_ h=>h.2) (.slice Ao17 t552.length co17)) (λ_ h=>h.2) (.int .i64 t555)) (λ_ h=>h.2) (.int .i64 t556)) (λ_ h=>h.2) (.bool t557)) (λ_ h=>h.1))));(case side4 => exact (Kd.S_reads' HO554.out).2.1);rintro e w' ⟨rfl,⟨nd,rfl⟩⟩))
        go_meet
        case rel => exact ⟨_,(!t550),qf_,H',⟨by first|omega|exact Nat.le_refl _⟩,⟨by (with_reducible repeat (first|apply Kd.S_alloc|apply Kd.S_drewN|apply Kd.S_drew));exact Kd.S_mono (Kd.S_far (p:=⟨gb559,3,none⟩) (Kd.S_far (p:=⟨gb559,2,none⟩) (Kd.S_far (p:=⟨gb559,1,none⟩) (Kd.S_far (p:=⟨gb559,0,none⟩) (Kd.S_types HO539.out BK559.out (by decide)) (λ_ h=>h.2) (.slice Ao17 t552.length co17)) (λ_ h=>h.2) (.int .i64 t555)) (λ_ h=>h.2) (.int .i64 t556)) (λ_ h=>h.2) (.bool t557)) (fun _ hk => ⟨hk.1.1.2,hk.1.2⟩)⟩,⟨by (with_reducible repeat (first|apply Kd.S_alloc|apply Kd.S_drewN|apply Kd.S_drew));exact Kd.S_mono (Kd.S_far (p:=⟨gb559,3,none⟩) (Kd.S_far (p:=⟨gb559,2,none⟩) (Kd.S_far (p:=⟨gb559,1,none⟩) (Kd.S_far (p:=⟨gb559,0,none⟩) (Kd.S_types HO546.out BK559.out (by decide)) (λ_ h=>h.2) (.slice Ao17 t552.length co17)) (λ_ h=>h.2) (.int .i64 t555)) (λ_ h=>h.2) (.int .i64 t556)) (λ_ h=>h.2) (.bool t557)) (fun _ hk => ⟨hk.1.1.2,hk.1.2⟩)⟩,⟨by (with_reducible repeat (first|apply Kd.S_alloc|apply Kd.S_drewN|apply Kd.S_drew));exact Kd.S_mono (Kd.S_far (p:=⟨gb559,3,none⟩) (Kd.S_far (p:=⟨gb559,2,none⟩) (Kd.S_far (p:=⟨gb559,1,none⟩) (Kd.S_far (p:=⟨gb559,0,none⟩) (Kd.S_types HO554.out BK559.out (by decide)) (λ_ h=>h.2) (.slice Ao17 t552.length co17)) (λ_ h=>h.2) (.int .i64 t555)) (λ_ h=>h.2) (.int .i64 t556)) (λ_ h=>h.2) (.bool t557)) (fun _ hk => ⟨hk.1.1.2,hk.1.2⟩)⟩,⟨by (with_reducible repeat (first|apply kn_|apply kd_|apply ka_));refine blk_far ?_ NB551_559.out _;(with_reducible repeat (first|apply kn_|apply kd_|apply ka_));refine blk_far ?_ NB551_559.out _;(with_reducible repeat (first|apply kn_|apply kd_|apply ka_));refine blk_far ?_ NB551_559.out _;(with_reducible repeat (first|apply kn_|apply kd_|apply ka_));refine blk_far ?_ NB551_559.out _;(with_reducible repeat (first|apply kn_|apply kd_|apply ka_));exact BK551.out⟩,⟨by (with_reducible repeat (first|apply kn_|apply kd_|apply ka_));refine blk_put (cs:=#[.slice Ao17 t552.length co17,.int .i64 t555,.int .i64 t556,.bool false]) ?_ 3 _ rfl;(with_reducible repeat (first|apply kn_|apply kd_|apply ka_));refine blk_put (cs:=#[.slice Ao17 t552.length co17,.int .i64 t555,.int .i64 0,.bool false]) ?_ 2 _ rfl;(with_reducible repeat (first|apply kn_|apply kd_|apply ka_));refine blk_put (cs:=#[.slice Ao17 t552.length co17,.int .i64 0,.int .i64 0,.bool false]) ?_ 1 _ rfl;(with_reducible repeat (first|apply kn_|apply kd_|apply ka_));refine blk_put (cs:=#[.slice none 0 0,.int .i64 0,.int .i64 0,.bool false]) ?_ 0 _ rfl;(with_reducible repeat (first|apply kn_|apply kd_|apply ka_));exact BK559.out⟩,⟨u5_ HB GE551 GE559⟩⟩
      ·rw [if_neg c24] at H
       have c24b0 : (t548 == t556) = false:=beq_eq_false_iff_ne.mpr c24
       have c24b1 : (t548 != t556) = true:=bne_iff_ne.mpr c24
       have H':=mk_ H
       clear H
       have hnb32:=NB551_559.out
       have hnc32:=NB559_551.out
       have hcz33_0 : w16.cell? ⟨gb551,0,none⟩ = some (.slice Ao13 t544.length co13):=(bc_ BK551.out 0).trans rfl
       have hcz33_1 : w16.cell? ⟨gb551,1,none⟩ = some (.int .i64 t547):=(bc_ BK551.out 1).trans rfl
       have hcz33_2 : w16.cell? ⟨gb551,2,none⟩ = some (.int .i64 t548):=(bc_ BK551.out 2).trans rfl
       have hcz33_3 : w16.cell? ⟨gb551,3,none⟩ = some (.bool t549):=(bc_ BK551.out 3).trans rfl
       have hfz33_0:=bf_ BK551.out 0
       have hfz33_1:=bf_ BK551.out 1
       have hfz33_2:=bf_ BK551.out 2
       have hfz33_3:=bf_ BK551.out 3
       have hcz34_0 : w16.cell? ⟨gb559,0,none⟩ = some (.slice none 0 0):=(bc_ BK559.out 0).trans rfl
       have hcz34_1 : w16.cell? ⟨gb559,1,none⟩ = some (.int .i64 0):=(bc_ BK559.out 1).trans rfl
       have hcz34_2 : w16.cell? ⟨gb559,2,none⟩ = some (.int .i64 0):=(bc_ BK559.out 2).trans rfl
       have hcz34_3 : w16.cell? ⟨gb559,3,none⟩ = some (.bool false):=(bc_ BK559.out 3).trans rfl
       have hfz34_0:=bf_ BK559.out 0
       have hfz34_1:=bf_ BK559.out 1
       have hfz34_2:=bf_ BK559.out 2
       have hfz34_3:=bf_ BK559.out 3
       go_wp2_with (first|(go_at_call 20;(with_reducible refine (laws_wnTexts.calls k _ _ t544 _ _ t552 true _ ?side1 ?side2 ?side3 ?side4 A21.out).mono ?_);(case side1 => refine (Kd.S_reads' (e:=22) (base:=w.heap.size) (ok:=fun k_ => ((True ∧ some k_ ≠ (.slice Ao8 t534.length co8 : Value).ownBlock) ∧ some k_ ≠ (.slice Ao17 t552.length co17 : Value).ownBlock)) (n:=t544.length) (c:=co13) ?_).2.2;exact (by (with_reducible repeat (first|apply Kd.S_alloc|apply Kd.S_drewN|apply Kd.S_drew));exact (Kd.S_mono (Kd.S_far (p:=⟨gb559,3,none⟩) (Kd.S_far (p:=⟨gb559,2,none⟩) (Kd.S_far (p:=⟨gb559,1,none⟩) (Kd.S_far (p:=⟨gb559,0,none⟩) (Kd.S_types HO546.out BK559.out (by decide)) (λ_ h=>h.2) (.slice Ao17 t552.length co17)) (λ_ h=>h.2) (.int .i64 t555)) (λ_ h=>h.2) (.int .i64 t556)) (λ_ h=>h.2) (.bool t557)) (λ_ h=>h.1))));(case side2 => exact (Kd.S_reads' HO546.out).2.1);(case side3 => refine (Kd.S_reads' (e:=22) (base:=w.heap.size) (ok:=fun k_ => ((True ∧ some k_ ≠ (.slice Ao8 t534.length co8 : Value).ownBlock) ∧ some k_ ≠ (.slice Ao13 t544.length co13 : Value).ownBlock)) (n:=t552.length) (c:=co17) ?_).2.2;exact (by (with_reducible repeat (first|apply Kd.S_alloc|apply Kd.S_drewN|apply Kd.S_drew));exact (Kd.S_mono (Kd.S_far (p:=⟨gb559,3,none⟩) (Kd.S_far (p:=⟨gb559,2,none⟩) (Kd.S_far (p:=⟨gb559,1,none⟩) (Kd.S_far (p:=⟨gb559,0,none⟩) (Kd.S_types HO554.out BK559.out (by decide)) (λ_ h=>h.2) (.slice Ao17 t552.length co17)) (λ_ h=>h.2) (.int .i64 t555)) (λ_ h=>h.2) (.int .i64 t556)) (λ_ h=>h.2) (.bool t557)) (λ_ h=>h.1))));(case side4 => exact (Kd.S_reads' HO554.out).2.1);rintro e w' ⟨rfl,⟨nd,rfl⟩⟩))
       go_meet
       case rel => exact ⟨_,(true),qf_,H',⟨by first|omega|exact Nat.le_refl _⟩,⟨by (with_reducible repeat (first|apply Kd.S_alloc|apply Kd.S_drewN|apply Kd.S_drew));exact Kd.S_mono (Kd.S_far (p:=⟨gb559,3,none⟩) (Kd.S_far (p:=⟨gb559,2,none⟩) (Kd.S_far (p:=⟨gb559,1,none⟩) (Kd.S_far (p:=⟨gb559,0,none⟩) (Kd.S_types HO539.out BK559.out (by decide)) (λ_ h=>h.2) (.slice Ao17 t552.length co17)) (λ_ h=>h.2) (.int .i64 t555)) (λ_ h=>h.2) (.int .i64 t556)) (λ_ h=>h.2) (.bool t557)) (fun _ hk => ⟨hk.1.1.2,hk.1.2⟩)⟩,⟨by (with_reducible repeat (first|apply Kd.S_alloc|apply Kd.S_drewN|apply Kd.S_drew));exact Kd.S_mono (Kd.S_far (p:=⟨gb559,3,none⟩) (Kd.S_far (p:=⟨gb559,2,none⟩) (Kd.S_far (p:=⟨gb559,1,none⟩) (Kd.S_far (p:=⟨gb559,0,none⟩) (Kd.S_types HO546.out BK559.out (by decide)) (λ_ h=>h.2) (.slice Ao17 t552.length co17)) (λ_ h=>h.2) (.int .i64 t555)) (λ_ h=>h.2) (.int .i64 t556)) (λ_ h=>h.2) (.bool t557)) (fun _ hk => ⟨hk.1.1.2,hk.1.2⟩)⟩,⟨by (with_reducible repeat (first|apply Kd.S_alloc|apply Kd.S_drewN|apply Kd.S_drew));exact Kd.S_mono (Kd.S_far (p:=⟨gb559,3,none⟩) (Kd.S_far (p:=⟨gb559,2,none⟩) (Kd.S_far (p:=⟨gb559,1,none⟩) (Kd.S_far (p:=⟨gb559,0,none⟩) (Kd.S_types HO554.out BK559.out (by decide)) (λ_ h=>h.2) (.slice Ao17 t552.length co17)) (λ_ h=>h.2) (.int .i64 t555)) (λ_ h=>h.2) (.int .i64 t556)) (λ_ h=>h.2) (.bool t557)) (fun _ hk => ⟨hk.1.1.2,hk.1.2⟩)⟩,⟨by (with_reducible repeat (first|apply kn_|apply kd_|apply ka_));refine blk_far ?_ NB551_559.out _;(with_reducible repeat (first|apply kn_|apply kd_|apply ka_));refine blk_far ?_ NB551_559.out _;(with_reducible repeat (first|apply kn_|apply kd_|apply ka_));refine blk_far ?_ NB551_559.out _;(with_reducible repeat (first|apply kn_|apply kd_|apply ka_));refine blk_far ?_ NB551_559.out _;(with_reducible repeat (first|apply kn_|apply kd_|apply ka_));exact BK551.out⟩,⟨by (with_reducible repeat (first|apply kn_|apply kd_|apply ka_));refine blk_put (cs:=#[.slice Ao17 t552.length co17,.int .i64 t555,.int .i64 t556,.bool false]) ?_ 3 _ rfl;(with_reducible repeat (first|apply kn_|apply kd_|apply ka_));refine blk_put (cs:=#[.slice Ao17 t552.length co17,.int .i64 t555,.int .i64 0,.bool false]) ?_ 2 _ rfl;(with_reducible repeat (first|apply kn_|apply kd_|apply ka_));refine blk_put (cs:=#[.slice Ao17 t552.length co17,.int .i64 0,.int .i64 0,.bool false]) ?_ 1 _ rfl;(with_reducible repeat (first|apply kn_|apply kd_|apply ka_));refine blk_put (cs:=#[.slice none 0 0,.int .i64 0,.int .i64 0,.bool false]) ?_ 0 _ rfl;(with_reducible repeat (first|apply kn_|apply kd_|apply ka_));exact BK559.out⟩,⟨u5_ HB GE551 GE559⟩⟩
     ·rw [if_neg c23] at H
      have c23b0 : (t547 == t555) = false:=beq_eq_false_iff_ne.mpr c23
      have c23b1 : (t547 != t555) = true:=bne_iff_ne.mpr c23
      have H':=mk_ H
      clear H
      have hnb35:=NB551_559.out
      have hnc35:=NB559_551.out
      have hcz36_0 : w16.cell? ⟨gb551,0,none⟩ = some (.slice Ao13 t544.length co13):=(bc_ BK551.out 0).trans rfl
      have hcz36_1 : w16.cell? ⟨gb551,1,none⟩ = some (.int .i64 t547):=(bc_ BK551.out 1).trans rfl
      have hcz36_2 : w16.cell? ⟨gb551,2,none⟩ = some (.int .i64 t548):=(bc_ BK551.out 2).trans rfl
      have hcz36_3 : w16.cell? ⟨gb551,3,none⟩ = some (.bool t549):=(bc_ BK551.out 3).trans rfl
      have hfz36_0:=bf_ BK551.out 0
      have hfz36_1:=bf_ BK551.out 1
      have hfz36_2:=bf_ BK551.out 2
      have hfz36_3:=bf_ BK551.out 3
      have hcz37_0 : w16.cell? ⟨gb559,0,none⟩ = some (.slice none 0 0):=(bc_ BK559.out 0).trans rfl
      have hcz37_1 : w16.cell? ⟨gb559,1,none⟩ = some (.int .i64 0):=(bc_ BK559.out 1).trans rfl
      have hcz37_2 : w16.cell? ⟨gb559,2,none⟩ = some (.int .i64 0):=(bc_ BK559.out 2).trans rfl
      have hcz37_3 : w16.cell? ⟨gb559,3,none⟩ = some (.bool false):=(bc_ BK559.out 3).trans rfl
      have hfz37_0:=bf_ BK559.out 0
      have hfz37_1:=bf_ BK559.out 1
      have hfz37_2:=bf_ BK559.out 2
      have hfz37_3:=bf_ BK559.out 3
      go_wp2_with (first|(go_at_call 20;(with_reducible refine (laws_wnTexts.calls k _ _ t544 _ _ t552 true _ ?side1 ?side2 ?side3 ?side4 A21.out).mono ?_);(case side1 => refine (Kd.S_reads' (e:=22) (base:=w.heap.size) (ok:=fun k_ => ((True ∧ some k_ ≠ (.slice Ao8 t534.length co8 : Value).ownBlock) ∧ some k_ ≠ (.slice Ao17 t552.length co17 : Value).ownBlock)) (n:=t544.length) (c:=co13) ?_).2.2;exact (by (with_reducible repeat (first|apply Kd.S_alloc|apply Kd.S_drewN|apply Kd.S_drew));exact (Kd.S_mono (Kd.S_far (p:=⟨gb559,3,none⟩) (Kd.S_far (p:=⟨gb559,2,none⟩) (Kd.S_far (p:=⟨gb559,1,none⟩) (Kd.S_far (p:=⟨gb559,0,none⟩) (Kd.S_types HO546.out BK559.out (by decide)) (λ_ h=>h.2) (.slice Ao17 t552.length co17)) (λ_ h=>h.2) (.int .i64 t555)) (λ_ h=>h.2) (.int .i64 t556)) (λ_ h=>h.2) (.bool t557)) (λ_ h=>h.1))));(case side2 => exact (Kd.S_reads' HO546.out).2.1);(case side3 => refine (Kd.S_reads' (e:=22) (base:=w.heap.size) (ok:=fun k_ => ((True ∧ some k_ ≠ (.slice Ao8 t534.length co8 : Value).ownBlock) ∧ some k_ ≠ (.slice Ao13 t544.length co13 : Value).ownBlock)) (n:=t552.length) (c:=co17) ?_).2.2;exact (by (with_reducible repeat (first|apply Kd.S_alloc|apply Kd.S_drewN|apply Kd.S_drew));exact (Kd.S_mono (Kd.S_far (p:=⟨gb559,3,none⟩) (Kd.S_far (p:=⟨gb559,2,none⟩) (Kd.S_far (p:=⟨gb559,1,none⟩) (Kd.S_far (p:=⟨gb559,0,none⟩) (Kd.S_types HO554.out BK559.out (by decide)) (λ_ h=>h.2) (.slice Ao17 t552.length co17)) (λ_ h=>h.2) (.int .i64 t555)) (λ_ h=>h.2) (.int .i64 t556)) (λ_ h=>h.2) (.bool t557)) (λ_ h=>h.1))));(case side4 => exact (Kd.S_reads' HO554.out).2.1);rintro e w' ⟨rfl,⟨nd,rfl⟩⟩))
      go_meet
      case rel => exact ⟨_,(true),qf_,H',⟨by first|omega|exact Nat.le_refl _⟩,⟨by (with_reducible repeat (first|apply Kd.S_alloc|apply Kd.S_drewN|apply Kd.S_drew));exact Kd.S_mono (Kd.S_far (p:=⟨gb559,3,none⟩) (Kd.S_far (p:=⟨gb559,2,none⟩) (Kd.S_far (p:=⟨gb559,1,none⟩) (Kd.S_far (p:=⟨gb559,0,none⟩) (Kd.S_types HO539.out BK559.out (by decide)) (λ_ h=>h.2) (.slice Ao17 t552.length co17)) (λ_ h=>h.2) (.int .i64 t555)) (λ_ h=>h.2) (.int .i64 t556)) (λ_ h=>h.2) (.bool t557)) (fun _ hk => ⟨hk.1.1.2,hk.1.2⟩)⟩,⟨by (with_reducible repeat (first|apply Kd.S_alloc|apply Kd.S_drewN|apply Kd.S_drew));exact Kd.S_mono (Kd.S_far (p:=⟨gb559,3,none⟩) (Kd.S_far (p:=⟨gb559,2,none⟩) (Kd.S_far (p:=⟨gb559,1,none⟩) (Kd.S_far (p:=⟨gb559,0,none⟩) (Kd.S_types HO546.out BK559.out (by decide)) (λ_ h=>h.2) (.slice Ao17 t552.length co17)) (λ_ h=>h.2) (.int .i64 t555)) (λ_ h=>h.2) (.int .i64 t556)) (λ_ h=>h.2) (.bool t557)) (fun _ hk => ⟨hk.1.1.2,hk.1.2⟩)⟩,⟨by (with_reducible repeat (first|apply Kd.S_alloc|apply Kd.S_drewN|apply Kd.S_drew));exact Kd.S_mono (Kd.S_far (p:=⟨gb559,3,none⟩) (Kd.S_far (p:=⟨gb559,2,none⟩) (Kd.S_far (p:=⟨gb559,1,none⟩) (Kd.S_far (p:=⟨gb559,0,none⟩) (Kd.S_types HO554.out BK559.out (by decide)) (λ_ h=>h.2) (.slice Ao17 t552.length co17)) (λ_ h=>h.2) (.int .i64 t555)) (λ_ h=>h.2) (.int .i64 t556)) (λ_ h=>h.2) (.bool t557)) (fun _ hk => ⟨hk.1.1.2,hk.1.2⟩)⟩,⟨by (with_reducible repeat (first|apply kn_|apply kd_|apply ka_));refine blk_far ?_ NB551_559.out _;(with_reducible repeat (first|apply kn_|apply kd_|apply ka_));refine blk_far ?_ NB551_559.out _;(with_reducible repeat (first|apply kn_|apply kd_|apply ka_));refine blk_far ?_ NB551_559.out _;(with_reducible repeat (first|apply kn_|apply kd_|apply ka_));refine blk_far ?_ NB551_559.out _;(with_reducible repeat (first|apply kn_|apply kd_|apply ka_));exact BK551.out⟩,⟨by (with_reducible repeat (first|apply kn_|apply kd_|apply ka_));refine blk_put (cs:=#[.slice Ao17 t552.length co17,.int .i64 t555,.int .i64 t556,.bool false]) ?_ 3 _ rfl;(with_reducible repeat (first|apply kn_|apply kd_|apply ka_));refine blk_put (cs:=#[.slice Ao17 t552.length co17,.int .i64 t555,.int .i64 0,.bool false]) ?_ 2 _ rfl;(with_reducible repeat (first|apply kn_|apply kd_|apply ka_));refine blk_put (cs:=#[.slice Ao17 t552.length co17,.int .i64 0,.int .i64 0,.bool false]) ?_ 1 _ rfl;(with_reducible repeat (first|apply kn_|apply kd_|apply ka_));refine blk_put (cs:=#[.slice none 0 0,.int .i64 0,.int .i64 0,.bool false]) ?_ 0 _ rfl;(with_reducible repeat (first|apply kn_|apply kd_|apply ka_));exact BK559.out⟩,⟨u5_ HB GE551 GE559⟩⟩
    ·replace c22:=Bool.eq_false_iff.mpr c22
     subst c22
     have H1 : (laws_FnLinkSafe.j0 k t534 t537 t550 t558 true t544 t547 t548 t549 t552 t555 t556 t557) = some r:=by rw [if_neg (show ¬ (false = true) by decide)] at H;exact H
     clear H
     have H:=H1
     clear H1
     have H':=mk_ H
     clear H
     have hnb38:=NB551_559.out
     have hnc38:=NB559_551.out
     have hcz39_0 : w16.cell? ⟨gb551,0,none⟩ = some (.slice Ao13 t544.length co13):=(bc_ BK551.out 0).trans rfl
     have hcz39_1 : w16.cell? ⟨gb551,1,none⟩ = some (.int .i64 t547):=(bc_ BK551.out 1).trans rfl
     have hcz39_2 : w16.cell? ⟨gb551,2,none⟩ = some (.int .i64 t548):=(bc_ BK551.out 2).trans rfl
     have hcz39_3 : w16.cell? ⟨gb551,3,none⟩ = some (.bool t549):=(bc_ BK551.out 3).trans rfl
     have hfz39_0:=bf_ BK551.out 0
     have hfz39_1:=bf_ BK551.out 1
     have hfz39_2:=bf_ BK551.out 2
     have hfz39_3:=bf_ BK551.out 3
     have hcz40_0 : w16.cell? ⟨gb559,0,none⟩ = some (.slice none 0 0):=(bc_ BK559.out 0).trans rfl
     have hcz40_1 : w16.cell? ⟨gb559,1,none⟩ = some (.int .i64 0):=(bc_ BK559.out 1).trans rfl
     have hcz40_2 : w16.cell? ⟨gb559,2,none⟩ = some (.int .i64 0):=(bc_ BK559.out 2).trans rfl
     have hcz40_3 : w16.cell? ⟨gb559,3,none⟩ = some (.bool false):=(bc_ BK559.out 3).trans rfl
     have hfz40_0:=bf_ BK559.out 0
     have hfz40_1:=bf_ BK559.out 1
     have hfz40_2:=bf_ BK559.out 2
     have hfz40_3:=bf_ BK559.out 3
     go_wp2_with (first|(go_at_call 20;(with_reducible refine (laws_wnTexts.calls k _ _ t544 _ _ t552 false _ ?side1 ?side2 ?side3 ?side4 A21.out).mono ?_);(case side1 => refine (Kd.S_reads' (e:=22) (base:=w.heap.size) (ok:=fun k_ => ((True ∧ some k_ ≠ (.slice Ao8 t534.length co8 : Value).ownBlock) ∧ some k_ ≠ (.slice Ao17 t552.length co17 : Value).ownBlock)) (n:=t544.length) (c:=co13) ?_).2.2;exact (by (with_reducible repeat (first|apply Kd.S_alloc|apply Kd.S_drewN|apply Kd.S_drew));exact (Kd.S_mono (Kd.S_far (p:=⟨gb559,3,none⟩) (Kd.S_far (p:=⟨gb559,2,none⟩) (Kd.S_far (p:=⟨gb559,1,none⟩) (Kd.S_far (p:=⟨gb559,0,none⟩) (Kd.S_types HO546.out BK559.out (by decide)) (λ_ h=>h.2) (.slice Ao17 t552.length co17)) (λ_ h=>h.2) (.int .i64 t555)) (λ_ h=>h.2) (.int .i64 t556)) (λ_ h=>h.2) (.bool t557)) (λ_ h=>h.1))));(case side2 => exact (Kd.S_reads' HO546.out).2.1);(case side3 => refine (Kd.S_reads' (e:=22) (base:=w.heap.size) (ok:=fun k_ => ((True ∧ some k_ ≠ (.slice Ao8 t534.length co8 : Value).ownBlock) ∧ some k_ ≠ (.slice Ao13 t544.length co13 : Value).ownBlock)) (n:=t552.length) (c:=co17) ?_).2.2;exact (by (with_reducible repeat (first|apply Kd.S_alloc|apply Kd.S_drewN|apply Kd.S_drew));exact (Kd.S_mono (Kd.S_far (p:=⟨gb559,3,none⟩) (Kd.S_far (p:=⟨gb559,2,none⟩) (Kd.S_far (p:=⟨gb559,1,none⟩) (Kd.S_far (p:=⟨gb559,0,none⟩) (Kd.S_types HO554.out BK559.out (by decide)) (λ_ h=>h.2) (.slice Ao17 t552.length co17)) (λ_ h=>h.2) (.int .i64 t555)) (λ_ h=>h.2) (.int .i64 t556)) (λ_ h=>h.2) (.bool t557)) (λ_ h=>h.1))));(case side4 => exact (Kd.S_reads' HO554.out).2.1);rintro e w' ⟨rfl,⟨nd,rfl⟩⟩))
     go_meet
     case rel => exact ⟨_,(true),qf_,H',⟨by first|omega|exact Nat.le_refl _⟩,⟨by (with_reducible repeat (first|apply Kd.S_alloc|apply Kd.S_drewN|apply Kd.S_drew));exact Kd.S_mono (Kd.S_far (p:=⟨gb559,3,none⟩) (Kd.S_far (p:=⟨gb559,2,none⟩) (Kd.S_far (p:=⟨gb559,1,none⟩) (Kd.S_far (p:=⟨gb559,0,none⟩) (Kd.S_types HO539.out BK559.out (by decide)) (λ_ h=>h.2) (.slice Ao17 t552.length co17)) (λ_ h=>h.2) (.int .i64 t555)) (λ_ h=>h.2) (.int .i64 t556)) (λ_ h=>h.2) (.bool t557)) (fun _ hk => ⟨hk.1.1.2,hk.1.2⟩)⟩,⟨by (with_reducible repeat (first|apply Kd.S_alloc|apply Kd.S_drewN|apply Kd.S_drew));exact Kd.S_mono (Kd.S_far (p:=⟨gb559,3,none⟩) (Kd.S_far (p:=⟨gb559,2,none⟩) (Kd.S_far (p:=⟨gb559,1,none⟩) (Kd.S_far (p:=⟨gb559,0,none⟩) (Kd.S_types HO546.out BK559.out (by decide)) (λ_ h=>h.2) (.slice Ao17 t552.length co17)) (λ_ h=>h.2) (.int .i64 t555)) (λ_ h=>h.2) (.int .i64 t556)) (λ_ h=>h.2) (.bool t557)) (fun _ hk => ⟨hk.1.1.2,hk.1.2⟩)⟩,⟨by (with_reducible repeat (first|apply Kd.S_alloc|apply Kd.S_drewN|apply Kd.S_drew));exact Kd.S_mono (Kd.S_far (p:=⟨gb559,3,none⟩) (Kd.S_far (p:=⟨gb559,2,none⟩) (Kd.S_far (p:=⟨gb559,1,none⟩) (Kd.S_far (p:=⟨gb559,0,none⟩) (Kd.S_types HO554.out BK559.out (by decide)) (λ_ h=>h.2) (.slice Ao17 t552.length co17)) (λ_ h=>h.2) (.int .i64 t555)) (λ_ h=>h.2) (.int .i64 t556)) (λ_ h=>h.2) (.bool t557)) (fun _ hk => ⟨hk.1.1.2,hk.1.2⟩)⟩,⟨by (with_reducible repeat (first|apply kn_|apply kd_|apply ka_));refine blk_far ?_ NB551_559.out _;(with_reducible repeat (first|apply kn_|apply kd_|apply ka_));refine blk_far ?_ NB551_559.out _;(with_reducible repeat (first|apply kn_|apply kd_|apply ka_));refine blk_far ?_ NB551_559.out _;(with_reducible repeat (first|apply kn_|apply kd_|apply ka_));refine blk_far ?_ NB551_559.out _;(with_reducible repeat (first|apply kn_|apply kd_|apply ka_));exact BK551.out⟩,⟨by (with_reducible repeat (first|apply kn_|apply kd_|apply ka_));refine blk_put (cs:=#[.slice Ao17 t552.length co17,.int .i64 t555,.int .i64 t556,.bool false]) ?_ 3 _ rfl;(with_reducible repeat (first|apply kn_|apply kd_|apply ka_));refine blk_put (cs:=#[.slice Ao17 t552.length co17,.int .i64 t555,.int .i64 0,.bool false]) ?_ 2 _ rfl;(with_reducible repeat (first|apply kn_|apply kd_|apply ka_));refine blk_put (cs:=#[.slice Ao17 t552.length co17,.int .i64 0,.int .i64 0,.bool false]) ?_ 1 _ rfl;(with_reducible repeat (first|apply kn_|apply kd_|apply ka_));refine blk_put (cs:=#[.slice none 0 0,.int .i64 0,.int .i64 0,.bool false]) ?_ 0 _ rfl;(with_reducible repeat (first|apply kn_|apply kd_|apply ka_));exact BK559.out⟩,⟨u5_ HB GE551 GE559⟩⟩
  case rest =>
   clear HC6
   try clear c1
   try clear c2
   try clear c2b0
   try clear c2b1
   try clear p2
   try clear c3
   try clear c5
   try clear c10
   try clear c11
   try clear c18
   try clear c19
   try clear c20
   try clear c20b0
   try clear c20b1
   try clear c20b2
   try clear c22
   try clear c23
   try clear c23b0
   try clear c23b1
   try clear c24
   try clear c24b0
   try clear c24b1
   try clear c25
   try clear c25b0
   try clear c25b1
   try clear c25b2
   try clear c26
   try clear c29
   try clear c32
   try clear c35
   try clear c38
   try clear hcz14_0
   try clear hcz14_1
   try clear hcz14_2
   try clear hcz14_3
   try clear hcz19_0
   try clear hcz19_1
   try clear hcz19_2
   try clear hcz19_3
   try clear hcz27_0
   try clear hcz27_1
   try clear hcz27_2
   try clear hcz27_3
   try clear hcz28_0
   try clear hcz28_1
   try clear hcz28_2
   try clear hcz28_3
   try clear hcz30_0
   try clear hcz30_1
   try clear hcz30_2
   try clear hcz30_3
   try clear hcz31_0
   try clear hcz31_1
   try clear hcz31_2
   try clear hcz31_3
   try clear hcz33_0
   try clear hcz33_1
   try clear hcz33_2
   try clear hcz33_3
   try clear hcz34_0
   try clear hcz34_1
   try clear hcz34_2
   try clear hcz34_3
   try clear hcz36_0
   try clear hcz36_1
   try clear hcz36_2
   try clear hcz36_3
   try clear hcz37_0
   try clear hcz37_1
   try clear hcz37_2
   try clear hcz37_3
   try clear hcz39_0
   try clear hcz39_1
   try clear hcz39_2
   try clear hcz39_3
   try clear hcz40_0
   try clear hcz40_1
   try clear hcz40_2
   try clear hcz40_3
   try clear hfz14_0
   try clear hfz14_1
   try clear hfz14_2
   try clear hfz14_3
   try clear hfz19_0
   try clear hfz19_1
   try clear hfz19_2
   try clear hfz19_3
   try clear hfz27_0
   try clear hfz27_1
   try clear hfz27_2
   try clear hfz27_3
   try clear hfz28_0
   try clear hfz28_1
   try clear hfz28_2
   try clear hfz28_3
   try clear hfz30_0
   try clear hfz30_1
   try clear hfz30_2
   try clear hfz30_3
   try clear hfz31_0
   try clear hfz31_1
   try clear hfz31_2
   try clear hfz31_3
   try clear hfz33_0
   try clear hfz33_1
   try clear hfz33_2
   try clear hfz33_3
   try clear hfz34_0
   try clear hfz34_1
   try clear hfz34_2
   try clear hfz34_3
   try clear hfz36_0
   try clear hfz36_1
   try clear hfz36_2
   try clear hfz36_3
   try clear hfz37_0
   try clear hfz37_1
   try clear hfz37_2
   try clear hfz37_3
   try clear hfz39_0
   try clear hfz39_1
   try clear hfz39_2
   try clear hfz39_3
   try clear hfz40_0
   try clear hfz40_1
   try clear hfz40_2
   try clear hfz40_3
   obtain ⟨kq,x76_5,rfl,HA,HJ5,HO_4,z0_,z1_,BK551,BK559,HB⟩:=hcut
   cases kq with
   | zero => exact absurd HA.out (by simp [laws_FnLinkSafe.j0])
   | succ kj5 =>
    have H:=HA.out
    clear HA
    simp only [laws_FnLinkSafe.j0] at H
    by_cases c41 : x76_5 = true
    ·subst c41
     have H1 : (if (t550 == t558) = true then (if t547 = t555 then ((laws_wnTexts.f kj5 t544 t552).bind fun t561 => (if t561 = true then (if t548 = t556 then (some (t549 == t557)) else (some false)) else (some false))) else (some false)) else (some false)) = some r:=by rw [if_pos rfl] at H;exact H
     clear H
     have H:=H1
     clear H1
     by_cases c42 : (t550 == t558) = true
     ·rw [if_pos c42] at H
      have c42b0 : (t550 == t558) = true:=c42
      (try (have c42b1 : decide (t550 = t558) = true:=by simpa using c42))
      (try (have c42b2 : (t550 == t558) = true:=by simpa using c42))
      clear c42
      by_cases c43 : t547 = t555
      ·rw [if_pos c43] at H
       have c43b0 : (t547 == t555) = true:=beq_iff_eq.mpr c43
       have c43b1 : (t547 != t555) = false:=bne_eq_false_iff_eq.mpr c43
       clear c43
       replace H:=Option.bind_eq_some_iff.mp H
       obtain ⟨t561,A440,H⟩:=H
       replace H : (if t561 = true then (if t548 = t556 then (some (t549 == t557)) else (some false)) else (some false)) = some r:=H
       have A44:=mk_ A440
       clear A440
       by_cases c45 : t561 = true
       ·subst c45
        have H1 : (if t548 = t556 then (some (t549 == t557)) else (some false)) = some r:=by rw [if_pos rfl] at H;exact H
        clear H
        have H:=H1
        clear H1
        by_cases c46 : t548 = t556
        ·rw [if_pos c46] at H
         have c46b0 : (t548 == t556) = true:=beq_iff_eq.mpr c46
         have c46b1 : (t548 != t556) = false:=bne_eq_false_iff_eq.mpr c46
         clear c46
         obtain rfl:=Option.some.inj H
         have hnb47:=NB551_559.out
         have hnc47:=NB559_551.out
         have hcz48_0 : wc.cell? ⟨gb551,0,none⟩ = some (.slice Ao13 t544.length co13):=(bc_ BK551.out 0).trans rfl
         have hcz48_1 : wc.cell? ⟨gb551,1,none⟩ = some (.int .i64 t547):=(bc_ BK551.out 1).trans rfl
         have hcz48_2 : wc.cell? ⟨gb551,2,none⟩ = some (.int .i64 t548):=(bc_ BK551.out 2).trans rfl
         have hcz48_3 : wc.cell? ⟨gb551,3,none⟩ = some (.bool t549):=(bc_ BK551.out 3).trans rfl
         have hfz48_0:=bf_ BK551.out 0
         have hfz48_1:=bf_ BK551.out 1
         have hfz48_2:=bf_ BK551.out 2
         have hfz48_3:=bf_ BK551.out 3
         have hcz49_0 : wc.cell? ⟨gb559,0,none⟩ = some (.slice Ao17 t552.length co17):=(bc_ BK559.out 0).trans rfl
         have hcz49_1 : wc.cell? ⟨gb559,1,none⟩ = some (.int .i64 t555):=(bc_ BK559.out 1).trans rfl
         have hcz49_2 : wc.cell? ⟨gb559,2,none⟩ = some (.int .i64 t556):=(bc_ BK559.out 2).trans rfl
         have hcz49_3 : wc.cell? ⟨gb559,3,none⟩ = some (.bool t557):=(bc_ BK559.out 3).trans rfl
         have hfz49_0:=bf_ BK559.out 0
         have hfz49_1:=bf_ BK559.out 1
         have hfz49_2:=bf_ BK559.out 2
         have hfz49_3:=bf_ BK559.out 3
         go_wp2_with (first|(go_at_call 20;(with_reducible refine (laws_wnTexts.calls kj5 _ _ t544 _ _ t552 true _ ?side1 ?side2 ?side3 ?side4 A44.out).mono ?_);(case side1 => repeat (first|exact (Kd.S_reads' z0_.out).2.2|(with_reducible refine ca_ ?_ _)|(with_reducible refine cn_ ?_ _)|(with_reducible refine cd_ ?_)));(case side2 => exact (Kd.S_reads' z0_.out).2.1);(case side3 => repeat (first|exact (Kd.S_reads' z1_.out).2.2|(with_reducible refine ca_ ?_ _)|(with_reducible refine cn_ ?_ _)|(with_reducible refine cd_ ?_)));(case side4 => exact (Kd.S_reads' z1_.out).2.1);rintro e w' ⟨rfl,⟨nd,rfl⟩⟩))
         go_ret
         exact ⟨qe_,u5_ HB GE551 GE559⟩
        ·rw [if_neg c46] at H
         have c46b0 : (t548 == t556) = false:=beq_eq_false_iff_ne.mpr c46
         have c46b1 : (t548 != t556) = true:=bne_iff_ne.mpr c46
         obtain rfl:=Option.some.inj H
         have hnb50:=NB551_559.out
         have hnc50:=NB559_551.out
         have hcz51_0 : wc.cell? ⟨gb551,0,none⟩ = some (.slice Ao13 t544.length co13):=(bc_ BK551.out 0).trans rfl
         have hcz51_1 : wc.cell? ⟨gb551,1,none⟩ = some (.int .i64 t547):=(bc_ BK551.out 1).trans rfl
         have hcz51_2 : wc.cell? ⟨gb551,2,none⟩ = some (.int .i64 t548):=(bc_ BK551.out 2).trans rfl
         have hcz51_3 : wc.cell? ⟨gb551,3,none⟩ = some (.bool t549):=(bc_ BK551.out 3).trans rfl
         have hfz51_0:=bf_ BK551.out 0
         have hfz51_1:=bf_ BK551.out 1
         have hfz51_2:=bf_ BK551.out 2
         have hfz51_3:=bf_ BK551.out 3
         have hcz52_0 : wc.cell? ⟨gb559,0,none⟩ = some (.slice Ao17 t552.length co17):=(bc_ BK559.out 0).trans rfl
         have hcz52_1 : wc.cell? ⟨gb559,1,none⟩ = some (.int .i64 t555):=(bc_ BK559.out 1).trans rfl
         have hcz52_2 : wc.cell? ⟨gb559,2,none⟩ = some (.int .i64 t556):=(bc_ BK559.out 2).trans rfl
         have hcz52_3 : wc.cell? ⟨gb559,3,none⟩ = some (.bool t557):=(bc_ BK559.out 3).trans rfl
         have hfz52_0:=bf_ BK559.out 0
         have hfz52_1:=bf_ BK559.out 1
         have hfz52_2:=bf_ BK559.out 2
         have hfz52_3:=bf_ BK559.out 3
         go_wp2_with (first|(go_at_call 20;(with_reducible refine (laws_wnTexts.calls kj5 _ _ t544 _ _ t552 true _ ?side1 ?side2 ?side3 ?side4 A44.out).mono ?_);(case side1 => repeat (first|exact (Kd.S_reads' z0_.out).2.2|(with_reducible refine ca_ ?_ _)|(with_reducible refine cn_ ?_ _)|(with_reducible refine cd_ ?_)));(case side2 => exact (Kd.S_reads' z0_.out).2.1);(case side3 => repeat (first|exact (Kd.S_reads' z1_.out).2.2|(with_reducible refine ca_ ?_ _)|(with_reducible refine cn_ ?_ _)|(with_reducible refine cd_ ?_)));(case side4 => exact (Kd.S_reads' z1_.out).2.1);rintro e w' ⟨rfl,⟨nd,rfl⟩⟩))
         go_ret
         exact ⟨qe_,u5_ HB GE551 GE559⟩
       ·replace c45:=Bool.eq_false_iff.mpr c45
        subst c45
        have H1 : (some false) = some r:=by rw [if_neg (show ¬ (false = true) by decide)] at H;exact H
        clear H
        have H:=H1
        clear H1
        obtain rfl:=Option.some.inj H
        have hnb53:=NB551_559.out
        have hnc53:=NB559_551.out
        have hcz54_0 : wc.cell? ⟨gb551,0,none⟩ = some (.slice Ao13 t544.length co13):=(bc_ BK551.out 0).trans rfl
        have hcz54_1 : wc.cell? ⟨gb551,1,none⟩ = some (.int .i64 t547):=(bc_ BK551.out 1).trans rfl
        have hcz54_2 : wc.cell? ⟨gb551,2,none⟩ = some (.int .i64 t548):=(bc_ BK551.out 2).trans rfl
        have hcz54_3 : wc.cell? ⟨gb551,3,none⟩ = some (.bool t549):=(bc_ BK551.out 3).trans rfl
        have hfz54_0:=bf_ BK551.out 0
        have hfz54_1:=bf_ BK551.out 1
        have hfz54_2:=bf_ BK551.out 2
        have hfz54_3:=bf_ BK551.out 3
        have hcz55_0 : wc.cell? ⟨gb559,0,none⟩ = some (.slice Ao17 t552.length co17):=(bc_ BK559.out 0).trans rfl
        have hcz55_1 : wc.cell? ⟨gb559,1,none⟩ = some (.int .i64 t555):=(bc_ BK559.out 1).trans rfl
        have hcz55_2 : wc.cell? ⟨gb559,2,none⟩ = some (.int .i64 t556):=(bc_ BK559.out 2).trans rfl
        have hcz55_3 : wc.cell? ⟨gb559,3,none⟩ = some (.bool t557):=(bc_ BK559.out 3).trans rfl
        have hfz55_0:=bf_ BK559.out 0
        have hfz55_1:=bf_ BK559.out 1
        have hfz55_2:=bf_ BK559.out 2
        have hfz55_3:=bf_ BK559.out 3
        go_wp2_with (first|(go_at_call 20;(with_reducible refine (laws_wnTexts.calls kj5 _ _ t544 _ _ t552 false _ ?side1 ?side2 ?side3 ?side4 A44.out).mono ?_);(case side1 => repeat (first|exact (Kd.S_reads' z0_.out).2.2|(with_reducible refine ca_ ?_ _)|(with_reducible refine cn_ ?_ _)|(with_reducible refine cd_ ?_)));(case side2 => exact (Kd.S_reads' z0_.out).2.1);(case side3 => repeat (first|exact (Kd.S_reads' z1_.out).2.2|(with_reducible refine ca_ ?_ _)|(with_reducible refine cn_ ?_ _)|(with_reducible refine cd_ ?_)));(case side4 => exact (Kd.S_reads' z1_.out).2.1);rintro e w' ⟨rfl,⟨nd,rfl⟩⟩))
        go_ret
        exact ⟨qe_,u5_ HB GE551 GE559⟩
      ·rw [if_neg c43] at H
       have c43b0 : (t547 == t555) = false:=beq_eq_false_iff_ne.mpr c43
       have c43b1 : (t547 != t555) = true:=bne_iff_ne.mpr c43
       obtain rfl:=Option.some.inj H
       have hnb56:=NB551_559.out
       have hnc56:=NB559_551.out
       have hcz57_0 : wc.cell? ⟨gb551,0,none⟩ = some (.slice Ao13 t544.length co13):=(bc_ BK551.out 0).trans rfl
       have hcz57_1 : wc.cell? ⟨gb551,1,none⟩ = some (.int .i64 t547):=(bc_ BK551.out 1).trans rfl
       have hcz57_2 : wc.cell? ⟨gb551,2,none⟩ = some (.int .i64 t548):=(bc_ BK551.out 2).trans rfl
       have hcz57_3 : wc.cell? ⟨gb551,3,none⟩ = some (.bool t549):=(bc_ BK551.out 3).trans rfl
       have hfz57_0:=bf_ BK551.out 0
       have hfz57_1:=bf_ BK551.out 1
       have hfz57_2:=bf_ BK551.out 2
       have hfz57_3:=bf_ BK551.out 3
       have hcz58_0 : wc.cell? ⟨gb559,0,none⟩ = some (.slice Ao17 t552.length co17):=(bc_ BK559.out 0).trans rfl
       have hcz58_1 : wc.cell? ⟨gb559,1,none⟩ = some (.int .i64 t555):=(bc_ BK559.out 1).trans rfl
       have hcz58_2 : wc.cell? ⟨gb559,2,none⟩ = some (.int .i64 t556):=(bc_ BK559.out 2).trans rfl
       have hcz58_3 : wc.cell? ⟨gb559,3,none⟩ = some (.bool t557):=(bc_ BK559.out 3).trans rfl
       have hfz58_0:=bf_ BK559.out 0
       have hfz58_1:=bf_ BK559.out 1
       have hfz58_2:=bf_ BK559.out 2
       have hfz58_3:=bf_ BK559.out 3
       go_wp2
       go_ret
       exact ⟨qe_,u5_ HB GE551 GE559⟩
     ·rw [if_neg c42] at H
      have c42b0 : (t550 == t558) = false:=by simpa using c42
      (try (have c42b1 : decide (t550 = t558) = false:=by simpa using c42))
      (try (have c42b2 : (t550 == t558) = false:=by simpa using c42))
      (try (have c42b3 : ¬ (t550 = t558):=by simpa using c42))
      clear c42
      obtain rfl:=Option.some.inj H
      go_wp2
      go_ret
      exact ⟨qe_,u5_ HB GE551 GE559⟩
    ·replace c41:=Bool.eq_false_iff.mpr c41
     subst c41
     have H1 : (if (t544.length : Int) ≤ (t534.length : Int) then (if 0 ≤ (t544.length : Int) then ((laws_wnTexts.f kj5 t544 (t534.take ((t544.length : Int) : Int).toNat)).bind fun t566 => (if t566 = true then (if t549 = true then (if (t544.length : Int) = (t534.length : Int) then (some (decide (t547 ≤ t537))) else (some false)) else (some (decide (t547 ≤ t537)))) else (some false))) else (none)) else (some false)) = some r:=by rw [if_neg (show ¬ (false = true) by decide)] at H;exact H
     clear H
     have H:=H1
     clear H1
     by_cases c59 : (t544.length : Int) ≤ (t534.length : Int)
     ·rw [if_pos c59] at H
      have c59b0 : decide ((t544.length : Int) ≤ (t534.length : Int)) = true:=decide_eq_true c59
      have c59b1 : decide (t544.length ≤ t534.length) = true:=decide_eq_true (Int.ofNat_le.mp c59)
      clear c59
      by_cases c60 : 0 ≤ (t544.length : Int)
      ·rw [if_pos c60] at H
       have c60b0:=eq_true c60
       have c60b1 : decide (0 ≤ (t544.length : Int)) = true:=decide_eq_true c60
       clear c60
       have c61b0:=eq_true (od_ qa_ : (t544.length : Int) ≤ (t534.length : Int))
       obtain ⟨y562,hy562⟩ : ∃ y_ : List (List Int),y_ = (t534.take ((t544.length : Int) : Int).toNat):=⟨_,rfl⟩
       replace H : ((laws_wnTexts.f kj5 t544 y562).bind fun t566 => (if t566 = true then (if t549 = true then (if (t544.length : Int) = (t534.length : Int) then (some (decide (t547 ≤ t537))) else (some false)) else (some (decide (t547 ≤ t537)))) else (some false))) = some r:=by first|(rw [hy562];with_reducible exact H)|(have H2_:=(Option.bind_some _ _).symm.trans H;rw [hy562];with_reducible exact H2_)|(have H2_:=(Option.bind_some _ _).symm.trans H;with_reducible exact H2_)|with_reducible exact H|(rw [hy562];exact H)|exact H
       have Ny562:=mk_ hy562
       clear hy562
       replace H:=Option.bind_eq_some_iff.mp H
       obtain ⟨t566,A620,H⟩:=H
       replace H : (if t566 = true then (if t549 = true then (if (t544.length : Int) = (t534.length : Int) then (some (decide (t547 ≤ t537))) else (some false)) else (some (decide (t547 ≤ t537)))) else (some false)) = some r:=H
       have A62:=mk_ A620
       clear A620
       by_cases c63 : t566 = true
       ·subst c63
        have H1 : (if t549 = true then (if (t544.length : Int) = (t534.length : Int) then (some (decide (t547 ≤ t537))) else (some false)) else (some (decide (t547 ≤ t537)))) = some r:=by rw [if_pos rfl] at H;exact H
        clear H
        have H:=H1
        clear H1
        by_cases c64 : t549 = true
        ·subst c64
         have H1 : (if (t544.length : Int) = (t534.length : Int) then (some (decide (t547 ≤ t537))) else (some false)) = some r:=by rw [if_pos rfl] at H;exact H
         clear H
         have H:=H1
         clear H1
         by_cases c65 : (t544.length : Int) = (t534.length : Int)
         ·rw [if_pos c65] at H
          have c65b0 : ((t544.length : Int) == (t534.length : Int)) = true:=beq_iff_eq.mpr c65
          have c65b1 : ((t544.length : Int) != (t534.length : Int)) = false:=bne_eq_false_iff_eq.mpr c65
          have c65b2 : (t544.length == t534.length) = true:=by first|simpa using c65|(simp at c65 ⊢;omega)
          clear c65
          obtain rfl:=Option.some.inj H
          try go_wp2
          have n0_:=mk_ (Kd.S_drew HO_4.out)
          have n1_:=mk_ (Kd.S_drew z0_.out)
          have n2_:=mk_ (Kd.S_drew z1_.out)
          have n3_:=mk_ (kd_ BK551.out)
          have n4_:=mk_ (kd_ BK559.out)
          have n5_:=mk_ (bd_ HB.out)
          clear HO_4
          clear z0_
          clear z1_
          clear BK551
          clear BK559
          clear HB
          have HO_4:=n0_
          have z0_:=n1_
          have z1_:=n2_
          have BK551:=n3_
          have BK559:=n4_
          have HB:=n5_
          clear n0_ n1_ n2_ n3_ n4_ n5_
          have q67 : ((t544.length : Int) : Int) ≤ ((t534.length : Int) : Int):=od_ qa_
          obtain ⟨i067,hi067,_,hsz67,_⟩:=info_parts info22
          have hroom67 : t534.length ≤ co8:=(Kd.S_reads' HO_4.out).2.1
          have hC67 : Kd.C (Kd.slice 5 (Kd.int .u8)) _ Ao8 t534.length t534:=(Kd.S_reads' HO_4.out).2.2
          have hcut67:=cut_to (P:=Try.prog) 23 22 .i64 Try.underlying23 hi067 Ao8 t534.length co8 (t544.length : Int) (od_ qa_) q67 hroom67
          have hr67:=Kd.C_take (m:=((t544.length : Int) : Int).toNat) hC67 (by omega)
          have hy67 : y562.length = ((t544.length : Int) : Int).toNat:=(by rw [Ny562.out,List.length_take];omega)
          rw [← Ny562.out] at hr67
          rw [← hy67] at hcut67
          have HR565:=mk_ hr67
          have HC565:=mk_ (show y562.length ≤ co8 from by omega)
          clear hr67 hC67 hroom67 hi067 hsz67
          have KY67:=mk_ hy67
          clear hy67
          have KL67:=mk_ (show ((t544.length : Int) : Int).toNat ≤ t534.length from by omega)
          replace q67:=eq_true q67
          refine start_ (n:=36) (S:=fun w' => w'.cell? ⟨gb551,0,none⟩ = some (.slice Ao13 t544.length co13) ∧ w'.cell? ⟨gb551,1,none⟩ = some (.int .i64 t547) ∧ w'.cell? ⟨gb551,2,none⟩ = some (.int .i64 t548) ∧ w'.cell? ⟨gb551,3,none⟩ = some (.bool true)) (ds:=[]) #[false,false,false,false,false,false,false,false,false,false,false,false,false,false,false,false,false,false,false,false,false,false,false,false,false,false,false,false,false,false,false,false,false,false,false,false] (by kernel_rfl) rfl rfl ⟨(bc_ BK551.out 0).trans rfl,(bc_ BK551.out 1).trans rfl,(bc_ BK551.out 2).trans rfl,(bc_ BK551.out 3).trans rfl⟩ (fun hHeld => ?_);refine with_tabW laws_FnLinkSafe.tab8 laws_FnLinkSafe.bits8 (fun HT_ HW_ => ?_)
          generalize wc.drew = w66 at HO_4 z0_ z1_ BK551 BK559 HB HR565 hHeld ⊢
          refine pure_ (i:=0) (N:=some 108) (v:=?_) (a':=?_) #[true,false,false,false,false,false,false,false,false,false,false,false,false,false,false,false,false,false,false,false,false,false,false,false,false,false,false,false,false,false,false,false,false,false,false,false] rfl rfl (any_of HT_.out (by kernel_rfl)) (fun _ _ _ h => h) (Or.inl ⟨by rfl,?_⟩) ?_ ?_
          rotate_left
          ·intro w'
           go_simp
           with_reducible rfl
          rotate_left
          ·simp only [Act.put,sx_,sy_,sz_,i64_w,i32_w]
           rfl
          refine pure_ (i:=3) (N:=some 111) (v:=?_) (a':=?_) #[true,false,false,true,false,false,false,false,false,false,false,false,false,false,false,false,false,false,false,false,false,false,false,false,false,false,false,false,false,false,false,false,false,false,false,false] rfl rfl (any_of HT_.out (by kernel_rfl)) (fun _ _ _ h => h) (Or.inl ⟨by rfl,?_⟩) ?_ ?_
          rotate_left
          ·intro w'
           go_simp
           with_reducible rfl
          rotate_left
          ·simp only [Act.put,sx_,sy_,sz_,i64_w,i32_w]
           rfl
          refine pure_ (i:=4) (N:=some 112) (v:=?_) (a':=?_) #[true,false,false,true,true,false,false,false,false,false,false,false,false,false,false,false,false,false,false,false,false,false,false,false,false,false,false,false,false,false,false,false,false,false,false,false] rfl rfl (any_of HT_.out (by kernel_rfl)) (fun _ _ _ h => h) (Or.inl ⟨by rfl,?_⟩) ?_ ?_
          rotate_left
          ·intro w'
           go_simp
           with_reducible rfl
          rotate_left
          ·simp only [Act.put,sx_,sy_,sz_,i64_w,i32_w]
           rfl
          refine take_ (i:=1) (N:=some 109) (v:=?_) (a':=?_) #[true,true,false,true,true,false,false,false,false,false,false,false,false,false,false,false,false,false,false,false,false,false,false,false,false,false,false,false,false,false,false,false,false,false,false,false] rfl rfl (take_ofW HT_.out HW_.out (by kernel_rfl)) (fun _ _ _ h => h) (Or.inl ⟨by rfl,?_⟩) hHeld ?_ ?_
          rotate_left
          ·rintro w' ⟨s0,s1,s2,s3⟩
           go_simp
           with_reducible rfl
          rotate_left
          ·simp only [Act.put,sx_,sy_,sz_,i64_w,i32_w]
           rfl
          refine pure_ (i:=2) (N:=some 110) (v:=?_) (a':=?_) #[true,true,true,true,true,false,false,false,false,false,false,false,false,false,false,false,false,false,false,false,false,false,false,false,false,false,false,false,false,false,false,false,false,false,false,false] rfl rfl (any_of HT_.out (by kernel_rfl)) (fun _ _ _ h => h) (Or.inl ⟨by rfl,?_⟩) ?_ ?_
          rotate_left
          ·intro w'
           go_simp
           with_reducible rfl
          rotate_left
          ·simp only [Act.put,sx_,sy_,sz_,i64_w,i32_w]
           rfl
          refine pure_ (i:=5) (N:=some 113) (v:=?_) (a':=?_) #[true,true,true,true,true,true,false,false,false,false,false,false,false,false,false,false,false,false,false,false,false,false,false,false,false,false,false,false,false,false,false,false,false,false,false,false] rfl rfl (any_of HT_.out (by kernel_rfl)) (fun _ _ _ h => h) (Or.inl ⟨by rfl,?_⟩) ?_ ?_
          rotate_left
          ·intro w'
           go_simp
           with_reducible rfl
          rotate_left
          ·simp only [Act.put,sx_,sy_,sz_,i64_w,i32_w]
           rfl
          refine pure_ (i:=6) (N:=some 114) (v:=?_) (a':=?_) #[true,true,true,true,true,true,true,false,false,false,false,false,false,false,false,false,false,false,false,false,false,false,false,false,false,false,false,false,false,false,false,false,false,false,false,false] rfl rfl (any_of HT_.out (by kernel_rfl)) (fun _ _ _ h => h) (Or.inl ⟨by rfl,?_⟩) ?_ ?_
          rotate_left
          ·intro w'
           go_simp
           with_reducible rfl
          rotate_left
          ·simp only [Act.put,sx_,sy_,sz_,i64_w,i32_w]
           rfl
          refine pure_ (i:=7) (N:=some 115) (v:=?_) (a':=?_) #[true,true,true,true,true,true,true,true,false,false,false,false,false,false,false,false,false,false,false,false,false,false,false,false,false,false,false,false,false,false,false,false,false,false,false,false] rfl rfl (any_of HT_.out (by kernel_rfl)) (fun _ _ _ h => h) (Or.inl ⟨by rfl,?_⟩) ?_ ?_
          rotate_left
          ·intro w'
           go_simp
           with_reducible rfl
          rotate_left
          ·simp only [Act.put,sx_,sy_,sz_,i64_w,i32_w]
           rfl
          refine pure_ (i:=9) (N:=some 117) (v:=?_) (a':=?_) #[true,true,true,true,true,true,true,true,false,true,false,false,false,false,false,false,false,false,false,false,false,false,false,false,false,false,false,false,false,false,false,false,false,false,false,false] rfl rfl (any_of HT_.out (by kernel_rfl)) (fun _ _ _ h => h) (Or.inl ⟨by rfl,?_⟩) ?_ ?_
          rotate_left
          ·intro w'
           go_simp
           with_reducible rfl
          rotate_left
          ·simp only [Act.put,sx_,sy_,sz_,i64_w,i32_w]
           rfl
          refine pure_ (i:=10) (N:=some 118) (v:=?_) (a':=?_) #[true,true,true,true,true,true,true,true,false,true,true,false,false,false,false,false,false,false,false,false,false,false,false,false,false,false,false,false,false,false,false,false,false,false,false,false] rfl rfl (any_of HT_.out (by kernel_rfl)) (fun _ _ _ h => h) (Or.inl ⟨by rfl,?_⟩) ?_ ?_
          rotate_left
          ·intro w'
           go_simp
           with_reducible rfl
          rotate_left
          ·simp only [Act.put,sx_,sy_,sz_,i64_w,i32_w]
           rfl
          refine take_ (i:=8) (N:=some 116) (v:=?_) (a':=?_) #[true,true,true,true,true,true,true,true,true,true,true,false,false,false,false,false,false,false,false,false,false,false,false,false,false,false,false,false,false,false,false,false,false,false,false,false] rfl rfl (take_ofW HT_.out HW_.out (by kernel_rfl)) (fun _ _ _ h => h) (Or.inl ⟨by rfl,?_⟩) hHeld ?_ ?_
          rotate_left
          ·rintro w' ⟨s0,s1,s2,s3⟩
           go_simp
           with_reducible rfl
          rotate_left
          ·simp only [Act.put,sx_,sy_,sz_,i64_w,i32_w]
           rfl
          refine take_ (i:=11) (N:=some 119) (v:=?_) (a':=?_) #[true,true,true,true,true,true,true,true,true,true,true,true,false,false,false,false,false,false,false,false,false,false,false,false,false,false,false,false,false,false,false,false,false,false,false,false] rfl rfl (take_ofW HT_.out HW_.out (by kernel_rfl)) (fun _ _ _ h => h) (Or.inl ⟨by rfl,?_⟩) hHeld ?_ ?_
          rotate_left
          ·rintro w' ⟨s0,s1,s2,s3⟩
           go_simp
           with_reducible rfl
          rotate_left
          ·simp only [Act.put,sx_,sy_,sz_,i64_w,i32_w]
           rfl
          refine pure_ (i:=12) (N:=some 120) (v:=?_) (a':=?_) #[true,true,true,true,true,true,true,true,true,true,true,true,true,false,false,false,false,false,false,false,false,false,false,false,false,false,false,false,false,false,false,false,false,false,false,false] rfl rfl (any_of HT_.out (by kernel_rfl)) (fun _ _ _ h => h) (Or.inl ⟨by rfl,?_⟩) ?_ ?_
          rotate_left
          ·intro w'
           go_simp
           with_reducible rfl
          rotate_left
          ·simp only [Act.put,sx_,sy_,sz_,i64_w,i32_w]
           rfl
          refine pure_ (i:=13) (N:=some 121) (v:=?_) (a':=?_) #[true,true,true,true,true,true,true,true,true,true,true,true,true,true,false,false,false,false,false,false,false,false,false,false,false,false,false,false,false,false,false,false,false,false,false,false] rfl rfl (any_of HT_.out (by kernel_rfl)) (fun _ _ _ h => h) (Or.inl ⟨by rfl,?_⟩) ?_ ?_
          rotate_left
          ·intro w'
           go_simp
           with_reducible rfl
          rotate_left
          ·simp only [Act.put,sx_,sy_,sz_,i64_w,i32_w]
           rfl
          refine one_ (i:=14) (N:=some 122) #[true,true,true,true,true,true,true,true,true,true,true,true,true,true,true,false,false,false,false,false,false,false,false,false,false,false,false,false,false,false,false,false,false,false,false,false] rfl rfl (one_of HT_.out (by kernel_rfl)) (by decide) (fun K hK => ?_)
          refine goes_ Try.func20 (by kernel_rfl) rfl #[.slice Ao13 t544.length co13,.slice Ao8 y562.length co8] (by rfl) rfl rfl qm_ ?_
          with_reducible refine (laws_wnTexts.calls kj5 _ _ t544 _ _ y562 true _ ?side1 ?side2 ?side3 ?side4 A62.out).mono ?_
          (case side1 => repeat (first|exact (Kd.S_reads' z0_.out).2.2|(with_reducible refine ca_ ?_ _)|(with_reducible refine cn_ ?_ _)|(with_reducible refine cd_ ?_)))
          (case side2 => exact (Kd.S_reads' z0_.out).2.1)
          (case side3 => repeat (first|exact (by repeat (first|(with_reducible exact HR565.out)|(with_reducible refine ca_ ?_ _)|(with_reducible refine cn_ ?_ _)|(with_reducible refine cd_ ?_)|exact HR565.out))|(with_reducible refine ca_ ?_ _)|(with_reducible refine cn_ ?_ _)|(with_reducible refine cd_ ?_)))
          (case side4 => exact HC565.out)
          rintro e w' ⟨rfl,⟨nd,rfl⟩⟩
          refine ⟨_,rfl,?_⟩
          refine hK.out _ _ ⟨(bc_ BK551.out 0).trans rfl,(bc_ BK551.out 1).trans rfl,(bc_ BK551.out 2).trans rfl,(bc_ BK551.out 3).trans rfl⟩ (fun hHeld => ?_)
          clear hK K
          refine norm_ (a':=?_) ?_ ?_
          rotate_left
          ·show Act.put _ (some 122) _ = _
           simp only [Act.put,sx_,sy_,sz_,i64_w,i32_w]
           rfl
          refine pure_ (i:=15) (N:=some 123) (v:=?_) (a':=?_) #[true,true,true,true,true,true,true,true,true,true,true,true,true,true,true,true,false,false,false,false,false,false,false,false,false,false,false,false,false,false,false,false,false,false,false,false] rfl rfl (any_of HT_.out (by kernel_rfl)) (fun _ _ _ h => h) (Or.inl ⟨by rfl,?_⟩) ?_ ?_
          rotate_left
          ·intro w'
           go_simp
           with_reducible rfl
          rotate_left
          ·simp only [Act.put,sx_,sy_,sz_,i64_w,i32_w]
           rfl
          refine pure_ (i:=16) (N:=some 124) (v:=?_) (a':=?_) #[true,true,true,true,true,true,true,true,true,true,true,true,true,true,true,true,true,false,false,false,false,false,false,false,false,false,false,false,false,false,false,false,false,false,false,false] rfl rfl (any_of HT_.out (by kernel_rfl)) (fun _ _ _ h => h) (Or.inl ⟨by rfl,?_⟩) ?_ ?_
          rotate_left
          ·intro w'
           go_simp
           with_reducible rfl
          rotate_left
          ·simp only [Act.put,sx_,sy_,sz_,i64_w,i32_w]
           rfl
          refine pure_ (i:=17) (N:=some 125) (v:=?_) (a':=?_) #[true,true,true,true,true,true,true,true,true,true,true,true,true,true,true,true,true,true,false,false,false,false,false,false,false,false,false,false,false,false,false,false,false,false,false,false] rfl rfl (any_of HT_.out (by kernel_rfl)) (fun _ _ _ h => h) (Or.inl ⟨by rfl,?_⟩) ?_ ?_
          rotate_left
          ·intro w'
           go_simp
           with_reducible rfl
          rotate_left
          ·simp only [Act.put,sx_,sy_,sz_,i64_w,i32_w]
           rfl
          refine take_ (i:=18) (N:=some 126) (v:=?_) (a':=?_) #[true,true,true,true,true,true,true,true,true,true,true,true,true,true,true,true,true,true,true,false,false,false,false,false,false,false,false,false,false,false,false,false,false,false,false,false] rfl rfl (take_ofW HT_.out HW_.out (by kernel_rfl)) (fun _ _ _ h => h) (Or.inl ⟨by rfl,?_⟩) hHeld ?_ ?_
          rotate_left
          ·rintro w' ⟨s0,s1,s2,s3⟩
           go_simp
           with_reducible rfl
          rotate_left
          ·simp only [Act.put,sx_,sy_,sz_,i64_w,i32_w]
           rfl
          refine pure_ (i:=19) (N:=some 127) (v:=?_) (a':=?_) #[true,true,true,true,true,true,true,true,true,true,true,true,true,true,true,true,true,true,true,true,false,false,false,false,false,false,false,false,false,false,false,false,false,false,false,false] rfl rfl (any_of HT_.out (by kernel_rfl)) (fun _ _ _ h => h) (Or.inl ⟨by rfl,?_⟩) ?_ ?_
          rotate_left
          ·intro w'
           go_simp
           with_reducible rfl
          rotate_left
          ·simp only [Act.put,sx_,sy_,sz_,i64_w,i32_w]
           rfl
          refine pure_ (i:=20) (N:=some 128) (v:=?_) (a':=?_) #[true,true,true,true,true,true,true,true,true,true,true,true,true,true,true,true,true,true,true,true,true,false,false,false,false,false,false,false,false,false,false,false,false,false,false,false] rfl rfl (any_of HT_.out (by kernel_rfl)) (fun _ _ _ h => h) (Or.inl ⟨by rfl,?_⟩) ?_ ?_
          rotate_left
          ·intro w'
           go_simp
           with_reducible rfl
          rotate_left
          ·simp only [Act.put,sx_,sy_,sz_,i64_w,i32_w]
           rfl
          refine pure_ (i:=21) (N:=some 129) (v:=?_) (a':=?_) #[true,true,true,true,true,true,true,true,true,true,true,true,true,true,true,true,true,true,true,true,true,true,false,false,false,false,false,false,false,false,false,false,false,false,false,false] rfl rfl (any_of HT_.out (by kernel_rfl)) (fun _ _ _ h => h) (Or.inl ⟨by rfl,?_⟩) ?_ ?_
          rotate_left
          ·intro w'
           go_simp
           with_reducible rfl
          rotate_left
          ·simp only [Act.put,sx_,sy_,sz_,i64_w,i32_w]
           rfl
          refine pure_ (i:=24) (N:=some 132) (v:=?_) (a':=?_) #[true,true,true,true,true,true,true,true,true,true,true,true,true,true,true,true,true,true,true,true,true,true,false,false,true,false,false,false,false,false,false,false,false,false,false,false] rfl rfl (any_of HT_.out (by kernel_rfl)) (fun _ _ _ h => h) (Or.inl ⟨by rfl,?_⟩) ?_ ?_
          rotate_left
          ·intro w'
           go_simp
           with_reducible rfl
          rotate_left
          ·simp only [Act.put,sx_,sy_,sz_,i64_w,i32_w]
           rfl
          refine pure_ (i:=25) (N:=some 133) (v:=?_) (a':=?_) #[true,true,true,true,true,true,true,true,true,true,true,true,true,true,true,true,true,true,true,true,true,true,false,false,true,true,false,false,false,false,false,false,false,false,false,false] rfl rfl (any_of HT_.out (by kernel_rfl)) (fun _ _ _ h => h) (Or.inl ⟨by rfl,?_⟩) ?_ ?_
          rotate_left
          ·intro w'
           go_simp
           with_reducible rfl
          rotate_left
          ·simp only [Act.put,sx_,sy_,sz_,i64_w,i32_w]
           rfl
          refine take_ (i:=22) (N:=some 130) (v:=?_) (a':=?_) #[true,true,true,true,true,true,true,true,true,true,true,true,true,true,true,true,true,true,true,true,true,true,true,false,true,true,false,false,false,false,false,false,false,false,false,false] rfl rfl (take_ofW HT_.out HW_.out (by kernel_rfl)) (fun _ _ _ h => h) (Or.inl ⟨by rfl,?_⟩) hHeld ?_ ?_
          rotate_left
          ·rintro w' ⟨s0,s1,s2,s3⟩
           go_simp
           with_reducible rfl
          rotate_left
          ·simp only [Act.put,sx_,sy_,sz_,i64_w,i32_w]
           rfl
          refine pure_ (i:=23) (N:=some 131) (v:=?_) (a':=?_) #[true,true,true,true,true,true,true,true,true,true,true,true,true,true,true,true,true,true,true,true,true,true,true,true,true,true,false,false,false,false,false,false,false,false,false,false] rfl rfl (any_of HT_.out (by kernel_rfl)) (fun _ _ _ h => h) (Or.inl ⟨by rfl,?_⟩) ?_ ?_
          rotate_left
          ·intro w'
           go_simp
           with_reducible rfl
          rotate_left
          ·simp only [Act.put,sx_,sy_,sz_,i64_w,i32_w]
           rfl
          refine pure_ (i:=26) (N:=some 134) (v:=?_) (a':=?_) #[true,true,true,true,true,true,true,true,true,true,true,true,true,true,true,true,true,true,true,true,true,true,true,true,true,true,true,false,false,false,false,false,false,false,false,false] rfl rfl (any_of HT_.out (by kernel_rfl)) (fun _ _ _ h => h) (Or.inl ⟨by rfl,?_⟩) ?_ ?_
          rotate_left
          ·intro w'
           go_simp
           with_reducible rfl
          rotate_left
          ·simp only [Act.put,sx_,sy_,sz_,i64_w,i32_w]
           rfl
          refine pure_ (i:=27) (N:=some 135) (v:=?_) (a':=?_) #[true,true,true,true,true,true,true,true,true,true,true,true,true,true,true,true,true,true,true,true,true,true,true,true,true,true,true,true,false,false,false,false,false,false,false,false] rfl rfl (any_of HT_.out (by kernel_rfl)) (fun _ _ _ h => h) (Or.inl ⟨by rfl,?_⟩) ?_ ?_
          rotate_left
          ·intro w'
           go_simp
           with_reducible rfl
          rotate_left
          ·simp only [Act.put,sx_,sy_,sz_,i64_w,i32_w]
           rfl
          refine pure_ (i:=28) (N:=some 136) (v:=?_) (a':=?_) #[true,true,true,true,true,true,true,true,true,true,true,true,true,true,true,true,true,true,true,true,true,true,true,true,true,true,true,true,true,false,false,false,false,false,false,false] rfl rfl (any_of HT_.out (by kernel_rfl)) (fun _ _ _ h => h) (Or.inl ⟨by rfl,?_⟩) ?_ ?_
          rotate_left
          ·intro w'
           go_simp
           with_reducible rfl
          rotate_left
          ·simp only [Act.put,sx_,sy_,sz_,i64_w,i32_w]
           rfl
          refine pure_ (i:=29) (N:=some 137) (v:=?_) (a':=?_) #[true,true,true,true,true,true,true,true,true,true,true,true,true,true,true,true,true,true,true,true,true,true,true,true,true,true,true,true,true,true,false,false,false,false,false,false] rfl rfl (any_of HT_.out (by kernel_rfl)) (fun _ _ _ h => h) (Or.inl ⟨by rfl,?_⟩) ?_ ?_
          rotate_left
          ·intro w'
           go_simp
           with_reducible rfl
          rotate_left
          ·simp only [Act.put,sx_,sy_,sz_,i64_w,i32_w]
           rfl
          refine pure_ (i:=30) (N:=some 138) (v:=?_) (a':=?_) #[true,true,true,true,true,true,true,true,true,true,true,true,true,true,true,true,true,true,true,true,true,true,true,true,true,true,true,true,true,true,true,false,false,false,false,false] rfl rfl (any_of HT_.out (by kernel_rfl)) (fun _ _ _ h => h) (Or.inl ⟨by rfl,?_⟩) ?_ ?_
          rotate_left
          ·intro w'
           go_simp
           with_reducible rfl
          rotate_left
          ·simp only [Act.put,sx_,sy_,sz_,i64_w,i32_w]
           rfl
          refine pure_ (i:=32) (N:=some 140) (v:=?_) (a':=?_) #[true,true,true,true,true,true,true,true,true,true,true,true,true,true,true,true,true,true,true,true,true,true,true,true,true,true,true,true,true,true,true,false,true,false,false,false] rfl rfl (any_of HT_.out (by kernel_rfl)) (fun _ _ _ h => h) (Or.inl ⟨by rfl,?_⟩) ?_ ?_
          rotate_left
          ·intro w'
           go_simp
           with_reducible rfl
          rotate_left
          ·simp only [Act.put,sx_,sy_,sz_,i64_w,i32_w]
           rfl
          refine take_ (i:=31) (N:=some 139) (v:=?_) (a':=?_) #[true,true,true,true,true,true,true,true,true,true,true,true,true,true,true,true,true,true,true,true,true,true,true,true,true,true,true,true,true,true,true,true,true,false,false,false] rfl rfl (take_ofW HT_.out HW_.out (by kernel_rfl)) (fun _ _ _ h => h) (Or.inl ⟨by rfl,?_⟩) hHeld ?_ ?_
          rotate_left
          ·rintro w' ⟨s0,s1,s2,s3⟩
           go_simp
           with_reducible rfl
          rotate_left
          ·simp only [Act.put,sx_,sy_,sz_,i64_w,i32_w]
           rfl
          refine pure_ (i:=33) (N:=some 141) (v:=?_) (a':=?_) #[true,true,true,true,true,true,true,true,true,true,true,true,true,true,true,true,true,true,true,true,true,true,true,true,true,true,true,true,true,true,true,true,true,true,false,false] rfl rfl (any_of HT_.out (by kernel_rfl)) (fun _ _ _ h => h) (Or.inl ⟨by rfl,?_⟩) ?_ ?_
          rotate_left
          ·intro w'
           go_simp
           with_reducible rfl
          rotate_left
          ·simp only [Act.put,sx_,sy_,sz_,i64_w,i32_w]
           rfl
          refine pure_ (i:=34) (N:=some 142) (v:=?_) (a':=?_) #[true,true,true,true,true,true,true,true,true,true,true,true,true,true,true,true,true,true,true,true,true,true,true,true,true,true,true,true,true,true,true,true,true,true,true,false] rfl rfl (any_of HT_.out (by kernel_rfl)) (fun _ _ _ h => h) (Or.inl ⟨by rfl,?_⟩) ?_ ?_
          rotate_left
          ·intro w'
           go_simp
           with_reducible rfl
          rotate_left
          ·simp only [Act.put,sx_,sy_,sz_,i64_w,i32_w]
           rfl
          refine pure_ (i:=35) (N:=some 2) (v:=?_) (a':=?_) #[true,true,true,true,true,true,true,true,true,true,true,true,true,true,true,true,true,true,true,true,true,true,true,true,true,true,true,true,true,true,true,true,true,true,true,true] rfl rfl (any_of HT_.out (by kernel_rfl)) (fun _ _ _ h => h) (Or.inl ⟨by rfl,?_⟩) ?_ ?_
          rotate_left
          ·intro w'
           go_simp
           with_reducible rfl
          rotate_left
          ·simp only [Act.put,sx_,sy_,sz_,i64_w,i32_w]
           rfl
          refine done_ (done_of HT_.out (by kernel_rfl)) ?_
          try go_wp2
          go_ret
          exact ⟨qe_,u5_ HB GE551 GE559⟩
         ·rw [if_neg c65] at H
          have c65b0 : ((t544.length : Int) == (t534.length : Int)) = false:=beq_eq_false_iff_ne.mpr c65
          have c65b1 : ((t544.length : Int) != (t534.length : Int)) = true:=bne_iff_ne.mpr c65
          have c65b2 : (t544.length == t534.length) = false:=by first|simpa using c65|(simp at c65 ⊢;omega)
          obtain rfl:=Option.some.inj H
          try go_wp2
          have n0_:=mk_ (Kd.S_drew HO_4.out)
          have n1_:=mk_ (Kd.S_drew z0_.out)
          have n2_:=mk_ (Kd.S_drew z1_.out)
          have n3_:=mk_ (kd_ BK551.out)
          have n4_:=mk_ (kd_ BK559.out)
          have n5_:=mk_ (bd_ HB.out)
          clear HO_4
          clear z0_
          clear z1_
          clear BK551
          clear BK559
          clear HB
          have HO_4:=n0_
          have z0_:=n1_
          have z1_:=n2_
          have BK551:=n3_
          have BK559:=n4_
          have HB:=n5_
          clear n0_ n1_ n2_ n3_ n4_ n5_
          have q69 : ((t544.length : Int) : Int) ≤ ((t534.length : Int) : Int):=od_ qa_
          obtain ⟨i069,hi069,_,hsz69,_⟩:=info_parts info22
          have hroom69 : t534.length ≤ co8:=(Kd.S_reads' HO_4.out).2.1
          have hC69 : Kd.C (Kd.slice 5 (Kd.int .u8)) _ Ao8 t534.length t534:=(Kd.S_reads' HO_4.out).2.2
          have hcut69:=cut_to (P:=Try.prog) 23 22 .i64 Try.underlying23 hi069 Ao8 t534.length co8 (t544.length : Int) (od_ qa_) q69 hroom69
          have hr69:=Kd.C_take (m:=((t544.length : Int) : Int).toNat) hC69 (by omega)
          have hy69 : y562.length = ((t544.length : Int) : Int).toNat:=(by rw [Ny562.out,List.length_take];omega)
          rw [← Ny562.out] at hr69
          rw [← hy69] at hcut69
          have HR565:=mk_ hr69
          have HC565:=mk_ (show y562.length ≤ co8 from by omega)
          clear hr69 hC69 hroom69 hi069 hsz69
          have KY69:=mk_ hy69
          clear hy69
          have KL69:=mk_ (show ((t544.length : Int) : Int).toNat ≤ t534.length from by omega)
          replace q69:=eq_true q69
          refine start_ (n:=36) (S:=fun w' => w'.cell? ⟨gb551,0,none⟩ = some (.slice Ao13 t544.length co13) ∧ w'.cell? ⟨gb551,1,none⟩ = some (.int .i64 t547) ∧ w'.cell? ⟨gb551,2,none⟩ = some (.int .i64 t548) ∧ w'.cell? ⟨gb551,3,none⟩ = some (.bool true)) (ds:=[]) #[false,false,false,false,false,false,false,false,false,false,false,false,false,false,false,false,false,false,false,false,false,false,false,false,false,false,false,false,false,false,false,false,false,false,false,false] (by kernel_rfl) rfl rfl ⟨(bc_ BK551.out 0).trans rfl,(bc_ BK551.out 1).trans rfl,(bc_ BK551.out 2).trans rfl,(bc_ BK551.out 3).trans rfl⟩ (fun hHeld => ?_);refine with_tabW laws_FnLinkSafe.tab8 laws_FnLinkSafe.bits8 (fun HT_ HW_ => ?_)
          generalize wc.drew = w68 at HO_4 z0_ z1_ BK551 BK559 HB HR565 hHeld ⊢
          refine pure_ (i:=0) (N:=some 108) (v:=?_) (a':=?_) #[true,false,false,false,false,false,false,false,false,false,false,false,false,false,false,false,false,false,false,false,false,false,false,false,false,false,false,false,false,false,false,false,false,false,false,false] rfl rfl (any_of HT_.out (by kernel_rfl)) (fun _ _ _ h => h) (Or.inl ⟨by rfl,?_⟩) ?_ ?_
          rotate_left
          ·intro w'
           go_simp
           with_reducible rfl
          rotate_left
          ·simp only [Act.put,sx_,sy_,sz_,i64_w,i32_w]
           rfl
          refine pure_ (i:=3) (N:=some 111) (v:=?_) (a':=?_) #[true,false,false,true,false,false,false,false,false,false,false,false,false,false,false,false,false,false,false,false,false,false,false,false,false,false,false,false,false,false,false,false,false,false,false,false] rfl rfl (any_of HT_.out (by kernel_rfl)) (fun _ _ _ h => h) (Or.inl ⟨by rfl,?_⟩) ?_ ?_
          rotate_left
          ·intro w'
           go_simp
           with_reducible rfl
          rotate_left
          ·simp only [Act.put,sx_,sy_,sz_,i64_w,i32_w]
           rfl
          refine pure_ (i:=4) (N:=some 112) (v:=?_) (a':=?_) #[true,false,false,true,true,false,false,false,false,false,false,false,false,false,false,false,false,false,false,false,false,false,false,false,false,false,false,false,false,false,false,false,false,false,false,false] rfl rfl (any_of HT_.out (by kernel_rfl)) (fun _ _ _ h => h) (Or.inl ⟨by rfl,?_⟩) ?_ ?_
          rotate_left
          ·intro w'
           go_simp
           with_reducible rfl
          rotate_left
          ·simp only [Act.put,sx_,sy_,sz_,i64_w,i32_w]
           rfl
          refine take_ (i:=1) (N:=some 109) (v:=?_) (a':=?_) #[true,true,false,true,true,false,false,false,false,false,false,false,false,false,false,false,false,false,false,false,false,false,false,false,false,false,false,false,false,false,false,false,false,false,false,false] rfl rfl (take_ofW HT_.out HW_.out (by kernel_rfl)) (fun _ _ _ h => h) (Or.inl ⟨by rfl,?_⟩) hHeld ?_ ?_
          rotate_left
          ·rintro w' ⟨s0,s1,s2,s3⟩
           go_simp
           with_reducible rfl
          rotate_left
          ·simp only [Act.put,sx_,sy_,sz_,i64_w,i32_w]
           rfl
          refine pure_ (i:=2) (N:=some 110) (v:=?_) (a':=?_) #[true,true,true,true,true,false,false,false,false,false,false,false,false,false,false,false,false,false,false,false,false,false,false,false,false,false,false,false,false,false,false,false,false,false,false,false] rfl rfl (any_of HT_.out (by kernel_rfl)) (fun _ _ _ h => h) (Or.inl ⟨by rfl,?_⟩) ?_ ?_
          rotate_left
          ·intro w'
           go_simp
           with_reducible rfl
          rotate_left
          ·simp only [Act.put,sx_,sy_,sz_,i64_w,i32_w]
           rfl
          refine pure_ (i:=5) (N:=some 113) (v:=?_) (a':=?_) #[true,true,true,true,true,true,false,false,false,false,false,false,false,false,false,false,false,false,false,false,false,false,false,false,false,false,false,false,false,false,false,false,false,false,false,false] rfl rfl (any_of HT_.out (by kernel_rfl)) (fun _ _ _ h => h) (Or.inl ⟨by rfl,?_⟩) ?_ ?_
          rotate_left
          ·intro w'
           go_simp
           with_reducible rfl
          rotate_left
          ·simp only [Act.put,sx_,sy_,sz_,i64_w,i32_w]
           rfl
          refine pure_ (i:=6) (N:=some 114) (v:=?_) (a':=?_) #[true,true,true,true,true,true,true,false,false,false,false,false,false,false,false,false,false,false,false,false,false,false,false,false,false,false,false,false,false,false,false,false,false,false,false,false] rfl rfl (any_of HT_.out (by kernel_rfl)) (fun _ _ _ h => h) (Or.inl ⟨by rfl,?_⟩) ?_ ?_
          rotate_left
          ·intro w'
           go_simp
           with_reducible rfl
          rotate_left
          ·simp only [Act.put,sx_,sy_,sz_,i64_w,i32_w]
           rfl
          refine pure_ (i:=7) (N:=some 115) (v:=?_) (a':=?_) #[true,true,true,true,true,true,true,true,false,false,false,false,false,false,false,false,false,false,false,false,false,false,false,false,false,false,false,false,false,false,false,false,false,false,false,false] rfl rfl (any_of HT_.out (by kernel_rfl)) (fun _ _ _ h => h) (Or.inl ⟨by rfl,?_⟩) ?_ ?_
          rotate_left
          ·intro w'
           go_simp
           with_reducible rfl
          rotate_left
          ·simp only [Act.put,sx_,sy_,sz_,i64_w,i32_w]
           rfl
          refine pure_ (i:=9) (N:=some 117) (v:=?_) (a':=?_) #[true,true,true,true,true,true,true,true,false,true,false,false,false,false,false,false,false,false,false,false,false,false,false,false,false,false,false,false,false,false,false,false,false,false,false,false] rfl rfl (any_of HT_.out (by kernel_rfl)) (fun _ _ _ h => h) (Or.inl ⟨by rfl,?_⟩) ?_ ?_
          rotate_left
          ·intro w'
           go_simp
           with_reducible rfl
          rotate_left
          ·simp only [Act.put,sx_,sy_,sz_,i64_w,i32_w]
           rfl
          refine pure_ (i:=10) (N:=some 118) (v:=?_) (a':=?_) #[true,true,true,true,true,true,true,true,false,true,true,false,false,false,false,false,false,false,false,false,false,false,false,false,false,false,false,false,false,false,false,false,false,false,false,false] rfl rfl (any_of HT_.out (by kernel_rfl)) (fun _ _ _ h => h) (Or.inl ⟨by rfl,?_⟩) ?_ ?_
          rotate_left
          ·intro w'
           go_simp
           with_reducible rfl
          rotate_left
          ·simp only [Act.put,sx_,sy_,sz_,i64_w,i32_w]
           rfl
          refine take_ (i:=8) (N:=some 116) (v:=?_) (a':=?_) #[true,true,true,true,true,true,true,true,true,true,true,false,false,false,false,false,false,false,false,false,false,false,false,false,false,false,false,false,false,false,false,false,false,false,false,false] rfl rfl (take_ofW HT_.out HW_.out (by kernel_rfl)) (fun _ _ _ h => h) (Or.inl ⟨by rfl,?_⟩) hHeld ?_ ?_
          rotate_left
          ·rintro w' ⟨s0,s1,s2,s3⟩
           go_simp
           with_reducible rfl
          rotate_left
          ·simp only [Act.put,sx_,sy_,sz_,i64_w,i32_w]
           rfl
          refine take_ (i:=11) (N:=some 119) (v:=?_) (a':=?_) #[true,true,true,true,true,true,true,true,true,true,true,true,false,false,false,false,false,false,false,false,false,false,false,false,false,false,false,false,false,false,false,false,false,false,false,false] rfl rfl (take_ofW HT_.out HW_.out (by kernel_rfl)) (fun _ _ _ h => h) (Or.inl ⟨by rfl,?_⟩) hHeld ?_ ?_
          rotate_left
          ·rintro w' ⟨s0,s1,s2,s3⟩
           go_simp
           with_reducible rfl
          rotate_left
          ·simp only [Act.put,sx_,sy_,sz_,i64_w,i32_w]
           rfl
          refine pure_ (i:=12) (N:=some 120) (v:=?_) (a':=?_) #[true,true,true,true,true,true,true,true,true,true,true,true,true,false,false,false,false,false,false,false,false,false,false,false,false,false,false,false,false,false,false,false,false,false,false,false] rfl rfl (any_of HT_.out (by kernel_rfl)) (fun _ _ _ h => h) (Or.inl ⟨by rfl,?_⟩) ?_ ?_
          rotate_left
          ·intro w'
           go_simp
           with_reducible rfl
          rotate_left
          ·simp only [Act.put,sx_,sy_,sz_,i64_w,i32_w]
           rfl
          refine pure_ (i:=13) (N:=some 121) (v:=?_) (a':=?_) #[true,true,true,true,true,true,true,true,true,true,true,true,true,true,false,false,false,false,false,false,false,false,false,false,false,false,false,false,false,false,false,false,false,false,false,false] rfl rfl (any_of HT_.out (by kernel_rfl)) (fun _ _ _ h => h) (Or.inl ⟨by rfl,?_⟩) ?_ ?_
          rotate_left
          ·intro w'
           go_simp
           with_reducible rfl
          rotate_left
          ·simp only [Act.put,sx_,sy_,sz_,i64_w,i32_w]
           rfl
          refine one_ (i:=14) (N:=some 122) #[true,true,true,true,true,true,true,true,true,true,true,true,true,true,true,false,false,false,false,false,false,false,false,false,false,false,false,false,false,false,false,false,false,false,false,false] rfl rfl (one_of HT_.out (by kernel_rfl)) (by decide) (fun K hK => ?_)
          refine goes_ Try.func20 (by kernel_rfl) rfl #[.slice Ao13 t544.length co13,.slice Ao8 y562.length co8] (by rfl) rfl rfl qm_ ?_
          with_reducible refine (laws_wnTexts.calls kj5 _ _ t544 _ _ y562 true _ ?side1 ?side2 ?side3 ?side4 A62.out).mono ?_
          (case side1 => repeat (first|exact (Kd.S_reads' z0_.out).2.2|(with_reducible refine ca_ ?_ _)|(with_reducible refine cn_ ?_ _)|(with_reducible refine cd_ ?_)))
          (case side2 => exact (Kd.S_reads' z0_.out).2.1)
          (case side3 => repeat (first|exact (by repeat (first|(with_reducible exact HR565.out)|(with_reducible refine ca_ ?_ _)|(with_reducible refine cn_ ?_ _)|(with_reducible refine cd_ ?_)|exact HR565.out))|(with_reducible refine ca_ ?_ _)|(with_reducible refine cn_ ?_ _)|(with_reducible refine cd_ ?_)))
          (case side4 => exact HC565.out)
          rintro e w' ⟨rfl,⟨nd,rfl⟩⟩
          refine ⟨_,rfl,?_⟩
          refine hK.out _ _ ⟨(bc_ BK551.out 0).trans rfl,(bc_ BK551.out 1).trans rfl,(bc_ BK551.out 2).trans rfl,(bc_ BK551.out 3).trans rfl⟩ (fun hHeld => ?_)
          clear hK K
          refine norm_ (a':=?_) ?_ ?_
          rotate_left
          ·show Act.put _ (some 122) _ = _
           simp only [Act.put,sx_,sy_,sz_,i64_w,i32_w]
           rfl
          refine pure_ (i:=15) (N:=some 123) (v:=?_) (a':=?_) #[true,true,true,true,true,true,true,true,true,true,true,true,true,true,true,true,false,false,false,false,false,false,false,false,false,false,false,false,false,false,false,false,false,false,false,false] rfl rfl (any_of HT_.out (by kernel_rfl)) (fun _ _ _ h => h) (Or.inl ⟨by rfl,?_⟩) ?_ ?_
          rotate_left
          ·intro w'
           go_simp
           with_reducible rfl
          rotate_left
          ·simp only [Act.put,sx_,sy_,sz_,i64_w,i32_w]
           rfl
          refine pure_ (i:=16) (N:=some 124) (v:=?_) (a':=?_) #[true,true,true,true,true,true,true,true,true,true,true,true,true,true,true,true,true,false,false,false,false,false,false,false,false,false,false,false,false,false,false,false,false,false,false,false] rfl rfl (any_of HT_.out (by kernel_rfl)) (fun _ _ _ h => h) (Or.inl ⟨by rfl,?_⟩) ?_ ?_
          rotate_left
          ·intro w'
           go_simp
           with_reducible rfl
          rotate_left
          ·simp only [Act.put,sx_,sy_,sz_,i64_w,i32_w]
           rfl
          refine pure_ (i:=17) (N:=some 125) (v:=?_) (a':=?_) #[true,true,true,true,true,true,true,true,true,true,true,true,true,true,true,true,true,true,false,false,false,false,false,false,false,false,false,false,false,false,false,false,false,false,false,false] rfl rfl (any_of HT_.out (by kernel_rfl)) (fun _ _ _ h => h) (Or.inl ⟨by rfl,?_⟩) ?_ ?_
          rotate_left
          ·intro w'
           go_simp
           with_reducible rfl
          rotate_left
          ·simp only [Act.put,sx_,sy_,sz_,i64_w,i32_w]
           rfl
          refine take_ (i:=18) (N:=some 126) (v:=?_) (a':=?_) #[true,true,true,true,true,true,true,true,true,true,true,true,true,true,true,true,true,true,true,false,false,false,false,false,false,false,false,false,false,false,false,false,false,false,false,false] rfl rfl (take_ofW HT_.out HW_.out (by kernel_rfl)) (fun _ _ _ h => h) (Or.inl ⟨by rfl,?_⟩) hHeld ?_ ?_
          rotate_left
          ·rintro w' ⟨s0,s1,s2,s3⟩
           go_simp
           with_reducible rfl
          rotate_left
          ·simp only [Act.put,sx_,sy_,sz_,i64_w,i32_w]
           rfl
          refine pure_ (i:=19) (N:=some 127) (v:=?_) (a':=?_) #[true,true,true,true,true,true,true,true,true,true,true,true,true,true,true,true,true,true,true,true,false,false,false,false,false,false,false,false,false,false,false,false,false,false,false,false] rfl rfl (any_of HT_.out (by kernel_rfl)) (fun _ _ _ h => h) (Or.inl ⟨by rfl,?_⟩) ?_ ?_
          rotate_left
          ·intro w'
           go_simp
           with_reducible rfl
          rotate_left
          ·simp only [Act.put,sx_,sy_,sz_,i64_w,i32_w]
           rfl
          refine pure_ (i:=20) (N:=some 128) (v:=?_) (a':=?_) #[true,true,true,true,true,true,true,true,true,true,true,true,true,true,true,true,true,true,true,true,true,false,false,false,false,false,false,false,false,false,false,false,false,false,false,false] rfl rfl (any_of HT_.out (by kernel_rfl)) (fun _ _ _ h => h) (Or.inl ⟨by rfl,?_⟩) ?_ ?_
          rotate_left
          ·intro w'
           go_simp
           with_reducible rfl
          rotate_left
          ·simp only [Act.put,sx_,sy_,sz_,i64_w,i32_w]
           rfl
          refine pure_ (i:=21) (N:=some 129) (v:=?_) (a':=?_) #[true,true,true,true,true,true,true,true,true,true,true,true,true,true,true,true,true,true,true,true,true,true,false,false,false,false,false,false,false,false,false,false,false,false,false,false] rfl rfl (any_of HT_.out (by kernel_rfl)) (fun _ _ _ h => h) (Or.inl ⟨by rfl,?_⟩) ?_ ?_
          rotate_left
          ·intro w'
           go_simp
           with_reducible rfl
          rotate_left
          ·simp only [Act.put,sx_,sy_,sz_,i64_w,i32_w]
           rfl
          refine pure_ (i:=24) (N:=some 132) (v:=?_) (a':=?_) #[true,true,true,true,true,true,true,true,true,true,true,true,true,true,true,true,true,true,true,true,true,true,false,false,true,false,false,false,false,false,false,false,false,false,false,false] rfl rfl (any_of HT_.out (by kernel_rfl)) (fun _ _ _ h => h) (Or.inl ⟨by rfl,?_⟩) ?_ ?_
          rotate_left
          ·intro w'
           go_simp
           with_reducible rfl
          rotate_left
          ·simp only [Act.put,sx_,sy_,sz_,i64_w,i32_w]
           rfl
          refine pure_ (i:=25) (N:=some 133) (v:=?_) (a':=?_) #[true,true,true,true,true,true,true,true,true,true,true,true,true,true,true,true,true,true,true,true,true,true,false,false,true,true,false,false,false,false,false,false,false,false,false,false] rfl rfl (any_of HT_.out (by kernel_rfl)) (fun _ _ _ h => h) (Or.inl ⟨by rfl,?_⟩) ?_ ?_
          rotate_left
          ·intro w'
           go_simp
           with_reducible rfl
          rotate_left
          ·simp only [Act.put,sx_,sy_,sz_,i64_w,i32_w]
           rfl
          refine take_ (i:=22) (N:=some 130) (v:=?_) (a':=?_) #[true,true,true,true,true,true,true,true,true,true,true,true,true,true,true,true,true,true,true,true,true,true,true,false,true,true,false,false,false,false,false,false,false,false,false,false] rfl rfl (take_ofW HT_.out HW_.out (by kernel_rfl)) (fun _ _ _ h => h) (Or.inl ⟨by rfl,?_⟩) hHeld ?_ ?_
          rotate_left
          ·rintro w' ⟨s0,s1,s2,s3⟩
           go_simp
           with_reducible rfl
          rotate_left
          ·simp only [Act.put,sx_,sy_,sz_,i64_w,i32_w]
           rfl
          refine pure_ (i:=23) (N:=some 131) (v:=?_) (a':=?_) #[true,true,true,true,true,true,true,true,true,true,true,true,true,true,true,true,true,true,true,true,true,true,true,true,true,true,false,false,false,false,false,false,false,false,false,false] rfl rfl (any_of HT_.out (by kernel_rfl)) (fun _ _ _ h => h) (Or.inl ⟨by rfl,?_⟩) ?_ ?_
          rotate_left
          ·intro w'
           go_simp
           with_reducible rfl
          rotate_left
          ·simp only [Act.put,sx_,sy_,sz_,i64_w,i32_w]
           rfl
          refine pure_ (i:=26) (N:=some 134) (v:=?_) (a':=?_) #[true,true,true,true,true,true,true,true,true,true,true,true,true,true,true,true,true,true,true,true,true,true,true,true,true,true,true,false,false,false,false,false,false,false,false,false] rfl rfl (any_of HT_.out (by kernel_rfl)) (fun _ _ _ h => h) (Or.inl ⟨by rfl,?_⟩) ?_ ?_
          rotate_left
          ·intro w'
           go_simp
           with_reducible rfl
          rotate_left
          ·simp only [Act.put,sx_,sy_,sz_,i64_w,i32_w]
           rfl
          refine pure_ (i:=27) (N:=some 135) (v:=?_) (a':=?_) #[true,true,true,true,true,true,true,true,true,true,true,true,true,true,true,true,true,true,true,true,true,true,true,true,true,true,true,true,false,false,false,false,false,false,false,false] rfl rfl (any_of HT_.out (by kernel_rfl)) (fun _ _ _ h => h) (Or.inl ⟨by rfl,?_⟩) ?_ ?_
          rotate_left
          ·intro w'
           go_simp
           with_reducible rfl
          rotate_left
          ·simp only [Act.put,sx_,sy_,sz_,i64_w,i32_w]
           rfl
          refine pure_ (i:=28) (N:=some 136) (v:=?_) (a':=?_) #[true,true,true,true,true,true,true,true,true,true,true,true,true,true,true,true,true,true,true,true,true,true,true,true,true,true,true,true,true,false,false,false,false,false,false,false] rfl rfl (any_of HT_.out (by kernel_rfl)) (fun _ _ _ h => h) (Or.inl ⟨by rfl,?_⟩) ?_ ?_
          rotate_left
          ·intro w'
           go_simp
           with_reducible rfl
          rotate_left
          ·simp only [Act.put,sx_,sy_,sz_,i64_w,i32_w]
           rfl
          refine pure_ (i:=29) (N:=some 137) (v:=?_) (a':=?_) #[true,true,true,true,true,true,true,true,true,true,true,true,true,true,true,true,true,true,true,true,true,true,true,true,true,true,true,true,true,true,false,false,false,false,false,false] rfl rfl (any_of HT_.out (by kernel_rfl)) (fun _ _ _ h => h) (Or.inl ⟨by rfl,?_⟩) ?_ ?_
          rotate_left
          ·intro w'
           go_simp
           with_reducible rfl
          rotate_left
          ·simp only [Act.put,sx_,sy_,sz_,i64_w,i32_w]
           rfl
          refine pure_ (i:=30) (N:=some 138) (v:=undef) (a':=?_) #[true,true,true,true,true,true,true,true,true,true,true,true,true,true,true,true,true,true,true,true,true,true,true,true,true,true,true,true,true,true,true,false,false,false,false,false] rfl rfl (any_of HT_.out (by kernel_rfl)) (fun _ _ _ h => h) (Or.inr ⟨by rfl,rfl⟩) ?_ ?_
          rotate_left
          ·simp only [Act.put,sx_,sy_,sz_,i64_w,i32_w]
           rfl
          refine pure_ (i:=31) (N:=some 139) (v:=undef) (a':=?_) #[true,true,true,true,true,true,true,true,true,true,true,true,true,true,true,true,true,true,true,true,true,true,true,true,true,true,true,true,true,true,true,true,false,false,false,false] rfl rfl (any_of HT_.out (by kernel_rfl)) (fun _ _ _ h => h) (Or.inr ⟨by rfl,rfl⟩) ?_ ?_
          rotate_left
          ·simp only [Act.put,sx_,sy_,sz_,i64_w,i32_w]
           rfl
          refine pure_ (i:=32) (N:=some 140) (v:=undef) (a':=?_) #[true,true,true,true,true,true,true,true,true,true,true,true,true,true,true,true,true,true,true,true,true,true,true,true,true,true,true,true,true,true,true,true,true,false,false,false] rfl rfl (any_of HT_.out (by kernel_rfl)) (fun _ _ _ h => h) (Or.inr ⟨by rfl,rfl⟩) ?_ ?_
          rotate_left
          ·simp only [Act.put,sx_,sy_,sz_,i64_w,i32_w]
           rfl
          refine pure_ (i:=33) (N:=some 141) (v:=undef) (a':=?_) #[true,true,true,true,true,true,true,true,true,true,true,true,true,true,true,true,true,true,true,true,true,true,true,true,true,true,true,true,true,true,true,true,true,true,false,false] rfl rfl (any_of HT_.out (by kernel_rfl)) (fun _ _ _ h => h) (Or.inr ⟨by rfl,rfl⟩) ?_ ?_
          rotate_left
          ·simp only [Act.put,sx_,sy_,sz_,i64_w,i32_w]
           rfl
          refine pure_ (i:=34) (N:=some 142) (v:=?_) (a':=?_) #[true,true,true,true,true,true,true,true,true,true,true,true,true,true,true,true,true,true,true,true,true,true,true,true,true,true,true,true,true,true,true,true,true,true,true,false] rfl rfl (any_of HT_.out (by kernel_rfl)) (fun _ _ _ h => h) (Or.inl ⟨by rfl,?_⟩) ?_ ?_
          rotate_left
          ·intro w'
           go_simp
           with_reducible rfl
          rotate_left
          ·simp only [Act.put,sx_,sy_,sz_,i64_w,i32_w]
           rfl
          refine pure_ (i:=35) (N:=some 2) (v:=?_) (a':=?_) #[true,true,true,true,true,true,true,true,true,true,true,true,true,true,true,true,true,true,true,true,true,true,true,true,true,true,true,true,true,true,true,true,true,true,true,true] rfl rfl (any_of HT_.out (by kernel_rfl)) (fun _ _ _ h => h) (Or.inl ⟨by rfl,?_⟩) ?_ ?_
          rotate_left
          ·intro w'
           go_simp
           with_reducible rfl
          rotate_left
          ·simp only [Act.put,sx_,sy_,sz_,i64_w,i32_w]
           rfl
          refine done_ (done_of HT_.out (by kernel_rfl)) ?_
          try go_wp2
          go_ret
          exact ⟨qe_,u5_ HB GE551 GE559⟩
        ·replace c64:=Bool.eq_false_iff.mpr c64
         subst c64
         have H1 : (some (decide (t547 ≤ t537))) = some r:=by rw [if_neg (show ¬ (false = true) by decide)] at H;exact H
         clear H
         have H:=H1
         clear H1
         obtain rfl:=Option.some.inj H
         try go_wp2
         have n0_:=mk_ (Kd.S_drew HO_4.out)
         have n1_:=mk_ (Kd.S_drew z0_.out)
         have n2_:=mk_ (Kd.S_drew z1_.out)
         have n3_:=mk_ (kd_ BK551.out)
         have n4_:=mk_ (kd_ BK559.out)
         have n5_:=mk_ (bd_ HB.out)
         clear HO_4
         clear z0_
         clear z1_
         clear BK551
         clear BK559
         clear HB
         have HO_4:=n0_
         have z0_:=n1_
         have z1_:=n2_
         have BK551:=n3_
         have BK559:=n4_
         have HB:=n5_
         clear n0_ n1_ n2_ n3_ n4_ n5_
         have q71 : ((t544.length : Int) : Int) ≤ ((t534.length : Int) : Int):=od_ qa_
         obtain ⟨i071,hi071,_,hsz71,_⟩:=info_parts info22
         have hroom71 : t534.length ≤ co8:=(Kd.S_reads' HO_4.out).2.1
         have hC71 : Kd.C (Kd.slice 5 (Kd.int .u8)) _ Ao8 t534.length t534:=(Kd.S_reads' HO_4.out).2.2
         have hcut71:=cut_to (P:=Try.prog) 23 22 .i64 Try.underlying23 hi071 Ao8 t534.length co8 (t544.length : Int) (od_ qa_) q71 hroom71
         have hr71:=Kd.C_take (m:=((t544.length : Int) : Int).toNat) hC71 (by omega)
         have hy71 : y562.length = ((t544.length : Int) : Int).toNat:=(by rw [Ny562.out,List.length_take];omega)
         rw [← Ny562.out] at hr71
         rw [← hy71] at hcut71
         have HR565:=mk_ hr71
         have HC565:=mk_ (show y562.length ≤ co8 from by omega)
         clear hr71 hC71 hroom71 hi071 hsz71
         have KY71:=mk_ hy71
         clear hy71
         have KL71:=mk_ (show ((t544.length : Int) : Int).toNat ≤ t534.length from by omega)
         replace q71:=eq_true q71
         refine start_ (n:=36) (S:=fun w' => w'.cell? ⟨gb551,0,none⟩ = some (.slice Ao13 t544.length co13) ∧ w'.cell? ⟨gb551,1,none⟩ = some (.int .i64 t547) ∧ w'.cell? ⟨gb551,2,none⟩ = some (.int .i64 t548) ∧ w'.cell? ⟨gb551,3,none⟩ = some (.bool false)) (ds:=[]) #[false,false,false,false,false,false,false,false,false,false,false,false,false,false,false,false,false,false,false,false,false,false,false,false,false,false,false,false,false,false,false,false,false,false,false,false] (by kernel_rfl) rfl rfl ⟨(bc_ BK551.out 0).trans rfl,(bc_ BK551.out 1).trans rfl,(bc_ BK551.out 2).trans rfl,(bc_ BK551.out 3).trans rfl⟩ (fun hHeld => ?_);refine with_tabW laws_FnLinkSafe.tab8 laws_FnLinkSafe.bits8 (fun HT_ HW_ => ?_)
         generalize wc.drew = w70 at HO_4 z0_ z1_ BK551 BK559 HB HR565 hHeld ⊢
         refine pure_ (i:=0) (N:=some 108) (v:=?_) (a':=?_) #[true,false,false,false,false,false,false,false,false,false,false,false,false,false,false,false,false,false,false,false,false,false,false,false,false,false,false,false,false,false,false,false,false,false,false,false] rfl rfl (any_of HT_.out (by kernel_rfl)) (fun _ _ _ h => h) (Or.inl ⟨by rfl,?_⟩) ?_ ?_
         rotate_left
         ·intro w'
          go_simp
          with_reducible rfl
         rotate_left
         ·simp only [Act.put,sx_,sy_,sz_,i64_w,i32_w]
          rfl
         refine pure_ (i:=3) (N:=some 111) (v:=?_) (a':=?_) #[true,false,false,true,false,false,false,false,false,false,false,false,false,false,false,false,false,false,false,false,false,false,false,false,false,false,false,false,false,false,false,false,false,false,false,false] rfl rfl (any_of HT_.out (by kernel_rfl)) (fun _ _ _ h => h) (Or.inl ⟨by rfl,?_⟩) ?_ ?_
         rotate_left
         ·intro w'
          go_simp
          with_reducible rfl
         rotate_left
         ·simp only [Act.put,sx_,sy_,sz_,i64_w,i32_w]
          rfl
         refine pure_ (i:=4) (N:=some 112) (v:=?_) (a':=?_) #[true,false,false,true,true,false,false,false,false,false,false,false,false,false,false,false,false,false,false,false,false,false,false,false,false,false,false,false,false,false,false,false,false,false,false,false] rfl rfl (any_of HT_.out (by kernel_rfl)) (fun _ _ _ h => h) (Or.inl ⟨by rfl,?_⟩) ?_ ?_
         rotate_left
         ·intro w'
          go_simp
          with_reducible rfl
         rotate_left
         ·simp only [Act.put,sx_,sy_,sz_,i64_w,i32_w]
          rfl
         refine take_ (i:=1) (N:=some 109) (v:=?_) (a':=?_) #[true,true,false,true,true,false,false,false,false,false,false,false,false,false,false,false,false,false,false,false,false,false,false,false,false,false,false,false,false,false,false,false,false,false,false,false] rfl rfl (take_ofW HT_.out HW_.out (by kernel_rfl)) (fun _ _ _ h => h) (Or.inl ⟨by rfl,?_⟩) hHeld ?_ ?_
         rotate_left
         ·rintro w' ⟨s0,s1,s2,s3⟩
          go_simp
          with_reducible rfl
         rotate_left
         ·simp only [Act.put,sx_,sy_,sz_,i64_w,i32_w]
          rfl
         refine pure_ (i:=2) (N:=some 110) (v:=?_) (a':=?_) #[true,true,true,true,true,false,false,false,false,false,false,false,false,false,false,false,false,false,false,false,false,false,false,false,false,false,false,false,false,false,false,false,false,false,false,false] rfl rfl (any_of HT_.out (by kernel_rfl)) (fun _ _ _ h => h) (Or.inl ⟨by rfl,?_⟩) ?_ ?_
         rotate_left
         ·intro w'
          go_simp
          with_reducible rfl
         rotate_left
         ·simp only [Act.put,sx_,sy_,sz_,i64_w,i32_w]
          rfl
         refine pure_ (i:=5) (N:=some 113) (v:=?_) (a':=?_) #[true,true,true,true,true,true,false,false,false,false,false,false,false,false,false,false,false,false,false,false,false,false,false,false,false,false,false,false,false,false,false,false,false,false,false,false] rfl rfl (any_of HT_.out (by kernel_rfl)) (fun _ _ _ h => h) (Or.inl ⟨by rfl,?_⟩) ?_ ?_
         rotate_left
         ·intro w'
          go_simp
          with_reducible rfl
         rotate_left
         ·simp only [Act.put,sx_,sy_,sz_,i64_w,i32_w]
          rfl
         refine pure_ (i:=6) (N:=some 114) (v:=?_) (a':=?_) #[true,true,true,true,true,true,true,false,false,false,false,false,false,false,false,false,false,false,false,false,false,false,false,false,false,false,false,false,false,false,false,false,false,false,false,false] rfl rfl (any_of HT_.out (by kernel_rfl)) (fun _ _ _ h => h) (Or.inl ⟨by rfl,?_⟩) ?_ ?_
         rotate_left
         ·intro w'
          go_simp
          with_reducible rfl
         rotate_left
         ·simp only [Act.put,sx_,sy_,sz_,i64_w,i32_w]
          rfl
         refine pure_ (i:=7) (N:=some 115) (v:=?_) (a':=?_) #[true,true,true,true,true,true,true,true,false,false,false,false,false,false,false,false,false,false,false,false,false,false,false,false,false,false,false,false,false,false,false,false,false,false,false,false] rfl rfl (any_of HT_.out (by kernel_rfl)) (fun _ _ _ h => h) (Or.inl ⟨by rfl,?_⟩) ?_ ?_
         rotate_left
         ·intro w'
          go_simp
          with_reducible rfl
         rotate_left
         ·simp only [Act.put,sx_,sy_,sz_,i64_w,i32_w]
          rfl
         refine pure_ (i:=9) (N:=some 117) (v:=?_) (a':=?_) #[true,true,true,true,true,true,true,true,false,true,false,false,false,false,false,false,false,false,false,false,false,false,false,false,false,false,false,false,false,false,false,false,false,false,false,false] rfl rfl (any_of HT_.out (by kernel_rfl)) (fun _ _ _ h => h) (Or.inl ⟨by rfl,?_⟩) ?_ ?_
         rotate_left
         ·intro w'
          go_simp
          with_reducible rfl
         rotate_left
         ·simp only [Act.put,sx_,sy_,sz_,i64_w,i32_w]
          rfl
         refine pure_ (i:=10) (N:=some 118) (v:=?_) (a':=?_) #[true,true,true,true,true,true,true,true,false,true,true,false,false,false,false,false,false,false,false,false,false,false,false,false,false,false,false,false,false,false,false,false,false,false,false,false] rfl rfl (any_of HT_.out (by kernel_rfl)) (fun _ _ _ h => h) (Or.inl ⟨by rfl,?_⟩) ?_ ?_
         rotate_left
         ·intro w'
          go_simp
          with_reducible rfl
         rotate_left
         ·simp only [Act.put,sx_,sy_,sz_,i64_w,i32_w]
          rfl
         refine take_ (i:=8) (N:=some 116) (v:=?_) (a':=?_) #[true,true,true,true,true,true,true,true,true,true,true,false,false,false,false,false,false,false,false,false,false,false,false,false,false,false,false,false,false,false,false,false,false,false,false,false] rfl rfl (take_ofW HT_.out HW_.out (by kernel_rfl)) (fun _ _ _ h => h) (Or.inl ⟨by rfl,?_⟩) hHeld ?_ ?_
         rotate_left
         ·rintro w' ⟨s0,s1,s2,s3⟩
          go_simp
          with_reducible rfl
         rotate_left
         ·simp only [Act.put,sx_,sy_,sz_,i64_w,i32_w]
          rfl
         refine take_ (i:=11) (N:=some 119) (v:=?_) (a':=?_) #[true,true,true,true,true,true,true,true,true,true,true,true,false,false,false,false,false,false,false,false,false,false,false,false,false,false,false,false,false,false,false,false,false,false,false,false] rfl rfl (take_ofW HT_.out HW_.out (by kernel_rfl)) (fun _ _ _ h => h) (Or.inl ⟨by rfl,?_⟩) hHeld ?_ ?_
         rotate_left
         ·rintro w' ⟨s0,s1,s2,s3⟩
          go_simp
          with_reducible rfl
         rotate_left
         ·simp only [Act.put,sx_,sy_,sz_,i64_w,i32_w]
          rfl
         refine pure_ (i:=12) (N:=some 120) (v:=?_) (a':=?_) #[true,true,true,true,true,true,true,true,true,true,true,true,true,false,false,false,false,false,false,false,false,false,false,false,false,false,false,false,false,false,false,false,false,false,false,false] rfl rfl (any_of HT_.out (by kernel_rfl)) (fun _ _ _ h => h) (Or.inl ⟨by rfl,?_⟩) ?_ ?_
         rotate_left
         ·intro w'
          go_simp
          with_reducible rfl
         rotate_left
         ·simp only [Act.put,sx_,sy_,sz_,i64_w,i32_w]
          rfl
         refine pure_ (i:=13) (N:=some 121) (v:=?_) (a':=?_) #[true,true,true,true,true,true,true,true,true,true,true,true,true,true,false,false,false,false,false,false,false,false,false,false,false,false,false,false,false,false,false,false,false,false,false,false] rfl rfl (any_of HT_.out (by kernel_rfl)) (fun _ _ _ h => h) (Or.inl ⟨by rfl,?_⟩) ?_ ?_
         rotate_left
         ·intro w'
          go_simp
          with_reducible rfl
         rotate_left
         ·simp only [Act.put,sx_,sy_,sz_,i64_w,i32_w]
          rfl
         refine one_ (i:=14) (N:=some 122) #[true,true,true,true,true,true,true,true,true,true,true,true,true,true,true,false,false,false,false,false,false,false,false,false,false,false,false,false,false,false,false,false,false,false,false,false] rfl rfl (one_of HT_.out (by kernel_rfl)) (by decide) (fun K hK => ?_)
         refine goes_ Try.func20 (by kernel_rfl) rfl #[.slice Ao13 t544.length co13,.slice Ao8 y562.length co8] (by rfl) rfl rfl qm_ ?_
         with_reducible refine (laws_wnTexts.calls kj5 _ _ t544 _ _ y562 true _ ?side1 ?side2 ?side3 ?side4 A62.out).mono ?_
         (case side1 => repeat (first|exact (Kd.S_reads' z0_.out).2.2|(with_reducible refine ca_ ?_ _)|(with_reducible refine cn_ ?_ _)|(with_reducible refine cd_ ?_)))
         (case side2 => exact (Kd.S_reads' z0_.out).2.1)
         (case side3 => repeat (first|exact (by repeat (first|(with_reducible exact HR565.out)|(with_reducible refine ca_ ?_ _)|(with_reducible refine cn_ ?_ _)|(with_reducible refine cd_ ?_)|exact HR565.out))|(with_reducible refine ca_ ?_ _)|(with_reducible refine cn_ ?_ _)|(with_reducible refine cd_ ?_)))
         (case side4 => exact HC565.out)
         rintro e w' ⟨rfl,⟨nd,rfl⟩⟩
         refine ⟨_,rfl,?_⟩
         refine hK.out _ _ ⟨(bc_ BK551.out 0).trans rfl,(bc_ BK551.out 1).trans rfl,(bc_ BK551.out 2).trans rfl,(bc_ BK551.out 3).trans rfl⟩ (fun hHeld => ?_)
         clear hK K
         refine norm_ (a':=?_) ?_ ?_
         rotate_left
         ·show Act.put _ (some 122) _ = _
          simp only [Act.put,sx_,sy_,sz_,i64_w,i32_w]
          rfl
         refine pure_ (i:=15) (N:=some 123) (v:=?_) (a':=?_) #[true,true,true,true,true,true,true,true,true,true,true,true,true,true,true,true,false,false,false,false,false,false,false,false,false,false,false,false,false,false,false,false,false,false,false,false] rfl rfl (any_of HT_.out (by kernel_rfl)) (fun _ _ _ h => h) (Or.inl ⟨by rfl,?_⟩) ?_ ?_
         rotate_left
         ·intro w'
          go_simp
          with_reducible rfl
         rotate_left
         ·simp only [Act.put,sx_,sy_,sz_,i64_w,i32_w]
          rfl
         refine pure_ (i:=16) (N:=some 124) (v:=?_) (a':=?_) #[true,true,true,true,true,true,true,true,true,true,true,true,true,true,true,true,true,false,false,false,false,false,false,false,false,false,false,false,false,false,false,false,false,false,false,false] rfl rfl (any_of HT_.out (by kernel_rfl)) (fun _ _ _ h => h) (Or.inl ⟨by rfl,?_⟩) ?_ ?_
         rotate_left
         ·intro w'
          go_simp
          with_reducible rfl
         rotate_left
         ·simp only [Act.put,sx_,sy_,sz_,i64_w,i32_w]
          rfl
         refine pure_ (i:=17) (N:=some 125) (v:=?_) (a':=?_) #[true,true,true,true,true,true,true,true,true,true,true,true,true,true,true,true,true,true,false,false,false,false,false,false,false,false,false,false,false,false,false,false,false,false,false,false] rfl rfl (any_of HT_.out (by kernel_rfl)) (fun _ _ _ h => h) (Or.inl ⟨by rfl,?_⟩) ?_ ?_
         rotate_left
         ·intro w'
          go_simp
          with_reducible rfl
         rotate_left
         ·simp only [Act.put,sx_,sy_,sz_,i64_w,i32_w]
          rfl
         refine take_ (i:=18) (N:=some 126) (v:=?_) (a':=?_) #[true,true,true,true,true,true,true,true,true,true,true,true,true,true,true,true,true,true,true,false,false,false,false,false,false,false,false,false,false,false,false,false,false,false,false,false] rfl rfl (take_ofW HT_.out HW_.out (by kernel_rfl)) (fun _ _ _ h => h) (Or.inl ⟨by rfl,?_⟩) hHeld ?_ ?_
         rotate_left
         ·rintro w' ⟨s0,s1,s2,s3⟩
          go_simp
          with_reducible rfl
         rotate_left
         ·simp only [Act.put,sx_,sy_,sz_,i64_w,i32_w]
          rfl
         refine pure_ (i:=19) (N:=some 127) (v:=?_) (a':=?_) #[true,true,true,true,true,true,true,true,true,true,true,true,true,true,true,true,true,true,true,true,false,false,false,false,false,false,false,false,false,false,false,false,false,false,false,false] rfl rfl (any_of HT_.out (by kernel_rfl)) (fun _ _ _ h => h) (Or.inl ⟨by rfl,?_⟩) ?_ ?_
         rotate_left
         ·intro w'
          go_simp
          with_reducible rfl
         rotate_left
         ·simp only [Act.put,sx_,sy_,sz_,i64_w,i32_w]
          rfl
         refine pure_ (i:=20) (N:=some 128) (v:=?_) (a':=?_) #[true,true,true,true,true,true,true,true,true,true,true,true,true,true,true,true,true,true,true,true,true,false,false,false,false,false,false,false,false,false,false,false,false,false,false,false] rfl rfl (any_of HT_.out (by kernel_rfl)) (fun _ _ _ h => h) (Or.inl ⟨by rfl,?_⟩) ?_ ?_
         rotate_left
         ·intro w'
          go_simp
          with_reducible rfl
         rotate_left
         ·simp only [Act.put,sx_,sy_,sz_,i64_w,i32_w]
          rfl
         refine pure_ (i:=21) (N:=some 129) (v:=undef) (a':=?_) #[true,true,true,true,true,true,true,true,true,true,true,true,true,true,true,true,true,true,true,true,true,true,false,false,false,false,false,false,false,false,false,false,false,false,false,false] rfl rfl (any_of HT_.out (by kernel_rfl)) (fun _ _ _ h => h) (Or.inr ⟨by rfl,rfl⟩) ?_ ?_
         rotate_left
         ·simp only [Act.put,sx_,sy_,sz_,i64_w,i32_w]
          rfl
         refine pure_ (i:=22) (N:=some 130) (v:=undef) (a':=?_) #[true,true,true,true,true,true,true,true,true,true,true,true,true,true,true,true,true,true,true,true,true,true,true,false,false,false,false,false,false,false,false,false,false,false,false,false] rfl rfl (any_of HT_.out (by kernel_rfl)) (fun _ _ _ h => h) (Or.inr ⟨by rfl,rfl⟩) ?_ ?_
         rotate_left
         ·simp only [Act.put,sx_,sy_,sz_,i64_w,i32_w]
          rfl
         refine pure_ (i:=23) (N:=some 131) (v:=undef) (a':=?_) #[true,true,true,true,true,true,true,true,true,true,true,true,true,true,true,true,true,true,true,true,true,true,true,true,false,false,false,false,false,false,false,false,false,false,false,false] rfl rfl (any_of HT_.out (by kernel_rfl)) (fun _ _ _ h => h) (Or.inr ⟨by rfl,rfl⟩) ?_ ?_
         rotate_left
         ·simp only [Act.put,sx_,sy_,sz_,i64_w,i32_w]
          rfl
         refine pure_ (i:=24) (N:=some 132) (v:=undef) (a':=?_) #[true,true,true,true,true,true,true,true,true,true,true,true,true,true,true,true,true,true,true,true,true,true,true,true,true,false,false,false,false,false,false,false,false,false,false,false] rfl rfl (any_of HT_.out (by kernel_rfl)) (fun _ _ _ h => h) (Or.inr ⟨by rfl,rfl⟩) ?_ ?_
         rotate_left
         ·simp only [Act.put,sx_,sy_,sz_,i64_w,i32_w]
          rfl
         refine pure_ (i:=25) (N:=some 133) (v:=undef) (a':=?_) #[true,true,true,true,true,true,true,true,true,true,true,true,true,true,true,true,true,true,true,true,true,true,true,true,true,true,false,false,false,false,false,false,false,false,false,false] rfl rfl (any_of HT_.out (by kernel_rfl)) (fun _ _ _ h => h) (Or.inr ⟨by rfl,rfl⟩) ?_ ?_
         rotate_left
         ·simp only [Act.put,sx_,sy_,sz_,i64_w,i32_w]
          rfl
         refine pure_ (i:=26) (N:=some 134) (v:=undef) (a':=?_) #[true,true,true,true,true,true,true,true,true,true,true,true,true,true,true,true,true,true,true,true,true,true,true,true,true,true,true,false,false,false,false,false,false,false,false,false] rfl rfl (any_of HT_.out (by kernel_rfl)) (fun _ _ _ h => h) (Or.inr ⟨by rfl,rfl⟩) ?_ ?_
         rotate_left
         ·simp only [Act.put,sx_,sy_,sz_,i64_w,i32_w]
          rfl
         refine pure_ (i:=27) (N:=some 135) (v:=?_) (a':=?_) #[true,true,true,true,true,true,true,true,true,true,true,true,true,true,true,true,true,true,true,true,true,true,true,true,true,true,true,true,false,false,false,false,false,false,false,false] rfl rfl (any_of HT_.out (by kernel_rfl)) (fun _ _ _ h => h) (Or.inl ⟨by rfl,?_⟩) ?_ ?_
         rotate_left
         ·intro w'
          go_simp
          with_reducible rfl
         rotate_left
         ·simp only [Act.put,sx_,sy_,sz_,i64_w,i32_w]
          rfl
         refine pure_ (i:=28) (N:=some 136) (v:=?_) (a':=?_) #[true,true,true,true,true,true,true,true,true,true,true,true,true,true,true,true,true,true,true,true,true,true,true,true,true,true,true,true,true,false,false,false,false,false,false,false] rfl rfl (any_of HT_.out (by kernel_rfl)) (fun _ _ _ h => h) (Or.inl ⟨by rfl,?_⟩) ?_ ?_
         rotate_left
         ·intro w'
          go_simp
          with_reducible rfl
         rotate_left
         ·simp only [Act.put,sx_,sy_,sz_,i64_w,i32_w]
          rfl
         refine pure_ (i:=29) (N:=some 137) (v:=?_) (a':=?_) #[true,true,true,true,true,true,true,true,true,true,true,true,true,true,true,true,true,true,true,true,true,true,true,true,true,true,true,true,true,true,false,false,false,false,false,false] rfl rfl (any_of HT_.out (by kernel_rfl)) (fun _ _ _ h => h) (Or.inl ⟨by rfl,?_⟩) ?_ ?_
         rotate_left
         ·intro w'
          go_simp
          with_reducible rfl
         rotate_left
         ·simp only [Act.put,sx_,sy_,sz_,i64_w,i32_w]
          rfl
         refine pure_ (i:=30) (N:=some 138) (v:=?_) (a':=?_) #[true,true,true,true,true,true,true,true,true,true,true,true,true,true,true,true,true,true,true,true,true,true,true,true,true,true,true,true,true,true,true,false,false,false,false,false] rfl rfl (any_of HT_.out (by kernel_rfl)) (fun _ _ _ h => h) (Or.inl ⟨by rfl,?_⟩) ?_ ?_
         rotate_left
         ·intro w'
          go_simp
          with_reducible rfl
         rotate_left
         ·simp only [Act.put,sx_,sy_,sz_,i64_w,i32_w]
          rfl
         refine pure_ (i:=32) (N:=some 140) (v:=?_) (a':=?_) #[true,true,true,true,true,true,true,true,true,true,true,true,true,true,true,true,true,true,true,true,true,true,true,true,true,true,true,true,true,true,true,false,true,false,false,false] rfl rfl (any_of HT_.out (by kernel_rfl)) (fun _ _ _ h => h) (Or.inl ⟨by rfl,?_⟩) ?_ ?_
         rotate_left
         ·intro w'
          go_simp
          with_reducible rfl
         rotate_left
         ·simp only [Act.put,sx_,sy_,sz_,i64_w,i32_w]
          rfl
         refine take_ (i:=31) (N:=some 139) (v:=?_) (a':=?_) #[true,true,true,true,true,true,true,true,true,true,true,true,true,true,true,true,true,true,true,true,true,true,true,true,true,true,true,true,true,true,true,true,true,false,false,false] rfl rfl (take_ofW HT_.out HW_.out (by kernel_rfl)) (fun _ _ _ h => h) (Or.inl ⟨by rfl,?_⟩) hHeld ?_ ?_
         rotate_left
         ·rintro w' ⟨s0,s1,s2,s3⟩
          go_simp
          with_reducible rfl
         rotate_left
         ·simp only [Act.put,sx_,sy_,sz_,i64_w,i32_w]
          rfl
         refine pure_ (i:=33) (N:=some 141) (v:=?_) (a':=?_) #[true,true,true,true,true,true,true,true,true,true,true,true,true,true,true,true,true,true,true,true,true,true,true,true,true,true,true,true,true,true,true,true,true,true,false,false] rfl rfl (any_of HT_.out (by kernel_rfl)) (fun _ _ _ h => h) (Or.inl ⟨by rfl,?_⟩) ?_ ?_
         rotate_left
         ·intro w'
          go_simp
          with_reducible rfl
         rotate_left
         ·simp only [Act.put,sx_,sy_,sz_,i64_w,i32_w]
          rfl
         refine pure_ (i:=34) (N:=some 142) (v:=?_) (a':=?_) #[true,true,true,true,true,true,true,true,true,true,true,true,true,true,true,true,true,true,true,true,true,true,true,true,true,true,true,true,true,true,true,true,true,true,true,false] rfl rfl (any_of HT_.out (by kernel_rfl)) (fun _ _ _ h => h) (Or.inl ⟨by rfl,?_⟩) ?_ ?_
         rotate_left
         ·intro w'
          go_simp
          with_reducible rfl
         rotate_left
         ·simp only [Act.put,sx_,sy_,sz_,i64_w,i32_w]
          rfl
         refine pure_ (i:=35) (N:=some 2) (v:=?_) (a':=?_) #[true,true,true,true,true,true,true,true,true,true,true,true,true,true,true,true,true,true,true,true,true,true,true,true,true,true,true,true,true,true,true,true,true,true,true,true] rfl rfl (any_of HT_.out (by kernel_rfl)) (fun _ _ _ h => h) (Or.inl ⟨by rfl,?_⟩) ?_ ?_
         rotate_left
         ·intro w'
          go_simp
          with_reducible rfl
         rotate_left
         ·simp only [Act.put,sx_,sy_,sz_,i64_w,i32_w]
          rfl
         refine done_ (done_of HT_.out (by kernel_rfl)) ?_
         try go_wp2
         go_ret
         exact ⟨qe_,u5_ HB GE551 GE559⟩
       ·replace c63:=Bool.eq_false_iff.mpr c63
        subst c63
        have H1 : (some false) = some r:=by rw [if_neg (show ¬ (false = true) by decide)] at H;exact H
        clear H
        have H:=H1
        clear H1
        obtain rfl:=Option.some.inj H
        try go_wp2
        have n0_:=mk_ (Kd.S_drew HO_4.out)
        have n1_:=mk_ (Kd.S_drew z0_.out)
        have n2_:=mk_ (Kd.S_drew z1_.out)
        have n3_:=mk_ (kd_ BK551.out)
        have n4_:=mk_ (kd_ BK559.out)
        have n5_:=mk_ (bd_ HB.out)
        clear HO_4
        clear z0_
        clear z1_
        clear BK551
        clear BK559
        clear HB
        have HO_4:=n0_
        have z0_:=n1_
        have z1_:=n2_
        have BK551:=n3_
        have BK559:=n4_
        have HB:=n5_
        clear n0_ n1_ n2_ n3_ n4_ n5_
        have q73 : ((t544.length : Int) : Int) ≤ ((t534.length : Int) : Int):=od_ qa_
        obtain ⟨i073,hi073,_,hsz73,_⟩:=info_parts info22
        have hroom73 : t534.length ≤ co8:=(Kd.S_reads' HO_4.out).2.1
        have hC73 : Kd.C (Kd.slice 5 (Kd.int .u8)) _ Ao8 t534.length t534:=(Kd.S_reads' HO_4.out).2.2
        have hcut73:=cut_to (P:=Try.prog) 23 22 .i64 Try.underlying23 hi073 Ao8 t534.length co8 (t544.length : Int) (od_ qa_) q73 hroom73
        have hr73:=Kd.C_take (m:=((t544.length : Int) : Int).toNat) hC73 (by omega)
        have hy73 : y562.length = ((t544.length : Int) : Int).toNat:=(by rw [Ny562.out,List.length_take];omega)
        rw [← Ny562.out] at hr73
        rw [← hy73] at hcut73
        have HR565:=mk_ hr73
        have HC565:=mk_ (show y562.length ≤ co8 from by omega)
        clear hr73 hC73 hroom73 hi073 hsz73
        have KY73:=mk_ hy73
        clear hy73
        have KL73:=mk_ (show ((t544.length : Int) : Int).toNat ≤ t534.length from by omega)
        replace q73:=eq_true q73
        refine start_ (n:=36) (S:=fun w' => w'.cell? ⟨gb551,0,none⟩ = some (.slice Ao13 t544.length co13) ∧ w'.cell? ⟨gb551,1,none⟩ = some (.int .i64 t547) ∧ w'.cell? ⟨gb551,2,none⟩ = some (.int .i64 t548) ∧ w'.cell? ⟨gb551,3,none⟩ = some (.bool t549)) (ds:=[]) #[false,false,false,false,false,false,false,false,false,false,false,false,false,false,false,false,false,false,false,false,false,false,false,false,false,false,false,false,false,false,false,false,false,false,false,false] (by kernel_rfl) rfl rfl ⟨(bc_ BK551.out 0).trans rfl,(bc_ BK551.out 1).trans rfl,(bc_ BK551.out 2).trans rfl,(bc_ BK551.out 3).trans rfl⟩ (fun hHeld => ?_);refine with_tabW laws_FnLinkSafe.tab8 laws_FnLinkSafe.bits8 (fun HT_ HW_ => ?_)
        generalize wc.drew = w72 at HO_4 z0_ z1_ BK551 BK559 HB HR565 hHeld ⊢
        refine pure_ (i:=0) (N:=some 108) (v:=?_) (a':=?_) #[true,false,false,false,false,false,false,false,false,false,false,false,false,false,false,false,false,false,false,false,false,false,false,false,false,false,false,false,false,false,false,false,false,false,false,false] rfl rfl (any_of HT_.out (by kernel_rfl)) (fun _ _ _ h => h) (Or.inl ⟨by rfl,?_⟩) ?_ ?_
        rotate_left
        ·intro w'
         go_simp
         with_reducible rfl
        rotate_left
        ·simp only [Act.put,sx_,sy_,sz_,i64_w,i32_w]
         rfl
        refine pure_ (i:=3) (N:=some 111) (v:=?_) (a':=?_) #[true,false,false,true,false,false,false,false,false,false,false,false,false,false,false,false,false,false,false,false,false,false,false,false,false,false,false,false,false,false,false,false,false,false,false,false] rfl rfl (any_of HT_.out (by kernel_rfl)) (fun _ _ _ h => h) (Or.inl ⟨by rfl,?_⟩) ?_ ?_
        rotate_left
        ·intro w'
         go_simp
         with_reducible rfl
        rotate_left
        ·simp only [Act.put,sx_,sy_,sz_,i64_w,i32_w]
         rfl
        refine pure_ (i:=4) (N:=some 112) (v:=?_) (a':=?_) #[true,false,false,true,true,false,false,false,false,false,false,false,false,false,false,false,false,false,false,false,false,false,false,false,false,false,false,false,false,false,false,false,false,false,false,false] rfl rfl (any_of HT_.out (by kernel_rfl)) (fun _ _ _ h => h) (Or.inl ⟨by rfl,?_⟩) ?_ ?_
        rotate_left
        ·intro w'
         go_simp
         with_reducible rfl
        rotate_left
        ·simp only [Act.put,sx_,sy_,sz_,i64_w,i32_w]
         rfl
        refine take_ (i:=1) (N:=some 109) (v:=?_) (a':=?_) #[true,true,false,true,true,false,false,false,false,false,false,false,false,false,false,false,false,false,false,false,false,false,false,false,false,false,false,false,false,false,false,false,false,false,false,false] rfl rfl (take_ofW HT_.out HW_.out (by kernel_rfl)) (fun _ _ _ h => h) (Or.inl ⟨by rfl,?_⟩) hHeld ?_ ?_
        rotate_left
        ·rintro w' ⟨s0,s1,s2,s3⟩
         go_simp
         with_reducible rfl
        rotate_left
        ·simp only [Act.put,sx_,sy_,sz_,i64_w,i32_w]
         rfl
        refine pure_ (i:=2) (N:=some 110) (v:=?_) (a':=?_) #[true,true,true,true,true,false,false,false,false,false,false,false,false,false,false,false,false,false,false,false,false,false,false,false,false,false,false,false,false,false,false,false,false,false,false,false] rfl rfl (any_of HT_.out (by kernel_rfl)) (fun _ _ _ h => h) (Or.inl ⟨by rfl,?_⟩) ?_ ?_
        rotate_left
        ·intro w'
         go_simp
         with_reducible rfl
        rotate_left
        ·simp only [Act.put,sx_,sy_,sz_,i64_w,i32_w]
         rfl
        refine pure_ (i:=5) (N:=some 113) (v:=?_) (a':=?_) #[true,true,true,true,true,true,false,false,false,false,false,false,false,false,false,false,false,false,false,false,false,false,false,false,false,false,false,false,false,false,false,false,false,false,false,false] rfl rfl (any_of HT_.out (by kernel_rfl)) (fun _ _ _ h => h) (Or.inl ⟨by rfl,?_⟩) ?_ ?_
        rotate_left
        ·intro w'
         go_simp
         with_reducible rfl
        rotate_left
        ·simp only [Act.put,sx_,sy_,sz_,i64_w,i32_w]
         rfl
        refine pure_ (i:=6) (N:=some 114) (v:=?_) (a':=?_) #[true,true,true,true,true,true,true,false,false,false,false,false,false,false,false,false,false,false,false,false,false,false,false,false,false,false,false,false,false,false,false,false,false,false,false,false] rfl rfl (any_of HT_.out (by kernel_rfl)) (fun _ _ _ h => h) (Or.inl ⟨by rfl,?_⟩) ?_ ?_
        rotate_left
        ·intro w'
         go_simp
         with_reducible rfl
        rotate_left
        ·simp only [Act.put,sx_,sy_,sz_,i64_w,i32_w]
         rfl
        refine pure_ (i:=7) (N:=some 115) (v:=?_) (a':=?_) #[true,true,true,true,true,true,true,true,false,false,false,false,false,false,false,false,false,false,false,false,false,false,false,false,false,false,false,false,false,false,false,false,false,false,false,false] rfl rfl (any_of HT_.out (by kernel_rfl)) (fun _ _ _ h => h) (Or.inl ⟨by rfl,?_⟩) ?_ ?_
        rotate_left
        ·intro w'
         go_simp
         with_reducible rfl
        rotate_left
        ·simp only [Act.put,sx_,sy_,sz_,i64_w,i32_w]
         rfl
        refine pure_ (i:=9) (N:=some 117) (v:=?_) (a':=?_) #[true,true,true,true,true,true,true,true,false,true,false,false,false,false,false,false,false,false,false,false,false,false,false,false,false,false,false,false,false,false,false,false,false,false,false,false] rfl rfl (any_of HT_.out (by kernel_rfl)) (fun _ _ _ h => h) (Or.inl ⟨by rfl,?_⟩) ?_ ?_
        rotate_left
        ·intro w'
         go_simp
         with_reducible rfl
        rotate_left
        ·simp only [Act.put,sx_,sy_,sz_,i64_w,i32_w]
         rfl
        refine pure_ (i:=10) (N:=some 118) (v:=?_) (a':=?_) #[true,true,true,true,true,true,true,true,false,true,true,false,false,false,false,false,false,false,false,false,false,false,false,false,false,false,false,false,false,false,false,false,false,false,false,false] rfl rfl (any_of HT_.out (by kernel_rfl)) (fun _ _ _ h => h) (Or.inl ⟨by rfl,?_⟩) ?_ ?_
        rotate_left
        ·intro w'
         go_simp
         with_reducible rfl
        rotate_left
        ·simp only [Act.put,sx_,sy_,sz_,i64_w,i32_w]
         rfl
        refine take_ (i:=8) (N:=some 116) (v:=?_) (a':=?_) #[true,true,true,true,true,true,true,true,true,true,true,false,false,false,false,false,false,false,false,false,false,false,false,false,false,false,false,false,false,false,false,false,false,false,false,false] rfl rfl (take_ofW HT_.out HW_.out (by kernel_rfl)) (fun _ _ _ h => h) (Or.inl ⟨by rfl,?_⟩) hHeld ?_ ?_
        rotate_left
        ·rintro w' ⟨s0,s1,s2,s3⟩
         go_simp
         with_reducible rfl
        rotate_left
        ·simp only [Act.put,sx_,sy_,sz_,i64_w,i32_w]
         rfl
        refine take_ (i:=11) (N:=some 119) (v:=?_) (a':=?_) #[true,true,true,true,true,true,true,true,true,true,true,true,false,false,false,false,false,false,false,false,false,false,false,false,false,false,false,false,false,false,false,false,false,false,false,false] rfl rfl (take_ofW HT_.out HW_.out (by kernel_rfl)) (fun _ _ _ h => h) (Or.inl ⟨by rfl,?_⟩) hHeld ?_ ?_
        rotate_left
        ·rintro w' ⟨s0,s1,s2,s3⟩
         go_simp
         with_reducible rfl
        rotate_left
        ·simp only [Act.put,sx_,sy_,sz_,i64_w,i32_w]
         rfl
        refine pure_ (i:=12) (N:=some 120) (v:=?_) (a':=?_) #[true,true,true,true,true,true,true,true,true,true,true,true,true,false,false,false,false,false,false,false,false,false,false,false,false,false,false,false,false,false,false,false,false,false,false,false] rfl rfl (any_of HT_.out (by kernel_rfl)) (fun _ _ _ h => h) (Or.inl ⟨by rfl,?_⟩) ?_ ?_
        rotate_left
        ·intro w'
         go_simp
         with_reducible rfl
        rotate_left
        ·simp only [Act.put,sx_,sy_,sz_,i64_w,i32_w]
         rfl
        refine pure_ (i:=13) (N:=some 121) (v:=?_) (a':=?_) #[true,true,true,true,true,true,true,true,true,true,true,true,true,true,false,false,false,false,false,false,false,false,false,false,false,false,false,false,false,false,false,false,false,false,false,false] rfl rfl (any_of HT_.out (by kernel_rfl)) (fun _ _ _ h => h) (Or.inl ⟨by rfl,?_⟩) ?_ ?_
        rotate_left
        ·intro w'
         go_simp
         with_reducible rfl
        rotate_left
        ·simp only [Act.put,sx_,sy_,sz_,i64_w,i32_w]
         rfl
        refine one_ (i:=14) (N:=some 122) #[true,true,true,true,true,true,true,true,true,true,true,true,true,true,true,false,false,false,false,false,false,false,false,false,false,false,false,false,false,false,false,false,false,false,false,false] rfl rfl (one_of HT_.out (by kernel_rfl)) (by decide) (fun K hK => ?_)
        refine goes_ Try.func20 (by kernel_rfl) rfl #[.slice Ao13 t544.length co13,.slice Ao8 y562.length co8] (by rfl) rfl rfl qm_ ?_
        with_reducible refine (laws_wnTexts.calls kj5 _ _ t544 _ _ y562 false _ ?side1 ?side2 ?side3 ?side4 A62.out).mono ?_
        (case side1 => repeat (first|exact (Kd.S_reads' z0_.out).2.2|(with_reducible refine ca_ ?_ _)|(with_reducible refine cn_ ?_ _)|(with_reducible refine cd_ ?_)))
        (case side2 => exact (Kd.S_reads' z0_.out).2.1)
        (case side3 => repeat (first|exact (by repeat (first|(with_reducible exact HR565.out)|(with_reducible refine ca_ ?_ _)|(with_reducible refine cn_ ?_ _)|(with_reducible refine cd_ ?_)|exact HR565.out))|(with_reducible refine ca_ ?_ _)|(with_reducible refine cn_ ?_ _)|(with_reducible refine cd_ ?_)))
        (case side4 => exact HC565.out)
        rintro e w' ⟨rfl,⟨nd,rfl⟩⟩
        refine ⟨_,rfl,?_⟩
        refine hK.out _ _ ⟨(bc_ BK551.out 0).trans rfl,(bc_ BK551.out 1).trans rfl,(bc_ BK551.out 2).trans rfl,(bc_ BK551.out 3).trans rfl⟩ (fun hHeld => ?_)
        clear hK K
        refine norm_ (a':=?_) ?_ ?_
        rotate_left
        ·show Act.put _ (some 122) _ = _
         simp only [Act.put,sx_,sy_,sz_,i64_w,i32_w]
         rfl
        refine pure_ (i:=15) (N:=some 123) (v:=?_) (a':=?_) #[true,true,true,true,true,true,true,true,true,true,true,true,true,true,true,true,false,false,false,false,false,false,false,false,false,false,false,false,false,false,false,false,false,false,false,false] rfl rfl (any_of HT_.out (by kernel_rfl)) (fun _ _ _ h => h) (Or.inl ⟨by rfl,?_⟩) ?_ ?_
        rotate_left
        ·intro w'
         go_simp
         with_reducible rfl
        rotate_left
        ·simp only [Act.put,sx_,sy_,sz_,i64_w,i32_w]
         rfl
        refine pure_ (i:=16) (N:=some 124) (v:=?_) (a':=?_) #[true,true,true,true,true,true,true,true,true,true,true,true,true,true,true,true,true,false,false,false,false,false,false,false,false,false,false,false,false,false,false,false,false,false,false,false] rfl rfl (any_of HT_.out (by kernel_rfl)) (fun _ _ _ h => h) (Or.inl ⟨by rfl,?_⟩) ?_ ?_
        rotate_left
        ·intro w'
         go_simp
         with_reducible rfl
        rotate_left
        ·simp only [Act.put,sx_,sy_,sz_,i64_w,i32_w]
         rfl
        refine pure_ (i:=17) (N:=some 125) (v:=undef) (a':=?_) #[true,true,true,true,true,true,true,true,true,true,true,true,true,true,true,true,true,true,false,false,false,false,false,false,false,false,false,false,false,false,false,false,false,false,false,false] rfl rfl (any_of HT_.out (by kernel_rfl)) (fun _ _ _ h => h) (Or.inr ⟨by rfl,rfl⟩) ?_ ?_
        rotate_left
        ·simp only [Act.put,sx_,sy_,sz_,i64_w,i32_w]
         rfl
        refine pure_ (i:=18) (N:=some 126) (v:=undef) (a':=?_) #[true,true,true,true,true,true,true,true,true,true,true,true,true,true,true,true,true,true,true,false,false,false,false,false,false,false,false,false,false,false,false,false,false,false,false,false] rfl rfl (any_of HT_.out (by kernel_rfl)) (fun _ _ _ h => h) (Or.inr ⟨by rfl,rfl⟩) ?_ ?_
        rotate_left
        ·simp only [Act.put,sx_,sy_,sz_,i64_w,i32_w]
         rfl
        refine pure_ (i:=19) (N:=some 127) (v:=undef) (a':=?_) #[true,true,true,true,true,true,true,true,true,true,true,true,true,true,true,true,true,true,true,true,false,false,false,false,false,false,false,false,false,false,false,false,false,false,false,false] rfl rfl (any_of HT_.out (by kernel_rfl)) (fun _ _ _ h => h) (Or.inr ⟨by rfl,rfl⟩) ?_ ?_
        rotate_left
        ·simp only [Act.put,sx_,sy_,sz_,i64_w,i32_w]
         rfl
        refine pure_ (i:=20) (N:=some 128) (v:=undef) (a':=?_) #[true,true,true,true,true,true,true,true,true,true,true,true,true,true,true,true,true,true,true,true,true,false,false,false,false,false,false,false,false,false,false,false,false,false,false,false] rfl rfl (any_of HT_.out (by kernel_rfl)) (fun _ _ _ h => h) (Or.inr ⟨by rfl,rfl⟩) ?_ ?_
        rotate_left
        ·simp only [Act.put,sx_,sy_,sz_,i64_w,i32_w]
         rfl
        refine pure_ (i:=21) (N:=some 129) (v:=undef) (a':=?_) #[true,true,true,true,true,true,true,true,true,true,true,true,true,true,true,true,true,true,true,true,true,true,false,false,false,false,false,false,false,false,false,false,false,false,false,false] rfl rfl (any_of HT_.out (by kernel_rfl)) (fun _ _ _ h => h) (Or.inr ⟨by rfl,rfl⟩) ?_ ?_
        rotate_left
        ·simp only [Act.put,sx_,sy_,sz_,i64_w,i32_w]
         rfl
        refine pure_ (i:=22) (N:=some 130) (v:=undef) (a':=?_) #[true,true,true,true,true,true,true,true,true,true,true,true,true,true,true,true,true,true,true,true,true,true,true,false,false,false,false,false,false,false,false,false,false,false,false,false] rfl rfl (any_of HT_.out (by kernel_rfl)) (fun _ _ _ h => h) (Or.inr ⟨by rfl,rfl⟩) ?_ ?_
        rotate_left
        ·simp only [Act.put,sx_,sy_,sz_,i64_w,i32_w]
         rfl
        refine pure_ (i:=23) (N:=some 131) (v:=undef) (a':=?_) #[true,true,true,true,true,true,true,true,true,true,true,true,true,true,true,true,true,true,true,true,true,true,true,true,false,false,false,false,false,false,false,false,false,false,false,false] rfl rfl (any_of HT_.out (by kernel_rfl)) (fun _ _ _ h => h) (Or.inr ⟨by rfl,rfl⟩) ?_ ?_
        rotate_left
        ·simp only [Act.put,sx_,sy_,sz_,i64_w,i32_w]
         rfl
        refine pure_ (i:=24) (N:=some 132) (v:=undef) (a':=?_) #[true,true,true,true,true,true,true,true,true,true,true,true,true,true,true,true,true,true,true,true,true,true,true,true,true,false,false,false,false,false,false,false,false,false,false,false] rfl rfl (any_of HT_.out (by kernel_rfl)) (fun _ _ _ h => h) (Or.inr ⟨by rfl,rfl⟩) ?_ ?_
        rotate_left
        ·simp only [Act.put,sx_,sy_,sz_,i64_w,i32_w]
         rfl
        refine pure_ (i:=25) (N:=some 133) (v:=undef) (a':=?_) #[true,true,true,true,true,true,true,true,true,true,true,true,true,true,true,true,true,true,true,true,true,true,true,true,true,true,false,false,false,false,false,false,false,false,false,false] rfl rfl (any_of HT_.out (by kernel_rfl)) (fun _ _ _ h => h) (Or.inr ⟨by rfl,rfl⟩) ?_ ?_
        rotate_left
        ·simp only [Act.put,sx_,sy_,sz_,i64_w,i32_w]
         rfl
        refine pure_ (i:=26) (N:=some 134) (v:=undef) (a':=?_) #[true,true,true,true,true,true,true,true,true,true,true,true,true,true,true,true,true,true,true,true,true,true,true,true,true,true,true,false,false,false,false,false,false,false,false,false] rfl rfl (any_of HT_.out (by kernel_rfl)) (fun _ _ _ h => h) (Or.inr ⟨by rfl,rfl⟩) ?_ ?_
        rotate_left
        ·simp only [Act.put,sx_,sy_,sz_,i64_w,i32_w]
         rfl
        refine pure_ (i:=27) (N:=some 135) (v:=undef) (a':=?_) #[true,true,true,true,true,true,true,true,true,true,true,true,true,true,true,true,true,true,true,true,true,true,true,true,true,true,true,true,false,false,false,false,false,false,false,false] rfl rfl (any_of HT_.out (by kernel_rfl)) (fun _ _ _ h => h) (Or.inr ⟨by rfl,rfl⟩) ?_ ?_
        rotate_left
        ·simp only [Act.put,sx_,sy_,sz_,i64_w,i32_w]
         rfl
        refine pure_ (i:=28) (N:=some 136) (v:=?_) (a':=?_) #[true,true,true,true,true,true,true,true,true,true,true,true,true,true,true,true,true,true,true,true,true,true,true,true,true,true,true,true,true,false,false,false,false,false,false,false] rfl rfl (any_of HT_.out (by kernel_rfl)) (fun _ _ _ h => h) (Or.inl ⟨by rfl,?_⟩) ?_ ?_
        rotate_left
        ·intro w'
         go_simp
         with_reducible rfl
        rotate_left
        ·simp only [Act.put,sx_,sy_,sz_,i64_w,i32_w]
         rfl
        refine pure_ (i:=29) (N:=some 137) (v:=?_) (a':=?_) #[true,true,true,true,true,true,true,true,true,true,true,true,true,true,true,true,true,true,true,true,true,true,true,true,true,true,true,true,true,true,false,false,false,false,false,false] rfl rfl (any_of HT_.out (by kernel_rfl)) (fun _ _ _ h => h) (Or.inl ⟨by rfl,?_⟩) ?_ ?_
        rotate_left
        ·intro w'
         go_simp
         with_reducible rfl
        rotate_left
        ·simp only [Act.put,sx_,sy_,sz_,i64_w,i32_w]
         rfl
        refine pure_ (i:=30) (N:=some 138) (v:=undef) (a':=?_) #[true,true,true,true,true,true,true,true,true,true,true,true,true,true,true,true,true,true,true,true,true,true,true,true,true,true,true,true,true,true,true,false,false,false,false,false] rfl rfl (any_of HT_.out (by kernel_rfl)) (fun _ _ _ h => h) (Or.inr ⟨by rfl,rfl⟩) ?_ ?_
        rotate_left
        ·simp only [Act.put,sx_,sy_,sz_,i64_w,i32_w]
         rfl
        refine pure_ (i:=31) (N:=some 139) (v:=undef) (a':=?_) #[true,true,true,true,true,true,true,true,true,true,true,true,true,true,true,true,true,true,true,true,true,true,true,true,true,true,true,true,true,true,true,true,false,false,false,false] rfl rfl (any_of HT_.out (by kernel_rfl)) (fun _ _ _ h => h) (Or.inr ⟨by rfl,rfl⟩) ?_ ?_
        rotate_left
        ·simp only [Act.put,sx_,sy_,sz_,i64_w,i32_w]
         rfl
        refine pure_ (i:=32) (N:=some 140) (v:=undef) (a':=?_) #[true,true,true,true,true,true,true,true,true,true,true,true,true,true,true,true,true,true,true,true,true,true,true,true,true,true,true,true,true,true,true,true,true,false,false,false] rfl rfl (any_of HT_.out (by kernel_rfl)) (fun _ _ _ h => h) (Or.inr ⟨by rfl,rfl⟩) ?_ ?_
        rotate_left
        ·simp only [Act.put,sx_,sy_,sz_,i64_w,i32_w]
         rfl
        refine pure_ (i:=33) (N:=some 141) (v:=undef) (a':=?_) #[true,true,true,true,true,true,true,true,true,true,true,true,true,true,true,true,true,true,true,true,true,true,true,true,true,true,true,true,true,true,true,true,true,true,false,false] rfl rfl (any_of HT_.out (by kernel_rfl)) (fun _ _ _ h => h) (Or.inr ⟨by rfl,rfl⟩) ?_ ?_
        rotate_left
        ·simp only [Act.put,sx_,sy_,sz_,i64_w,i32_w]
         rfl
        refine pure_ (i:=34) (N:=some 142) (v:=?_) (a':=?_) #[true,true,true,true,true,true,true,true,true,true,true,true,true,true,true,true,true,true,true,true,true,true,true,true,true,true,true,true,true,true,true,true,true,true,true,false] rfl rfl (any_of HT_.out (by kernel_rfl)) (fun _ _ _ h => h) (Or.inl ⟨by rfl,?_⟩) ?_ ?_
        rotate_left
        ·intro w'
         go_simp
         with_reducible rfl
        rotate_left
        ·simp only [Act.put,sx_,sy_,sz_,i64_w,i32_w]
         rfl
        refine pure_ (i:=35) (N:=some 2) (v:=?_) (a':=?_) #[true,true,true,true,true,true,true,true,true,true,true,true,true,true,true,true,true,true,true,true,true,true,true,true,true,true,true,true,true,true,true,true,true,true,true,true] rfl rfl (any_of HT_.out (by kernel_rfl)) (fun _ _ _ h => h) (Or.inl ⟨by rfl,?_⟩) ?_ ?_
        rotate_left
        ·intro w'
         go_simp
         with_reducible rfl
        rotate_left
        ·simp only [Act.put,sx_,sy_,sz_,i64_w,i32_w]
         rfl
        refine done_ (done_of HT_.out (by kernel_rfl)) ?_
        try go_wp2
        go_ret
        exact ⟨qe_,u5_ HB GE551 GE559⟩
      ·rw [if_neg c60] at H
       exact absurd H (by simp)
     ·rw [if_neg c59] at H
      have c59b0 : decide ((t544.length : Int) ≤ (t534.length : Int)) = false:=decide_eq_false c59
      have c59b1 : decide (t544.length ≤ t534.length) = false:=decide_eq_false (fun h => c59 (Int.ofNat_le.mpr h))
      clear c59
      obtain rfl:=Option.some.inj H
      try go_wp2
      have n0_:=mk_ (Kd.S_drew HO_4.out)
      have n1_:=mk_ (Kd.S_drew z0_.out)
      have n2_:=mk_ (Kd.S_drew z1_.out)
      have n3_:=mk_ (kd_ BK551.out)
      have n4_:=mk_ (kd_ BK559.out)
      have n5_:=mk_ (bd_ HB.out)
      clear HO_4
      clear z0_
      clear z1_
      clear BK551
      clear BK559
      clear HB
      have HO_4:=n0_
      have z0_:=n1_
      have z1_:=n2_
      have BK551:=n3_
      have BK559:=n4_
      have HB:=n5_
      clear n0_ n1_ n2_ n3_ n4_ n5_
      refine start_ (n:=36) (S:=fun w' => w'.cell? ⟨gb551,0,none⟩ = some (.slice Ao13 t544.length co13) ∧ w'.cell? ⟨gb551,1,none⟩ = some (.int .i64 t547) ∧ w'.cell? ⟨gb551,2,none⟩ = some (.int .i64 t548) ∧ w'.cell? ⟨gb551,3,none⟩ = some (.bool t549)) (ds:=[]) #[false,false,false,false,false,false,false,false,false,false,false,false,false,false,false,false,false,false,false,false,false,false,false,false,false,false,false,false,false,false,false,false,false,false,false,false] (by kernel_rfl) rfl rfl ⟨(bc_ BK551.out 0).trans rfl,(bc_ BK551.out 1).trans rfl,(bc_ BK551.out 2).trans rfl,(bc_ BK551.out 3).trans rfl⟩ (fun hHeld => ?_);refine with_tabW laws_FnLinkSafe.tab8 laws_FnLinkSafe.bits8 (fun HT_ HW_ => ?_)
      generalize wc.drew = w74 at HO_4 z0_ z1_ BK551 BK559 HB hHeld ⊢
      refine pure_ (i:=0) (N:=some 108) (v:=?_) (a':=?_) #[true,false,false,false,false,false,false,false,false,false,false,false,false,false,false,false,false,false,false,false,false,false,false,false,false,false,false,false,false,false,false,false,false,false,false,false] rfl rfl (any_of HT_.out (by kernel_rfl)) (fun _ _ _ h => h) (Or.inl ⟨by rfl,?_⟩) ?_ ?_
      rotate_left
      ·intro w'
       go_simp
       with_reducible rfl
      rotate_left
      ·simp only [Act.put,sx_,sy_,sz_,i64_w,i32_w]
       rfl
      refine pure_ (i:=3) (N:=some 111) (v:=?_) (a':=?_) #[true,false,false,true,false,false,false,false,false,false,false,false,false,false,false,false,false,false,false,false,false,false,false,false,false,false,false,false,false,false,false,false,false,false,false,false] rfl rfl (any_of HT_.out (by kernel_rfl)) (fun _ _ _ h => h) (Or.inl ⟨by rfl,?_⟩) ?_ ?_
      rotate_left
      ·intro w'
       go_simp
       with_reducible rfl
      rotate_left
      ·simp only [Act.put,sx_,sy_,sz_,i64_w,i32_w]
       rfl
      refine pure_ (i:=4) (N:=some 112) (v:=?_) (a':=?_) #[true,false,false,true,true,false,false,false,false,false,false,false,false,false,false,false,false,false,false,false,false,false,false,false,false,false,false,false,false,false,false,false,false,false,false,false] rfl rfl (any_of HT_.out (by kernel_rfl)) (fun _ _ _ h => h) (Or.inl ⟨by rfl,?_⟩) ?_ ?_
      rotate_left
      ·intro w'
       go_simp
       with_reducible rfl
      rotate_left
      ·simp only [Act.put,sx_,sy_,sz_,i64_w,i32_w]
       rfl
      refine take_ (i:=1) (N:=some 109) (v:=?_) (a':=?_) #[true,true,false,true,true,false,false,false,false,false,false,false,false,false,false,false,false,false,false,false,false,false,false,false,false,false,false,false,false,false,false,false,false,false,false,false] rfl rfl (take_ofW HT_.out HW_.out (by kernel_rfl)) (fun _ _ _ h => h) (Or.inl ⟨by rfl,?_⟩) hHeld ?_ ?_
      rotate_left
      ·rintro w' ⟨s0,s1,s2,s3⟩
       go_simp
       with_reducible rfl
      rotate_left
      ·simp only [Act.put,sx_,sy_,sz_,i64_w,i32_w]
       rfl
      refine pure_ (i:=2) (N:=some 110) (v:=?_) (a':=?_) #[true,true,true,true,true,false,false,false,false,false,false,false,false,false,false,false,false,false,false,false,false,false,false,false,false,false,false,false,false,false,false,false,false,false,false,false] rfl rfl (any_of HT_.out (by kernel_rfl)) (fun _ _ _ h => h) (Or.inl ⟨by rfl,?_⟩) ?_ ?_
      rotate_left
      ·intro w'
       go_simp
       with_reducible rfl
      rotate_left
      ·simp only [Act.put,sx_,sy_,sz_,i64_w,i32_w]
       rfl
      refine pure_ (i:=5) (N:=some 113) (v:=?_) (a':=?_) #[true,true,true,true,true,true,false,false,false,false,false,false,false,false,false,false,false,false,false,false,false,false,false,false,false,false,false,false,false,false,false,false,false,false,false,false] rfl rfl (any_of HT_.out (by kernel_rfl)) (fun _ _ _ h => h) (Or.inl ⟨by rfl,?_⟩) ?_ ?_
      rotate_left
      ·intro w'
       go_simp
       with_reducible rfl
      rotate_left
      ·simp only [Act.put,sx_,sy_,sz_,i64_w,i32_w]
       rfl
      refine pure_ (i:=6) (N:=some 114) (v:=?_) (a':=?_) #[true,true,true,true,true,true,true,false,false,false,false,false,false,false,false,false,false,false,false,false,false,false,false,false,false,false,false,false,false,false,false,false,false,false,false,false] rfl rfl (any_of HT_.out (by kernel_rfl)) (fun _ _ _ h => h) (Or.inl ⟨by rfl,?_⟩) ?_ ?_
      rotate_left
      ·intro w'
       go_simp
       with_reducible rfl
      rotate_left
      ·simp only [Act.put,sx_,sy_,sz_,i64_w,i32_w]
       rfl
      refine pure_ (i:=7) (N:=some 115) (v:=undef) (a':=?_) #[true,true,true,true,true,true,true,true,false,false,false,false,false,false,false,false,false,false,false,false,false,false,false,false,false,false,false,false,false,false,false,false,false,false,false,false] rfl rfl (any_of HT_.out (by kernel_rfl)) (fun _ _ _ h => h) (Or.inr ⟨by rfl,rfl⟩) ?_ ?_
      rotate_left
      ·simp only [Act.put,sx_,sy_,sz_,i64_w,i32_w]
       rfl
      refine pure_ (i:=8) (N:=some 116) (v:=undef) (a':=?_) #[true,true,true,true,true,true,true,true,true,false,false,false,false,false,false,false,false,false,false,false,false,false,false,false,false,false,false,false,false,false,false,false,false,false,false,false] rfl rfl (any_of HT_.out (by kernel_rfl)) (fun _ _ _ h => h) (Or.inr ⟨by rfl,rfl⟩) ?_ ?_
      rotate_left
      ·simp only [Act.put,sx_,sy_,sz_,i64_w,i32_w]
       rfl
      refine pure_ (i:=9) (N:=some 117) (v:=undef) (a':=?_) #[true,true,true,true,true,true,true,true,true,true,false,false,false,false,false,false,false,false,false,false,false,false,false,false,false,false,false,false,false,false,false,false,false,false,false,false] rfl rfl (any_of HT_.out (by kernel_rfl)) (fun _ _ _ h => h) (Or.inr ⟨by rfl,rfl⟩) ?_ ?_
      rotate_left
      ·simp only [Act.put,sx_,sy_,sz_,i64_w,i32_w]
       rfl
      refine pure_ (i:=10) (N:=some 118) (v:=undef) (a':=?_) #[true,true,true,true,true,true,true,true,true,true,true,false,false,false,false,false,false,false,false,false,false,false,false,false,false,false,false,false,false,false,false,false,false,false,false,false] rfl rfl (any_of HT_.out (by kernel_rfl)) (fun _ _ _ h => h) (Or.inr ⟨by rfl,rfl⟩) ?_ ?_
      rotate_left
      ·simp only [Act.put,sx_,sy_,sz_,i64_w,i32_w]
       rfl
      refine pure_ (i:=11) (N:=some 119) (v:=undef) (a':=?_) #[true,true,true,true,true,true,true,true,true,true,true,true,false,false,false,false,false,false,false,false,false,false,false,false,false,false,false,false,false,false,false,false,false,false,false,false] rfl rfl (any_of HT_.out (by kernel_rfl)) (fun _ _ _ h => h) (Or.inr ⟨by rfl,rfl⟩) ?_ ?_
      rotate_left
      ·simp only [Act.put,sx_,sy_,sz_,i64_w,i32_w]
       rfl
      refine pure_ (i:=12) (N:=some 120) (v:=undef) (a':=?_) #[true,true,true,true,true,true,true,true,true,true,true,true,true,false,false,false,false,false,false,false,false,false,false,false,false,false,false,false,false,false,false,false,false,false,false,false] rfl rfl (any_of HT_.out (by kernel_rfl)) (fun _ _ _ h => h) (Or.inr ⟨by rfl,rfl⟩) ?_ ?_
      rotate_left
      ·simp only [Act.put,sx_,sy_,sz_,i64_w,i32_w]
       rfl
      refine pure_ (i:=13) (N:=some 121) (v:=undef) (a':=?_) #[true,true,true,true,true,true,true,true,true,true,true,true,true,true,false,false,false,false,false,false,false,false,false,false,false,false,false,false,false,false,false,false,false,false,false,false] rfl rfl (any_of HT_.out (by kernel_rfl)) (fun _ _ _ h => h) (Or.inr ⟨by rfl,rfl⟩) ?_ ?_
      rotate_left
      ·simp only [Act.put,sx_,sy_,sz_,i64_w,i32_w]
       rfl
      refine pure_ (i:=14) (N:=some 122) (v:=undef) (a':=?_) #[true,true,true,true,true,true,true,true,true,true,true,true,true,true,true,false,false,false,false,false,false,false,false,false,false,false,false,false,false,false,false,false,false,false,false,false] rfl rfl (any_of HT_.out (by kernel_rfl)) (fun _ _ _ h => h) (Or.inr ⟨by rfl,rfl⟩) ?_ ?_
      rotate_left
      ·simp only [Act.put,sx_,sy_,sz_,i64_w,i32_w]
       rfl
      refine pure_ (i:=15) (N:=some 123) (v:=?_) (a':=?_) #[true,true,true,true,true,true,true,true,true,true,true,true,true,true,true,true,false,false,false,false,false,false,false,false,false,false,false,false,false,false,false,false,false,false,false,false] rfl rfl (any_of HT_.out (by kernel_rfl)) (fun _ _ _ h => h) (Or.inl ⟨by rfl,?_⟩) ?_ ?_
      rotate_left
      ·intro w'
       go_simp
       with_reducible rfl
      rotate_left
      ·simp only [Act.put,sx_,sy_,sz_,i64_w,i32_w]
       rfl
      refine pure_ (i:=16) (N:=some 124) (v:=?_) (a':=?_) #[true,true,true,true,true,true,true,true,true,true,true,true,true,true,true,true,true,false,false,false,false,false,false,false,false,false,false,false,false,false,false,false,false,false,false,false] rfl rfl (any_of HT_.out (by kernel_rfl)) (fun _ _ _ h => h) (Or.inl ⟨by rfl,?_⟩) ?_ ?_
      rotate_left
      ·intro w'
       go_simp
       with_reducible rfl
      rotate_left
      ·simp only [Act.put,sx_,sy_,sz_,i64_w,i32_w]
       rfl
      refine pure_ (i:=17) (N:=some 125) (v:=undef) (a':=?_) #[true,true,true,true,true,true,true,true,true,true,true,true,true,true,true,true,true,true,false,false,false,false,false,false,false,false,false,false,false,false,false,false,false,false,false,false] rfl rfl (any_of HT_.out (by kernel_rfl)) (fun _ _ _ h => h) (Or.inr ⟨by rfl,rfl⟩) ?_ ?_
      rotate_left
      ·simp only [Act.put,sx_,sy_,sz_,i64_w,i32_w]
       rfl
      refine pure_ (i:=18) (N:=some 126) (v:=undef) (a':=?_) #[true,true,true,true,true,true,true,true,true,true,true,true,true,true,true,true,true,true,true,false,false,false,false,false,false,false,false,false,false,false,false,false,false,false,false,false] rfl rfl (any_of HT_.out (by kernel_rfl)) (fun _ _ _ h => h) (Or.inr ⟨by rfl,rfl⟩) ?_ ?_
      rotate_left
      ·simp only [Act.put,sx_,sy_,sz_,i64_w,i32_w]
       rfl
      refine pure_ (i:=19) (N:=some 127) (v:=undef) (a':=?_) #[true,true,true,true,true,true,true,true,true,true,true,true,true,true,true,true,true,true,true,true,false,false,false,false,false,false,false,false,false,false,false,false,false,false,false,false] rfl rfl (any_of HT_.out (by kernel_rfl)) (fun _ _ _ h => h) (Or.inr ⟨by rfl,rfl⟩) ?_ ?_
      rotate_left
      ·simp only [Act.put,sx_,sy_,sz_,i64_w,i32_w]
       rfl
      refine pure_ (i:=20) (N:=some 128) (v:=undef) (a':=?_) #[true,true,true,true,true,true,true,true,true,true,true,true,true,true,true,true,true,true,true,true,true,false,false,false,false,false,false,false,false,false,false,false,false,false,false,false] rfl rfl (any_of HT_.out (by kernel_rfl)) (fun _ _ _ h => h) (Or.inr ⟨by rfl,rfl⟩) ?_ ?_
      rotate_left
      ·simp only [Act.put,sx_,sy_,sz_,i64_w,i32_w]
       rfl
      refine pure_ (i:=21) (N:=some 129) (v:=undef) (a':=?_) #[true,true,true,true,true,true,true,true,true,true,true,true,true,true,true,true,true,true,true,true,true,true,false,false,false,false,false,false,false,false,false,false,false,false,false,false] rfl rfl (any_of HT_.out (by kernel_rfl)) (fun _ _ _ h => h) (Or.inr ⟨by rfl,rfl⟩) ?_ ?_
      rotate_left
      ·simp only [Act.put,sx_,sy_,sz_,i64_w,i32_w]
       rfl
      refine pure_ (i:=22) (N:=some 130) (v:=undef) (a':=?_) #[true,true,true,true,true,true,true,true,true,true,true,true,true,true,true,true,true,true,true,true,true,true,true,false,false,false,false,false,false,false,false,false,false,false,false,false] rfl rfl (any_of HT_.out (by kernel_rfl)) (fun _ _ _ h => h) (Or.inr ⟨by rfl,rfl⟩) ?_ ?_
      rotate_left
      ·simp only [Act.put,sx_,sy_,sz_,i64_w,i32_w]
       rfl
      refine pure_ (i:=23) (N:=some 131) (v:=undef) (a':=?_) #[true,true,true,true,true,true,true,true,true,true,true,true,true,true,true,true,true,true,true,true,true,true,true,true,false,false,false,false,false,false,false,false,false,false,false,false] rfl rfl (any_of HT_.out (by kernel_rfl)) (fun _ _ _ h => h) (Or.inr ⟨by rfl,rfl⟩) ?_ ?_
      rotate_left
      ·simp only [Act.put,sx_,sy_,sz_,i64_w,i32_w]
       rfl
      refine pure_ (i:=24) (N:=some 132) (v:=undef) (a':=?_) #[true,true,true,true,true,true,true,true,true,true,true,true,true,true,true,true,true,true,true,true,true,true,true,true,true,false,false,false,false,false,false,false,false,false,false,false] rfl rfl (any_of HT_.out (by kernel_rfl)) (fun _ _ _ h => h) (Or.inr ⟨by rfl,rfl⟩) ?_ ?_
      rotate_left
      ·simp only [Act.put,sx_,sy_,sz_,i64_w,i32_w]
       rfl
      refine pure_ (i:=25) (N:=some 133) (v:=undef) (a':=?_) #[true,true,true,true,true,true,true,true,true,true,true,true,true,true,true,true,true,true,true,true,true,true,true,true,true,true,false,false,false,false,false,false,false,false,false,false] rfl rfl (any_of HT_.out (by kernel_rfl)) (fun _ _ _ h => h) (Or.inr ⟨by rfl,rfl⟩) ?_ ?_
      rotate_left
      ·simp only [Act.put,sx_,sy_,sz_,i64_w,i32_w]
       rfl
      refine pure_ (i:=26) (N:=some 134) (v:=undef) (a':=?_) #[true,true,true,true,true,true,true,true,true,true,true,true,true,true,true,true,true,true,true,true,true,true,true,true,true,true,true,false,false,false,false,false,false,false,false,false] rfl rfl (any_of HT_.out (by kernel_rfl)) (fun _ _ _ h => h) (Or.inr ⟨by rfl,rfl⟩) ?_ ?_
      rotate_left
      ·simp only [Act.put,sx_,sy_,sz_,i64_w,i32_w]
       rfl
      refine pure_ (i:=27) (N:=some 135) (v:=undef) (a':=?_) #[true,true,true,true,true,true,true,true,true,true,true,true,true,true,true,true,true,true,true,true,true,true,true,true,true,true,true,true,false,false,false,false,false,false,false,false] rfl rfl (any_of HT_.out (by kernel_rfl)) (fun _ _ _ h => h) (Or.inr ⟨by rfl,rfl⟩) ?_ ?_
      rotate_left
      ·simp only [Act.put,sx_,sy_,sz_,i64_w,i32_w]
       rfl
      refine pure_ (i:=28) (N:=some 136) (v:=?_) (a':=?_) #[true,true,true,true,true,true,true,true,true,true,true,true,true,true,true,true,true,true,true,true,true,true,true,true,true,true,true,true,true,false,false,false,false,false,false,false] rfl rfl (any_of HT_.out (by kernel_rfl)) (fun _ _ _ h => h) (Or.inl ⟨by rfl,?_⟩) ?_ ?_
      rotate_left
      ·intro w'
       go_simp
       with_reducible rfl
      rotate_left
      ·simp only [Act.put,sx_,sy_,sz_,i64_w,i32_w]
       rfl
      refine pure_ (i:=29) (N:=some 137) (v:=?_) (a':=?_) #[true,true,true,true,true,true,true,true,true,true,true,true,true,true,true,true,true,true,true,true,true,true,true,true,true,true,true,true,true,true,false,false,false,false,false,false] rfl rfl (any_of HT_.out (by kernel_rfl)) (fun _ _ _ h => h) (Or.inl ⟨by rfl,?_⟩) ?_ ?_
      rotate_left
      ·intro w'
       go_simp
       with_reducible rfl
      rotate_left
      ·simp only [Act.put,sx_,sy_,sz_,i64_w,i32_w]
       rfl
      refine pure_ (i:=30) (N:=some 138) (v:=undef) (a':=?_) #[true,true,true,true,true,true,true,true,true,true,true,true,true,true,true,true,true,true,true,true,true,true,true,true,true,true,true,true,true,true,true,false,false,false,false,false] rfl rfl (any_of HT_.out (by kernel_rfl)) (fun _ _ _ h => h) (Or.inr ⟨by rfl,rfl⟩) ?_ ?_
      rotate_left
      ·simp only [Act.put,sx_,sy_,sz_,i64_w,i32_w]
       rfl
      refine pure_ (i:=31) (N:=some 139) (v:=undef) (a':=?_) #[true,true,true,true,true,true,true,true,true,true,true,true,true,true,true,true,true,true,true,true,true,true,true,true,true,true,true,true,true,true,true,true,false,false,false,false] rfl rfl (any_of HT_.out (by kernel_rfl)) (fun _ _ _ h => h) (Or.inr ⟨by rfl,rfl⟩) ?_ ?_
      rotate_left
      ·simp only [Act.put,sx_,sy_,sz_,i64_w,i32_w]
       rfl
      refine pure_ (i:=32) (N:=some 140) (v:=undef) (a':=?_) #[true,true,true,true,true,true,true,true,true,true,true,true,true,true,true,true,true,true,true,true,true,true,true,true,true,true,true,true,true,true,true,true,true,false,false,false] rfl rfl (any_of HT_.out (by kernel_rfl)) (fun _ _ _ h => h) (Or.inr ⟨by rfl,rfl⟩) ?_ ?_
      rotate_left
      ·simp only [Act.put,sx_,sy_,sz_,i64_w,i32_w]
       rfl
      refine pure_ (i:=33) (N:=some 141) (v:=undef) (a':=?_) #[true,true,true,true,true,true,true,true,true,true,true,true,true,true,true,true,true,true,true,true,true,true,true,true,true,true,true,true,true,true,true,true,true,true,false,false] rfl rfl (any_of HT_.out (by kernel_rfl)) (fun _ _ _ h => h) (Or.inr ⟨by rfl,rfl⟩) ?_ ?_
      rotate_left
      ·simp only [Act.put,sx_,sy_,sz_,i64_w,i32_w]
       rfl
      refine pure_ (i:=34) (N:=some 142) (v:=?_) (a':=?_) #[true,true,true,true,true,true,true,true,true,true,true,true,true,true,true,true,true,true,true,true,true,true,true,true,true,true,true,true,true,true,true,true,true,true,true,false] rfl rfl (any_of HT_.out (by kernel_rfl)) (fun _ _ _ h => h) (Or.inl ⟨by rfl,?_⟩) ?_ ?_
      rotate_left
      ·intro w'
       go_simp
       with_reducible rfl
      rotate_left
      ·simp only [Act.put,sx_,sy_,sz_,i64_w,i32_w]
       rfl
      refine pure_ (i:=35) (N:=some 2) (v:=?_) (a':=?_) #[true,true,true,true,true,true,true,true,true,true,true,true,true,true,true,true,true,true,true,true,true,true,true,true,true,true,true,true,true,true,true,true,true,true,true,true] rfl rfl (any_of HT_.out (by kernel_rfl)) (fun _ _ _ h => h) (Or.inl ⟨by rfl,?_⟩) ?_ ?_
      rotate_left
      ·intro w'
       go_simp
       with_reducible rfl
      rotate_left
      ·simp only [Act.put,sx_,sy_,sz_,i64_w,i32_w]
       rfl
      refine done_ (done_of HT_.out (by kernel_rfl)) ?_
      try go_wp2
      go_ret
      exact ⟨qe_,u5_ HB GE551 GE559⟩

/-- THE ONE PURE STATEMENT of laws_FnLinkSafe: yours. -/
def laws_FnLinkSafe.Pure : Prop:=∀ (l0 : List Int),l0.length ≤ maxLen → l0.length * 1 ≤ 140737488351232 → (∀ x ∈ l0,(Lit.int .u8 x).wf = true) → ∃ k,laws_FnLinkSafe.f k l0 = some true
theorem laws_FnLinkSafe.walk (P : laws_FnLinkSafe.Pure) (a0 : Option Addr) (len0 cap0 : Nat) (z0 : List Int) (w : World) (w0 : (a0 = none ∧ len0 = 0 ∧ cap0 = 0 ∧ z0 = []) ∨ ∃ x,a0 = some x ∧ len0 ≤ cap0 ∧ cap0 ≤ maxLen ∧ z0.length = cap0 ∧ (∀ i,i < z0.length → w.cell? (x.add i) = some (.int .u8 (z0.getD i 0))) ∧ ∀ n ∈ z0,(Lit.int .u8 n).wf = true) (y0 : len0 * 1 ≤ 140737488351232) :
  Calls Try.prog 5 #[.slice a0 len0 cap0] w fun e w' => e = .returned (.bool true) ∧ Below w.heap.size w w':=by
 obtain ⟨l0,rfl,hr0,hm0,hw0,hc0⟩:=ReadsInt.ofRowC w0
 obtain ⟨k,h⟩:=P l0 hm0 y0 hw0
 refine (laws_FnLinkSafe.calls k _ _ l0 true w (Kd.C_of_reads (d:=(0 : Int)) (h1:=fun _ => rfl) hr0) hc0 h).mono ?_
 rintro e w' ⟨rfl,hd⟩
 exact ⟨rfl,hd⟩

end Go.Proofs.Ytdpnloibbimblaa.PAll
