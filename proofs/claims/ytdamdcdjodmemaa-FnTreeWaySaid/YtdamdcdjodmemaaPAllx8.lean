/- Proved here: contracts of functions of the given program, or lemmas on them, for the laws of this seat. Written by xprint.py, a program of this session, on the ground of the kit's print; parts by hand: wip/x/ext. -/
import Derived.Test.YtdamdcdjodmemaaPAllx0
import Derived.Test.YtdamdcdjodmemaaPAllx1
import Derived.Test.YtdamdcdjodmemaaPAllx3
import Derived.Test.YtdamdcdjodmemaaPAllx4
import Derived.Test.YtdamdcdjodmemaaPAllx5
import Derived.Test.YtdamdcdjodmemaaPAllx7
namespace Go.Proofs.Ytdamdcdjodmemaa.PAll
open Go.RowKit Go.Proofs.YtdamdcdjodmemaaW.PrintWords Go.Proofs.YtdamdcdjodmemaaW.PrintLast Go.Proofs.YtdamdcdjodmemaaW.PrintMore
attribute [local go_sem] max2_int min2_int max_two min_two max_three min_three max_four min_four   -- for this text's walks alone
set_option linter.unusedVariables false
set_option linter.unusedSimpArgs false

/-! ### impl_RootOf: function 37 -/
def impl_RootOf.f (a0 : Int) (l1 : List (S51)) (a2 : Int) : Option (Int):=(impl_CablesValid.f a0 l1).bind fun t520 => (if t520 = true then ((impl_within.f a2 0 (wrap64 (a0 - 1))).bind fun t521 => (if t521 = true then ((impl_rootsOf.f a0 l1).bind fun t522 => (if 0 ≤ a2 then (if a2 < (t522.length : Int) then (some (rd t522 a2)) else (none)) else (none))) else (some (-1)))) else (some (-1)))
set_option maxHeartbeats 8000000 in
set_option maxRecDepth 100000 in
theorem impl_RootOf.calls (a0 : Int) (A1 : Option Addr) (c1 : Nat) (l1 : List (S51)) (a2 : Int) (r : Int) (w : World) (hr1 : Kd.C k51 w A1 l1.length l1) (hc1 : l1.length ≤ c1) (h : impl_RootOf.f a0 l1 a2 = some r) :
  Calls Try.prog 37 #[.int .i64 a0,.slice A1 l1.length c1,.int .i64 a2] w fun e w' => e = .returned (.int .i64 r) ∧ Below w.heap.size w w':=by
 have HR1:=mk_ hr1
 have HC1:=mk_ hc1
 clear hr1 hc1
 have HB:=mk_ (Below.refl w.heap.size w)
 have H : ((impl_CablesValid.f a0 l1).bind fun t520 => (if t520 = true then ((impl_within.f a2 0 (wrap64 (a0 - 1))).bind fun t521 => (if t521 = true then ((impl_rootsOf.f a0 l1).bind fun t522 => (if 0 ≤ a2 then (if a2 < (t522.length : Int) then (some (rd t522 a2)) else (none)) else (none))) else (some (-1)))) else (some (-1)))) = some r:=h
 clear h
 replace H:=Option.bind_eq_some_iff.mp H
 obtain ⟨t520,A40,H⟩:=H
 replace H : (if t520 = true then ((impl_within.f a2 0 (wrap64 (a0 - 1))).bind fun t521 => (if t521 = true then ((impl_rootsOf.f a0 l1).bind fun t522 => (if 0 ≤ a2 then (if a2 < (t522.length : Int) then (some (rd t522 a2)) else (none)) else (none))) else (some (-1)))) else (some (-1))) = some r:=H
 have A4:=mk_ A40
 clear A40
 by_cases c5 : t520 = true
 ·subst c5
  have H1 : ((impl_within.f a2 0 (wrap64 (a0 - 1))).bind fun t521 => (if t521 = true then ((impl_rootsOf.f a0 l1).bind fun t522 => (if 0 ≤ a2 then (if a2 < (t522.length : Int) then (some (rd t522 a2)) else (none)) else (none))) else (some (-1)))) = some r:=by rw [if_pos rfl] at H;exact H
  clear H
  have H:=H1
  clear H1
  replace H:=Option.bind_eq_some_iff.mp H
  obtain ⟨t521,A60,H⟩:=H
  replace H : (if t521 = true then ((impl_rootsOf.f a0 l1).bind fun t522 => (if 0 ≤ a2 then (if a2 < (t522.length : Int) then (some (rd t522 a2)) else (none)) else (none))) else (some (-1))) = some r:=H
  have A6:=mk_ A60
  clear A60
  by_cases c7 : t521 = true
  ·subst c7
   have H1 : ((impl_rootsOf.f a0 l1).bind fun t522 => (if 0 ≤ a2 then (if a2 < (t522.length : Int) then (some (rd t522 a2)) else (none)) else (none))) = some r:=by rw [if_pos rfl] at H;exact H
   clear H
   have H:=H1
   clear H1
   replace H:=Option.bind_eq_some_iff.mp H
   obtain ⟨t522,A80,H⟩:=H
   replace H : (if 0 ≤ a2 then (if a2 < (t522.length : Int) then (some (rd t522 a2)) else (none)) else (none)) = some r:=H
   have A8:=mk_ A80
   clear A80
   by_cases c9 : 0 ≤ a2
   ·rw [if_pos c9] at H
    have c9b0 : decide (0 ≤ a2) = true:=decide_eq_true c9
    clear c9
    by_cases c10 : a2 < (t522.length : Int)
    ·rw [if_pos c10] at H
     have c10b0 : decide (a2 < (t522.length : Int)) = true:=decide_eq_true c10
     clear c10
     obtain rfl:=Option.some.inj H
     go_enter Try.func37,Try.ntmps37
     go_wp2_with (first|((with_reducible refine gate_callee (f:=45) rfl ?_);refine goesL_ (some 9) rfl rfl Try.func45 (by kernel_rfl) rfl #[.int .i64 a0,.slice A1 l1.length c1] rfl qm_ ?_;(with_reducible refine (impl_CablesValid.calls a0 _ _ l1 true _ ?side1 ?side2 A4.out).mono ?_);(case side1 => repeat (first|exact HR1.out|(with_reducible refine ca_ ?_ _)|(with_reducible refine cn_ ?_ _)|(with_reducible refine cd_ ?_)));(case side2 => exact HC1.out);rintro e w11 ⟨rfl,hb⟩;refine ⟨_,rfl,?_⟩;have n0_:=mk_ (st_ (qb_ HB) hb);clear HB;have HB:=n0_;clear n0_;(try clear hb);(try clear hb2);(try clear hk);(try clear hi))|(go_at_call 48;(with_reducible refine (impl_within.calls a2 0 (wrap64 (a0 - 1)) true _ A6.out).mono ?_);rintro e w' ⟨rfl,⟨nd,rfl⟩⟩)|((with_reducible refine gate_callee (f:=55) rfl ?_);refine goesL_ (some 20) rfl rfl Try.func55 (by kernel_rfl) rfl #[.int .i64 a0,.slice A1 l1.length c1] rfl qm_ ?_;(with_reducible refine (impl_rootsOf.calls a0 _ _ l1 t522 _ ?side1 ?side2 A8.out).mono ?_);(case side1 => repeat (first|exact (cb_ HR1.out (qb_ HB))|(with_reducible refine ca_ ?_ _)|(with_reducible refine cn_ ?_ _)|(with_reducible refine cd_ ?_)));(case side2 => exact HC1.out);rintro e w12 ⟨v523,rfl,ho0,hb⟩;refine ⟨_,rfl,?_⟩;have n0_:=mk_ (Kd.R_lower ho0 (bz_ (qb_ HB)));have n1_:=mk_ (st_ (qb_ HB) hb);clear HB;have HO524:=n0_;have HB:=n1_;clear n0_ n1_;(try clear hb);(try clear hb2);(try clear hk);(try clear hi);(try clear ho0);obtain ⟨Ao13,co13,eo13⟩:=Kd.R_slice HO524.out;subst eo13;have p525 : 0 ≤ (a2 : Int):=od_ qa_;have q525 : a2 < (t522.length : Int):=od_ qa_;obtain ⟨ad525,e525,hx525_0⟩:=Kd.at_int (rr_ HO524.out).2.2 a2 p525 q525;cases e525;replace p525:=eq_true p525;replace q525:=eq_true q525))
     go_ret
     exact ⟨qe_,u0_ HB⟩
    ·rw [if_neg c10] at H
     exact absurd H (by simp)
   ·rw [if_neg c9] at H
    exact absurd H (by simp)
  ·replace c7:=Bool.eq_false_iff.mpr c7
   subst c7
   have H1 : (some (-1)) = some r:=by rw [if_neg (show ¬ (false = true) by decide)] at H;exact H
   clear H
   have H:=H1
   clear H1
   obtain rfl:=Option.some.inj H
   go_enter Try.func37,Try.ntmps37
   go_wp2_with (first|((with_reducible refine gate_callee (f:=45) rfl ?_);refine goesL_ (some 9) rfl rfl Try.func45 (by kernel_rfl) rfl #[.int .i64 a0,.slice A1 l1.length c1] rfl qm_ ?_;(with_reducible refine (impl_CablesValid.calls a0 _ _ l1 true _ ?side1 ?side2 A4.out).mono ?_);(case side1 => repeat (first|exact HR1.out|(with_reducible refine ca_ ?_ _)|(with_reducible refine cn_ ?_ _)|(with_reducible refine cd_ ?_)));(case side2 => exact HC1.out);rintro e w14 ⟨rfl,hb⟩;refine ⟨_,rfl,?_⟩;have n0_:=mk_ (st_ (qb_ HB) hb);clear HB;have HB:=n0_;clear n0_;(try clear hb);(try clear hb2);(try clear hk);(try clear hi))|(go_at_call 48;(with_reducible refine (impl_within.calls a2 0 (wrap64 (a0 - 1)) false _ A6.out).mono ?_);rintro e w' ⟨rfl,⟨nd,rfl⟩⟩))
   go_ret
   exact ⟨qe_,u0_ HB⟩
 ·replace c5:=Bool.eq_false_iff.mpr c5
  subst c5
  have H1 : (some (-1)) = some r:=by rw [if_neg (show ¬ (false = true) by decide)] at H;exact H
  clear H
  have H:=H1
  clear H1
  obtain rfl:=Option.some.inj H
  go_enter Try.func37,Try.ntmps37
  go_wp2_with (first|((with_reducible refine gate_callee (f:=45) rfl ?_);refine goesL_ (some 9) rfl rfl Try.func45 (by kernel_rfl) rfl #[.int .i64 a0,.slice A1 l1.length c1] rfl qm_ ?_;(with_reducible refine (impl_CablesValid.calls a0 _ _ l1 false _ ?side1 ?side2 A4.out).mono ?_);(case side1 => repeat (first|exact HR1.out|(with_reducible refine ca_ ?_ _)|(with_reducible refine cn_ ?_ _)|(with_reducible refine cd_ ?_)));(case side2 => exact HC1.out);rintro e w15 ⟨rfl,hb⟩;refine ⟨_,rfl,?_⟩;have n0_:=mk_ (st_ (qb_ HB) hb);clear HB;have HB:=n0_;clear n0_;(try clear hb);(try clear hb2);(try clear hk);(try clear hi)))
  go_ret
  exact ⟨qe_,u0_ HB⟩

/-! ### laws_FnTreeWay: function 9 -/
mutual
def laws_FnTreeWay.j0 : Nat → Int → Int → List Int → Bool → Int → List (S51) → List Int → List Int → Option (Bool)
 | 0,_,_,_,_,_,_,_,_ => none
 | k + 1,x4,x5,x6,x38,x539000,x539001,x539002,x539003 => if x38 = true then (some false) else (if (x6.length : Int) = 0 then (some true) else (laws_FnTreeWay.l0 k x4 x5 x6 (([] : List (S51))) x6 (x6.length : Int) 0 x539000 x539001 x539002 x539003))
def laws_FnTreeWay.l0 : Nat → Int → Int → List Int → List (S51) → List Int → Int → Int → Int → List (S51) → List Int → List Int → Option (Bool)
 | 0,_,_,_,_,_,_,_,_,_,_,_ => none
 | k + 1,x4,x5,x6,x7,x43,x44,x45,x539000,x539001,x539002,x539003 => if x45 < x44 then (if 0 ≤ x45 then (if x45 < (x43.length : Int) then (if 0 ≤ (rd x43 x45) then (if (rd x43 x45) < (x539001.length : Int) then (if x7.length < 5864062014805 then ((impl_FloodOver.f k x539000 x539001 x539002 x539003 x4).bind fun t562 => ((laws_wnHas.f k t562 (rd x43 x45)).bind fun t565 => (if t565 = true then (laws_FnTreeWay.l0 k x4 x5 x6 (x7 ++ [(⟨(rd_T51 x539001 (rd x43 x45)).f0,(rd_T51 x539001 (rd x43 x45)).f1,(rd_T51 x539001 (rd x43 x45)).f2⟩ : S51)]) x43 x44 (wrap64 (x45 + 1)) x539000 x539001 x539002 x539003) else (some false)))) else (none)) else (none)) else (none)) else (none)) else (none)) else (if 0 ≤ x4 then (if x4 < (x539002.length : Int) then ((impl_RootOf.f x539000 x7 (rd x539002 x4)).bind fun t554 => (if 0 ≤ x5 then (if x5 < (x539002.length : Int) then ((impl_RootOf.f x539000 x7 (rd x539002 x5)).bind fun t556 => (if t554 = t556 then (some (decide ((x6.length : Int) < x539000))) else (some false))) else (none)) else (none))) else (none)) else (none))
end
def laws_FnTreeWay.f (k : Nat) (l0 : List Int) : Option (Bool):=if (l0.length : Int) > 1048576 then (some true) else ((spec_DrawTreeWay.f k l0).bind fun bt526 => ((impl_TreeWay.f k bt526.1 bt526.2.1 bt526.2.2.1 bt526.2.2.2.1 bt526.2.2.2.2.1 bt526.2.2.2.2.2).bind fun t539 => ((spec_TreeWay.f k bt526.1 bt526.2.1 bt526.2.2.1 bt526.2.2.2.1 bt526.2.2.2.2.1 bt526.2.2.2.2.2).bind fun t542 => ((laws_wnInts.f k t539 t542).bind fun t545 => (if t545 = true then ((impl_TreeWay.f k bt526.1 bt526.2.1 bt526.2.2.1 bt526.2.2.2.1 bt526.2.2.2.2.2 bt526.2.2.2.2.1).bind fun t546 => ((laws_wnInts.f k t539 t546).bind fun t549 => (laws_FnTreeWay.j0 k bt526.2.2.2.2.1 bt526.2.2.2.2.2 t539 (!t549) bt526.1 bt526.2.1 bt526.2.2.1 bt526.2.2.2.1))) else (laws_FnTreeWay.j0 k bt526.2.2.2.2.1 bt526.2.2.2.2.2 t539 true bt526.1 bt526.2.1 bt526.2.2.1 bt526.2.2.2.1))))))
theorem laws_FnTreeWay.mono_l : ∀ k,(∀ y0 y1 y2 y3 y4 y5 y6 y7,LeO (laws_FnTreeWay.j0 k y0 y1 y2 y3 y4 y5 y6 y7) (laws_FnTreeWay.j0 (k + 1) y0 y1 y2 y3 y4 y5 y6 y7)) ∧ (∀ y0 y1 y2 y3 y4 y5 y6 y7 y8 y9 y10,LeO (laws_FnTreeWay.l0 k y0 y1 y2 y3 y4 y5 y6 y7 y8 y9 y10) (laws_FnTreeWay.l0 (k + 1) y0 y1 y2 y3 y4 y5 y6 y7 y8 y9 y10))
 | 0 => ⟨fun _ _ _ _ _ _ _ _ r h => by simp [laws_FnTreeWay.j0] at h,fun _ _ _ _ _ _ _ _ _ _ _ r h => by simp [laws_FnTreeWay.l0] at h⟩
 | k + 1 => by
  obtain ⟨ih0,ih1⟩:=laws_FnTreeWay.mono_l k
  refine ⟨?_,?_⟩
  ·intro y0 y1 y2 y3 y4 y5 y6 y7
   unfold laws_FnTreeWay.j0
   repeat' first
   | (with_reducible exact ih0 _ _ _ _ _ _ _ _)
   | (with_reducible exact ih1 _ _ _ _ _ _ _ _ _ _ _)
   | (with_reducible exact impl_FloodOver.mono _ _ _ _ _ _)
   | (with_reducible exact impl_TreeWay.mono _ _ _ _ _ _ _)
   | (with_reducible exact laws_wnHas.mono _ _ _)
   | (with_reducible exact laws_wnInts.mono _ _ _)
   | (with_reducible exact spec_DrawTreeWay.mono _ _)
   | (with_reducible exact spec_TreeWay.mono _ _ _ _ _ _ _)
   | (with_reducible exact LeO.refl _)
   | (with_reducible exact LeO.none _)
   | (with_reducible refine LeO.ite ?_ ?_)
   | (with_reducible refine LeO.bind ?_ (fun _ => ?_))
   | exact ih0 _ _ _ _ _ _ _ _
   | exact ih1 _ _ _ _ _ _ _ _ _ _ _
   | exact impl_FloodOver.mono _ _ _ _ _ _
   | exact impl_TreeWay.mono _ _ _ _ _ _ _
   | exact laws_wnHas.mono _ _ _
   | exact laws_wnInts.mono _ _ _
   | exact spec_DrawTreeWay.mono _ _
   | exact spec_TreeWay.mono _ _ _ _ _ _ _
   | exact LeO.none _
   | refine LeO.ite ?_ ?_
   | refine LeO.bind ?_ (fun _ => ?_)
  ·intro y0 y1 y2 y3 y4 y5 y6 y7 y8 y9 y10
   unfold laws_FnTreeWay.l0
   repeat' first
   | (with_reducible exact ih0 _ _ _ _ _ _ _ _)
   | (with_reducible exact ih1 _ _ _ _ _ _ _ _ _ _ _)
   | (with_reducible exact impl_FloodOver.mono _ _ _ _ _ _)
   | (with_reducible exact impl_TreeWay.mono _ _ _ _ _ _ _)
   | (with_reducible exact laws_wnHas.mono _ _ _)
   | (with_reducible exact laws_wnInts.mono _ _ _)
   | (with_reducible exact spec_DrawTreeWay.mono _ _)
   | (with_reducible exact spec_TreeWay.mono _ _ _ _ _ _ _)
   | (with_reducible exact LeO.refl _)
   | (with_reducible exact LeO.none _)
   | (with_reducible refine LeO.ite ?_ ?_)
   | (with_reducible refine LeO.bind ?_ (fun _ => ?_))
   | exact ih0 _ _ _ _ _ _ _ _
   | exact ih1 _ _ _ _ _ _ _ _ _ _ _
   | exact impl_FloodOver.mono _ _ _ _ _ _
   | exact impl_TreeWay.mono _ _ _ _ _ _ _
   | exact laws_wnHas.mono _ _ _
   | exact laws_wnInts.mono _ _ _
   | exact spec_DrawTreeWay.mono _ _
   | exact spec_TreeWay.mono _ _ _ _ _ _ _
   | exact LeO.none _
   | refine LeO.ite ?_ ?_
   | refine LeO.bind ?_ (fun _ => ?_)
theorem laws_FnTreeWay.mono : ∀ a0 k,LeO (laws_FnTreeWay.f k a0) (laws_FnTreeWay.f (k + 1) a0):=by
 intro a0 k
 obtain ⟨ih0,ih1⟩:=laws_FnTreeWay.mono_l k
 unfold laws_FnTreeWay.f
 repeat' first
   | (with_reducible exact ih0 _ _ _ _ _ _ _ _)
   | (with_reducible exact ih1 _ _ _ _ _ _ _ _ _ _ _)
   | (with_reducible exact impl_FloodOver.mono _ _ _ _ _ _)
   | (with_reducible exact impl_TreeWay.mono _ _ _ _ _ _ _)
   | (with_reducible exact laws_wnHas.mono _ _ _)
   | (with_reducible exact laws_wnInts.mono _ _ _)
   | (with_reducible exact spec_DrawTreeWay.mono _ _)
   | (with_reducible exact spec_TreeWay.mono _ _ _ _ _ _ _)
   | (with_reducible exact LeO.refl _)
   | (with_reducible exact LeO.none _)
   | (with_reducible refine LeO.ite ?_ ?_)
   | (with_reducible refine LeO.bind ?_ (fun _ => ?_))
   | exact ih0 _ _ _ _ _ _ _ _
   | exact ih1 _ _ _ _ _ _ _ _ _ _ _
   | exact impl_FloodOver.mono _ _ _ _ _ _
   | exact impl_TreeWay.mono _ _ _ _ _ _ _
   | exact laws_wnHas.mono _ _ _
   | exact laws_wnInts.mono _ _ _
   | exact spec_DrawTreeWay.mono _ _
   | exact spec_TreeWay.mono _ _ _ _ _ _ _
   | exact LeO.none _
   | refine LeO.ite ?_ ?_
   | refine LeO.bind ?_ (fun _ => ?_)
def laws_FnTreeWay.T17 : Bool × List (List Nat × List Nat):=(true,[([],[]),([0],[0]),([],[]),([],[]),([3],[3]),([],[]),([4,5],[4,5]),([6],[6]),([1,2,7],[1,2,7]),([],[]),([9],[9]),([],[]),([],[]),([12],[12]),([],[]),([13,14],[13,14]),([15],[15]),([10,11,16,8],[10,11,16]),([8,17],[8,17]),([18,17],[18]),([19],[19]),([20,19],[19,20]),([19],[19]),([22,19],[19,22]),([21,23,19],[19,21,23]),([19,24],[19,24]),([25,19,0,1,2,3,4,5,6,7,8,9,10,11,12,13,14,15,16,17,18,19,20,21,22,23,24,25],[25])])
def laws_FnTreeWay.B17 : List Nat:=[0,1,0,0,8,0,56,120,255,0,512,0,0,4096,0,28672,61440,131071,262143,524287,1048575,2097151,1048575,5242879,16777215,33554431,67108863]
theorem laws_FnTreeWay.tab17 : rtab .any (opsOf Try.f9 17) = laws_FnTreeWay.T17:=by kernel_rfl
theorem laws_FnTreeWay.bits17 : waitsOk laws_FnTreeWay.T17.2 laws_FnTreeWay.B17 = true:=by kernel_rfl
set_option maxHeartbeats 8000000 in
set_option maxRecDepth 100000 in
theorem laws_FnTreeWay.calls (k : Nat) (A0 : Option Addr) (c0 : Nat) (l0 : List Int) (r : Bool) (w : World) (hr0 : Kd.C (Kd.int .u8) w A0 l0.length l0) (hc0 : l0.length ≤ c0) (h : laws_FnTreeWay.f k l0 = some r) :
  Calls Try.prog 9 #[.slice A0 l0.length c0] w fun e w' => e = .returned (.bool r) ∧ Below w.heap.size w w':=by
 have hu30:=Try.underlying30
 have hu51:=Try.underlying51
 have HR0:=mk_ hr0
 have HC0:=mk_ hc0
 clear hr0 hc0
 have HB:=mk_ (Below.refl w.heap.size w)
 have H : (if (l0.length : Int) > 1048576 then (some true) else ((spec_DrawTreeWay.f k l0).bind fun bt526 => ((impl_TreeWay.f k bt526.1 bt526.2.1 bt526.2.2.1 bt526.2.2.2.1 bt526.2.2.2.2.1 bt526.2.2.2.2.2).bind fun t539 => ((spec_TreeWay.f k bt526.1 bt526.2.1 bt526.2.2.1 bt526.2.2.2.1 bt526.2.2.2.2.1 bt526.2.2.2.2.2).bind fun t542 => ((laws_wnInts.f k t539 t542).bind fun t545 => (if t545 = true then ((impl_TreeWay.f k bt526.1 bt526.2.1 bt526.2.2.1 bt526.2.2.2.1 bt526.2.2.2.2.2 bt526.2.2.2.2.1).bind fun t546 => ((laws_wnInts.f k t539 t546).bind fun t549 => (laws_FnTreeWay.j0 k bt526.2.2.2.2.1 bt526.2.2.2.2.2 t539 (!t549) bt526.1 bt526.2.1 bt526.2.2.1 bt526.2.2.2.1))) else (laws_FnTreeWay.j0 k bt526.2.2.2.2.1 bt526.2.2.2.2.2 t539 true bt526.1 bt526.2.1 bt526.2.2.1 bt526.2.2.2.1))))))) = some r:=h
 clear h
 by_cases c2 : (l0.length : Int) > 1048576
 ·rw [if_pos c2] at H
  have c2b0 : decide (1048576 < (l0.length : Int)) = true:=decide_eq_true c2
  have c2b1 : decide (1048576 < l0.length) = true:=decide_eq_true (by omega)
  clear c2
  obtain rfl:=Option.some.inj H
  go_enter Try.func9,Try.ntmps9
  go_wp2
  go_ret
  exact ⟨qe_,u0_ HB⟩
 ·rw [if_neg c2] at H
  have c2b0 : decide (1048576 < (l0.length : Int)) = false:=decide_eq_false c2
  have c2b1 : decide (1048576 < l0.length) = false:=decide_eq_false (by omega)
  clear c2
  replace H:=Option.bind_eq_some_iff.mp H
  obtain ⟨⟨t526,t527,t530,t533,t536,t537⟩,A30,H⟩:=H
  replace H : ((impl_TreeWay.f k t526 t527 t530 t533 t536 t537).bind fun t539 => ((spec_TreeWay.f k t526 t527 t530 t533 t536 t537).bind fun t542 => ((laws_wnInts.f k t539 t542).bind fun t545 => (if t545 = true then ((impl_TreeWay.f k t526 t527 t530 t533 t537 t536).bind fun t546 => ((laws_wnInts.f k t539 t546).bind fun t549 => (laws_FnTreeWay.j0 k t536 t537 t539 (!t549) t526 t527 t530 t533))) else (laws_FnTreeWay.j0 k t536 t537 t539 true t526 t527 t530 t533))))) = some r:=H
  have A3:=mk_ A30
  clear A30
  replace H:=Option.bind_eq_some_iff.mp H
  obtain ⟨t539,A40,H⟩:=H
  replace H : ((spec_TreeWay.f k t526 t527 t530 t533 t536 t537).bind fun t542 => ((laws_wnInts.f k t539 t542).bind fun t545 => (if t545 = true then ((impl_TreeWay.f k t526 t527 t530 t533 t537 t536).bind fun t546 => ((laws_wnInts.f k t539 t546).bind fun t549 => (laws_FnTreeWay.j0 k t536 t537 t539 (!t549) t526 t527 t530 t533))) else (laws_FnTreeWay.j0 k t536 t537 t539 true t526 t527 t530 t533)))) = some r:=H
  have A4:=mk_ A40
  clear A40
  have HC5:=mk_ H
  clear H
  go_enter Try.func9,Try.ntmps9
  go_upto_region 5 with (first|((with_reducible refine gate_callee (f:=34) rfl ?_);refine goesL_ (some 15) rfl rfl Try.func34 (by kernel_rfl) rfl #[.slice A0 l0.length c0] rfl qm_ ?_;(with_reducible refine (spec_DrawTreeWay.calls k _ _ l0 t526 t527 t530 t533 t536 t537 _ ?side1 ?side2 A3.out).mono ?_);(case side1 => repeat (first|exact HR0.out|(with_reducible refine ca_ ?_ _)|(with_reducible refine cn_ ?_ _)|(with_reducible refine cd_ ?_)));(case side2 => exact HC0.out);rintro e w6 ⟨v528,v531,v534,rfl,ho0,ho1,ho2,hb⟩;refine ⟨_,rfl,?_⟩;have n0_:=mk_ (Kd.R_lower ho0 (bz_ (qb_ HB)));have n1_:=mk_ (Kd.R_lower ho1 (bz_ (qb_ HB)));have n2_:=mk_ (Kd.Q_lower ho2 (bz_ (qb_ HB)));have n3_:=mk_ (st_ (qb_ HB) hb);clear HB;have HO529:=n0_;have HO532:=n1_;have HO535:=n2_;have HB:=n3_;clear n0_ n1_ n2_ n3_;(try clear hb);(try clear hb2);(try clear hk);(try clear hi);(try clear ho0);(try clear ho1);(try clear ho2))|((with_reducible refine gate_dst (N:=3) rfl ?_);(try (refine gate_guard (by rfl) ?_;dsimp only));refine box_event ?hg (N:=3) ?hd (cs:=#[.int .i64 0,.slice none 0 0,.slice none 0 0,.slice none 0 0]) (t:=30) ?hr ?_;(case hd => rfl);(case hg => rfl);(case hr => first|(go_simp;done)|(go_simp;rfl));intro gb538 hg w7 hbox hb;have n0_:=mk_ (rb_ (qr_ HO529) hb);have n1_:=mk_ (rb_ (qr_ HO532) hb);have n2_:=mk_ (Kd.Q_below (by (with_reducible repeat (first|apply Kd.Q_alloc|apply Kd.Q_drewN|apply Kd.Q_drew));exact HO535.out) hb);have n3_:=mk_ (st_ (qb_ HB) hb);have n4_:=mk_ (hbox);have n5_:=mk_ ((by rw [hg];exact (bz_ (qb_ HB)) : w.heap.size ≤ gb538));have n6_:=mk_ ((by rw [hg];exact (bz_ (qb_ HB)) : w.heap.size ≤ gb538));clear HO529;clear HO532;clear HO535;clear HB;have HO529:=n0_;have HO532:=n1_;have HO535:=n2_;have HB:=n3_;have BK538:=n4_;have GW538:=n5_;have GE538:=n6_;clear n0_ n1_ n2_ n3_ n4_ n5_ n6_;clear hb hbox hg;have hcz8_0 : w7.cell? ⟨gb538,0,none⟩ = some (.int .i64 0):=(bc_ BK538.out 0).trans rfl;have hcz8_1 : w7.cell? ⟨gb538,1,none⟩ = some (.slice none 0 0):=(bc_ BK538.out 1).trans rfl;have hcz8_2 : w7.cell? ⟨gb538,2,none⟩ = some (.slice none 0 0):=(bc_ BK538.out 2).trans rfl;have hcz8_3 : w7.cell? ⟨gb538,3,none⟩ = some (.slice none 0 0):=(bc_ BK538.out 3).trans rfl;have hfz8_0:=bf_ BK538.out 0;have hfz8_1:=bf_ BK538.out 1;have hfz8_2:=bf_ BK538.out 2;have hfz8_3:=bf_ BK538.out 3;obtain ⟨Ao9,co9,eo9⟩:=Kd.R_slice HO529.out;subst eo9;obtain ⟨Ao10,co10,eo10⟩:=Kd.R_slice HO532.out;subst eo10;obtain ⟨Ao11,co11,eo11,_⟩:=Kd.Q_slice HO535.out;subst eo11)|((with_reducible refine gate_callee (f:=35) rfl ?_);refine goesL_ (some 22) rfl rfl Try.func35 (by kernel_rfl) rfl #[.agg #[.int .i64 t526,.slice Ao9 t527.length co9,.slice Ao10 t530.length co10,.slice Ao11 t533.length co11],.int .i64 t536,.int .i64 t537] rfl qm_ ?_;(with_reducible refine (impl_TreeWay.calls k t526 _ _ t527 _ _ t530 _ _ t533 t536 t537 t539 _ ?side1 ?side2 ?side3 ?side4 ?side5 ?side6 A4.out).mono ?_);(case side1 => refine (rr_ (e:=51) (base:=w.heap.size) (ok:=fun k_ => True) (n:=t527.length) (c:=co9) ?_).2.2;exact (by (with_reducible repeat (first|apply ra_|apply rn_|apply rd_));exact (rm_ (rf_ (p:=⟨gb538,3,none⟩) (rf_ (p:=⟨gb538,2,none⟩) (rf_ (p:=⟨gb538,1,none⟩) (rf_ (p:=⟨gb538,0,none⟩) (rt_ HO529.out BK538.out (by decide)) (fun _ hk => hk.2) (.int .i64 t526)) (fun _ hk => hk.2) (.slice Ao9 t527.length co9)) (fun _ hk => hk.2) (.slice Ao10 t530.length co10)) (fun _ hk => hk.2) (.slice Ao11 t533.length co11)) (fun _ h_ => h_.1))));(case side2 => exact (rr_ HO529.out).2.1);(case side3 => refine (rr_ (e:=3) (base:=w.heap.size) (ok:=fun k_ => some k_ ≠ (.slice Ao11 t533.length co11 : Value).ownBlock) (n:=t530.length) (c:=co10) ?_).2.2;exact (by (with_reducible repeat (first|apply ra_|apply rn_|apply rd_));exact (rm_ (rf_ (p:=⟨gb538,3,none⟩) (rf_ (p:=⟨gb538,2,none⟩) (rf_ (p:=⟨gb538,1,none⟩) (rf_ (p:=⟨gb538,0,none⟩) (rt_ HO532.out BK538.out (by decide)) (fun _ hk => hk.2) (.int .i64 t526)) (fun _ hk => hk.2) (.slice Ao9 t527.length co9)) (fun _ hk => hk.2) (.slice Ao10 t530.length co10)) (fun _ hk => hk.2) (.slice Ao11 t533.length co11)) (fun _ h_ => h_.1))));(case side4 => exact (rr_ HO532.out).2.1);(case side5 => refine (Kd.Q_reads' (e:=3) (base:=w.heap.size) (ok:=fun k_ => some k_ ≠ (.slice Ao10 t530.length co10 : Value).ownBlock) (n:=t533.length) (c:=co11) ?_).2.2;exact (by (with_reducible repeat (first|apply Kd.Q_alloc|apply Kd.Q_drewN|apply Kd.Q_drew));exact (Kd.Q_mono (Kd.Q_far (p:=⟨gb538,3,none⟩) (Kd.Q_far (p:=⟨gb538,2,none⟩) (Kd.Q_far (p:=⟨gb538,1,none⟩) (Kd.Q_far (p:=⟨gb538,0,none⟩) (Kd.Q_types HO535.out BK538.out (by decide)) (fun _ hk => hk.2) (.int .i64 t526)) (fun _ hk => hk.2) (.slice Ao9 t527.length co9)) (fun _ hk => hk.2) (.slice Ao10 t530.length co10)) (fun _ hk => hk.2) (.slice Ao11 t533.length co11)) (fun _ h_ => h_.1))));(case side6 => exact (Kd.Q_reads' HO535.out).2.1);rintro e w12 ⟨v540,rfl,ho0,hb⟩;refine ⟨_,rfl,?_⟩;have n0_:=mk_ (rb_ (by (with_reducible repeat (first|apply ra_|apply rn_|apply rd_));exact (rm_ (rf_ (p:=⟨gb538,3,none⟩) (rf_ (p:=⟨gb538,2,none⟩) (rf_ (p:=⟨gb538,1,none⟩) (rf_ (p:=⟨gb538,0,none⟩) (rt_ HO529.out BK538.out (by decide)) (fun _ hk => hk.2) (.int .i64 t526)) (fun _ hk => hk.2) (.slice Ao9 t527.length co9)) (fun _ hk => hk.2) (.slice Ao10 t530.length co10)) (fun _ hk => hk.2) (.slice Ao11 t533.length co11)) (fun _ h_ => h_.1))) hb);have n1_:=mk_ (re_ (by (with_reducible repeat (first|apply ra_|apply rn_|apply rd_));exact (rm_ (rf_ (p:=⟨gb538,3,none⟩) (rf_ (p:=⟨gb538,2,none⟩) (rf_ (p:=⟨gb538,1,none⟩) (rf_ (p:=⟨gb538,0,none⟩) (rt_ HO532.out BK538.out (by decide)) (fun _ hk => hk.2) (.int .i64 t526)) (fun _ hk => hk.2) (.slice Ao9 t527.length co9)) (fun _ hk => hk.2) (.slice Ao10 t530.length co10)) (fun _ hk => hk.2) (.slice Ao11 t533.length co11)) (fun _ h_ => h_.1))) (Kd.R_base ho0) hb);have n2_:=mk_ (Kd.Q_elder' (by (with_reducible repeat (first|apply Kd.Q_alloc|apply Kd.Q_drewN|apply Kd.Q_drew));exact (Kd.Q_mono (Kd.Q_far (p:=⟨gb538,3,none⟩) (Kd.Q_far (p:=⟨gb538,2,none⟩) (Kd.Q_far (p:=⟨gb538,1,none⟩) (Kd.Q_far (p:=⟨gb538,0,none⟩) (Kd.Q_types HO535.out BK538.out (by decide)) (fun _ hk => hk.2) (.int .i64 t526)) (fun _ hk => hk.2) (.slice Ao9 t527.length co9)) (fun _ hk => hk.2) (.slice Ao10 t530.length co10)) (fun _ hk => hk.2) (.slice Ao11 t533.length co11)) (fun _ h_ => h_.1))) (Kd.R_base ho0) hb);have n3_:=mk_ (Kd.R_lower (Kd.R_new' (Kd.R_new' ho0 (Kd.R_lt (by (with_reducible repeat (first|apply ra_|apply rn_|apply rd_));exact (rm_ (rf_ (p:=⟨gb538,3,none⟩) (rf_ (p:=⟨gb538,2,none⟩) (rf_ (p:=⟨gb538,1,none⟩) (rf_ (p:=⟨gb538,0,none⟩) (rt_ HO532.out BK538.out (by decide)) (fun _ hk => hk.2) (.int .i64 t526)) (fun _ hk => hk.2) (.slice Ao9 t527.length co9)) (fun _ hk => hk.2) (.slice Ao10 t530.length co10)) (fun _ hk => hk.2) (.slice Ao11 t533.length co11)) (fun _ h_ => h_.1))))) (Kd.Q_lt (by (with_reducible repeat (first|apply Kd.Q_alloc|apply Kd.Q_drewN|apply Kd.Q_drew));exact (Kd.Q_mono (Kd.Q_far (p:=⟨gb538,3,none⟩) (Kd.Q_far (p:=⟨gb538,2,none⟩) (Kd.Q_far (p:=⟨gb538,1,none⟩) (Kd.Q_far (p:=⟨gb538,0,none⟩) (Kd.Q_types HO535.out BK538.out (by decide)) (fun _ hk => hk.2) (.int .i64 t526)) (fun _ hk => hk.2) (.slice Ao9 t527.length co9)) (fun _ hk => hk.2) (.slice Ao10 t530.length co10)) (fun _ hk => hk.2) (.slice Ao11 t533.length co11)) (fun _ h_ => h_.1))))) (bz_ (qc_ HB GE538)));have n4_:=mk_ (blk_below (g:=gb538) (o:=.cells #[.int .i64 t526,.slice Ao9 t527.length co9,.slice Ao10 t530.length co10,.slice Ao11 t533.length co11] 30 (0,0)) (by (with_reducible repeat (first|refine kn_ ?_ _|refine kd_ ?_|refine ka_ ?_ _));refine blk_put (cs:=#[.int .i64 t526,.slice Ao9 t527.length co9,.slice Ao10 t530.length co10,.slice none 0 0]) ?_ 3 _ rfl;(with_reducible repeat (first|refine kn_ ?_ _|refine kd_ ?_|refine ka_ ?_ _));refine blk_put (cs:=#[.int .i64 t526,.slice Ao9 t527.length co9,.slice none 0 0,.slice none 0 0]) ?_ 2 _ rfl;(with_reducible repeat (first|refine kn_ ?_ _|refine kd_ ?_|refine ka_ ?_ _));refine blk_put (cs:=#[.int .i64 t526,.slice none 0 0,.slice none 0 0,.slice none 0 0]) ?_ 1 _ rfl;(with_reducible repeat (first|refine kn_ ?_ _|refine kd_ ?_|refine ka_ ?_ _));refine blk_put (cs:=#[.int .i64 0,.slice none 0 0,.slice none 0 0,.slice none 0 0]) ?_ 0 _ rfl;(with_reducible repeat (first|refine kn_ ?_ _|refine kd_ ?_|refine ka_ ?_ _));exact BK538.out) hb);have n5_:=mk_ (st_ (qc_ HB GE538) hb);clear HO529;clear HO532;clear HO535;clear BK538;clear HB;have HO529:=n0_;have HO532:=n1_;have HO535:=n2_;have HO541:=n3_;have BK538:=n4_;have HB:=n5_;clear n0_ n1_ n2_ n3_ n4_ n5_;(try clear hb);(try clear hb2);(try clear hk);(try clear hi);(try clear ho0)))
  (try simp only [Act.put,sx_,sy_,sz_])
  go_cut [38] (fun v38 wc => ∃ (kq : Nat) (x38_4 : Bool),v38 = .bool x38_4 ∧ Aside0 (laws_FnTreeWay.j0 kq t536 t537 t539 x38_4 t526 t527 t530 t533 = some r) ∧ Aside0 (kq ≤ k) ∧ Aside0 (Kd.R (Kd.int .i64) 3 wc w.heap.size (fun k_ => some k_ ≠ ((.slice Ao10 t530.length co10) : Value).ownBlock ∧ some k_ ≠ ((.slice Ao11 t533.length co11) : Value).ownBlock) v540 t539) ∧ Aside0 (Kd.R k51 51 wc w.heap.size (fun _ => True) (.slice Ao9 t527.length co9) t527) ∧ Aside0 (Kd.R (Kd.int .i64) 3 wc w.heap.size (fun k_ => some k_ ≠ (v540 : Value).ownBlock ∧ some k_ ≠ ((.slice Ao11 t533.length co11) : Value).ownBlock) (.slice Ao10 t530.length co10) t530) ∧ Aside0 (Kd.Q (Kd.int .i64) 3 wc w.heap.size (fun k_ => some k_ ≠ (v540 : Value).ownBlock ∧ some k_ ≠ ((.slice Ao10 t530.length co10) : Value).ownBlock) (.slice Ao11 t533.length co11) t533) ∧ Aside0 (wc.heap[gb538]? = some (.cells #[.int .i64 t526,(.slice Ao9 t527.length co9),(.slice Ao10 t530.length co10),(.slice Ao11 t533.length co11)] 30 (0,0))) ∧ Aside0 (Below w.heap.size w wc))
  case first =>
   have H:=HC5.out
   clear HC5
   replace H:=Option.bind_eq_some_iff.mp H
   obtain ⟨t542,A130,H⟩:=H
   replace H : ((laws_wnInts.f k t539 t542).bind fun t545 => (if t545 = true then ((impl_TreeWay.f k t526 t527 t530 t533 t537 t536).bind fun t546 => ((laws_wnInts.f k t539 t546).bind fun t549 => (laws_FnTreeWay.j0 k t536 t537 t539 (!t549) t526 t527 t530 t533))) else (laws_FnTreeWay.j0 k t536 t537 t539 true t526 t527 t530 t533))) = some r:=H
   have A13:=mk_ A130
   clear A130
   replace H:=Option.bind_eq_some_iff.mp H
   obtain ⟨t545,A140,H⟩:=H
   replace H : (if t545 = true then ((impl_TreeWay.f k t526 t527 t530 t533 t537 t536).bind fun t546 => ((laws_wnInts.f k t539 t546).bind fun t549 => (laws_FnTreeWay.j0 k t536 t537 t539 (!t549) t526 t527 t530 t533))) else (laws_FnTreeWay.j0 k t536 t537 t539 true t526 t527 t530 t533)) = some r:=H
   have A14:=mk_ A140
   clear A140
   by_cases c15 : t545 = true
   ·subst c15
    have H1 : ((impl_TreeWay.f k t526 t527 t530 t533 t537 t536).bind fun t546 => ((laws_wnInts.f k t539 t546).bind fun t549 => (laws_FnTreeWay.j0 k t536 t537 t539 (!t549) t526 t527 t530 t533))) = some r:=by rw [if_pos rfl] at H;exact H
    clear H
    have H:=H1
    clear H1
    replace H:=Option.bind_eq_some_iff.mp H
    obtain ⟨t546,A160,H⟩:=H
    replace H : ((laws_wnInts.f k t539 t546).bind fun t549 => (laws_FnTreeWay.j0 k t536 t537 t539 (!t549) t526 t527 t530 t533)) = some r:=H
    have A16:=mk_ A160
    clear A160
    replace H:=Option.bind_eq_some_iff.mp H
    obtain ⟨t549,A170,H⟩:=H
    replace H : (laws_FnTreeWay.j0 k t536 t537 t539 (!t549) t526 t527 t530 t533) = some r:=H
    have A17:=mk_ A170
    clear A170
    have H':=mk_ H
    clear H
    have hcz18_0 : w12.cell? ⟨gb538,0,none⟩ = some (.int .i64 t526):=(bc_ BK538.out 0).trans rfl
    have hcz18_1 : w12.cell? ⟨gb538,1,none⟩ = some (.slice Ao9 t527.length co9):=(bc_ BK538.out 1).trans rfl
    have hcz18_2 : w12.cell? ⟨gb538,2,none⟩ = some (.slice Ao10 t530.length co10):=(bc_ BK538.out 2).trans rfl
    have hcz18_3 : w12.cell? ⟨gb538,3,none⟩ = some (.slice Ao11 t533.length co11):=(bc_ BK538.out 3).trans rfl
    have hfz18_0:=bf_ BK538.out 0
    have hfz18_1:=bf_ BK538.out 1
    have hfz18_2:=bf_ BK538.out 2
    have hfz18_3:=bf_ BK538.out 3
    go_wp2_with (first|((with_reducible refine gate_callee (f:=36) rfl ?_);refine goesL_ (some 27) rfl rfl Try.func36 (by kernel_rfl) rfl #[.agg #[.int .i64 t526,.slice Ao9 t527.length co9,.slice Ao10 t530.length co10,.slice Ao11 t533.length co11],.int .i64 t536,.int .i64 t537] rfl qm_ ?_;(with_reducible refine (spec_TreeWay.calls k t526 _ _ t527 _ _ t530 _ _ t533 t536 t537 t542 _ ?side1 ?side2 ?side3 ?side4 ?side5 ?side6 A13.out).mono ?_);(case side1 => repeat (first|exact (rr_ HO529.out).2.2|(with_reducible refine ca_ ?_ _)|(with_reducible refine cn_ ?_ _)|(with_reducible refine cd_ ?_)));(case side2 => exact (rr_ HO529.out).2.1);(case side3 => repeat (first|exact (rr_ HO532.out).2.2|(with_reducible refine ca_ ?_ _)|(with_reducible refine cn_ ?_ _)|(with_reducible refine cd_ ?_)));(case side4 => exact (rr_ HO532.out).2.1);(case side5 => repeat (first|exact (Kd.Q_reads' HO535.out).2.2|(with_reducible refine ca_ ?_ _)|(with_reducible refine cn_ ?_ _)|(with_reducible refine cd_ ?_)));(case side6 => exact (Kd.Q_reads' HO535.out).2.1);rintro e w19 ⟨v543,rfl,ho0,hb⟩;refine ⟨_,rfl,?_⟩;have n0_:=mk_ (rb_ (qr_ HO529) hb);have n1_:=mk_ (re_ (qr_ HO532) (Kd.R_base ho0) hb);have n2_:=mk_ (Kd.Q_elder' (by (with_reducible repeat (first|apply Kd.Q_alloc|apply Kd.Q_drewN|apply Kd.Q_drew));exact HO535.out) (Kd.R_base ho0) hb);have n3_:=mk_ (re_ (qr_ HO541) (Kd.R_base ho0) hb);have n4_:=mk_ (Kd.R_lower (Kd.R_new' (Kd.R_new' (Kd.R_new' ho0 (Kd.R_lt (qr_ HO532))) (Kd.Q_lt (by (with_reducible repeat (first|apply Kd.Q_alloc|apply Kd.Q_drewN|apply Kd.Q_drew));exact HO535.out))) (Kd.R_lt (qr_ HO541))) (bz_ (qc_ HB GE538)));have n5_:=mk_ (blk_below (g:=gb538) (o:=.cells #[.int .i64 t526,.slice Ao9 t527.length co9,.slice Ao10 t530.length co10,.slice Ao11 t533.length co11] 30 (0,0)) (qk_ BK538) hb);have n6_:=mk_ (st_ (qc_ HB GE538) hb);clear HO529;clear HO532;clear HO535;clear HO541;clear BK538;clear HB;have HO529:=n0_;have HO532:=n1_;have HO535:=n2_;have HO541:=n3_;have HO544:=n4_;have BK538:=n5_;have HB:=n6_;clear n0_ n1_ n2_ n3_ n4_ n5_ n6_;(try clear hb);(try clear hb2);(try clear hk);(try clear hi);(try clear ho0);obtain ⟨Ao20,co20,eo20⟩:=Kd.R_slice HO541.out;subst eo20;obtain ⟨Ao21,co21,eo21⟩:=Kd.R_slice HO544.out;subst eo21)|((with_reducible refine gate_callee (f:=19) rfl ?_);refine goesL_ (some 28) rfl rfl Try.func19 (by kernel_rfl) rfl #[.slice Ao20 t539.length co20,.slice Ao21 t542.length co21] rfl qm_ ?_;(with_reducible refine (laws_wnInts.calls k _ _ t539 _ _ t542 true _ ?side1 ?side2 ?side3 ?side4 A14.out).mono ?_);(case side1 => repeat (first|exact (rr_ HO541.out).2.2|(with_reducible refine ca_ ?_ _)|(with_reducible refine cn_ ?_ _)|(with_reducible refine cd_ ?_)));(case side2 => exact (rr_ HO541.out).2.1);(case side3 => repeat (first|exact (rr_ HO544.out).2.2|(with_reducible refine ca_ ?_ _)|(with_reducible refine cn_ ?_ _)|(with_reducible refine cd_ ?_)));(case side4 => exact (rr_ HO544.out).2.1);rintro e w' ⟨rfl,⟨nd,rfl⟩⟩;refine ⟨_,rfl,?_⟩;have hcz22_0 : w19.cell? ⟨gb538,0,none⟩ = some (.int .i64 t526):=(bc_ BK538.out 0).trans rfl;have hcz22_1 : w19.cell? ⟨gb538,1,none⟩ = some (.slice Ao9 t527.length co9):=(bc_ BK538.out 1).trans rfl;have hcz22_2 : w19.cell? ⟨gb538,2,none⟩ = some (.slice Ao10 t530.length co10):=(bc_ BK538.out 2).trans rfl;have hcz22_3 : w19.cell? ⟨gb538,3,none⟩ = some (.slice Ao11 t533.length co11):=(bc_ BK538.out 3).trans rfl;have hfz22_0:=bf_ BK538.out 0;have hfz22_1:=bf_ BK538.out 1;have hfz22_2:=bf_ BK538.out 2;have hfz22_3:=bf_ BK538.out 3)|(go_at_call 35;(with_reducible refine (impl_TreeWay.calls k t526 _ _ t527 _ _ t530 _ _ t533 t537 t536 t546 _ ?side1 ?side2 ?side3 ?side4 ?side5 ?side6 A16.out).mono ?_);(case side1 => repeat (first|exact (rr_ HO529.out).2.2|(with_reducible refine ca_ ?_ _)|(with_reducible refine cn_ ?_ _)|(with_reducible refine cd_ ?_)));(case side2 => exact (rr_ HO529.out).2.1);(case side3 => repeat (first|exact (rr_ HO532.out).2.2|(with_reducible refine ca_ ?_ _)|(with_reducible refine cn_ ?_ _)|(with_reducible refine cd_ ?_)));(case side4 => exact (rr_ HO532.out).2.1);(case side5 => repeat (first|exact (Kd.Q_reads' HO535.out).2.2|(with_reducible refine ca_ ?_ _)|(with_reducible refine cn_ ?_ _)|(with_reducible refine cd_ ?_)));(case side6 => exact (Kd.Q_reads' HO535.out).2.1);rintro e w23 ⟨v547,rfl,ho0,hb⟩;have n0_:=mk_ (rb_ (qr_ HO529) hb);have n1_:=mk_ (re_ (qr_ HO532) (Kd.R_base ho0) hb);have n2_:=mk_ (Kd.Q_elder' (by (with_reducible repeat (first|apply Kd.Q_alloc|apply Kd.Q_drewN|apply Kd.Q_drew));exact HO535.out) (Kd.R_base ho0) hb);have n3_:=mk_ (re_ (qr_ HO541) (Kd.R_base ho0) hb);have n4_:=mk_ (re_ (qr_ HO544) (Kd.R_base ho0) hb);have n5_:=mk_ (Kd.R_lower (Kd.R_new' (Kd.R_new' (Kd.R_new' (Kd.R_new' ho0 (Kd.R_lt (qr_ HO532))) (Kd.Q_lt (by (with_reducible repeat (first|apply Kd.Q_alloc|apply Kd.Q_drewN|apply Kd.Q_drew));exact HO535.out))) (Kd.R_lt (qr_ HO541))) (Kd.R_lt (qr_ HO544))) (bz_ (qc_ HB GE538)));have n6_:=mk_ (blk_below (g:=gb538) (o:=.cells #[.int .i64 t526,.slice Ao9 t527.length co9,.slice Ao10 t530.length co10,.slice Ao11 t533.length co11] 30 (0,0)) (qk_ BK538) hb);have n7_:=mk_ (st_ (qc_ HB GE538) hb);clear HO529;clear HO532;clear HO535;clear HO541;clear HO544;clear BK538;clear HB;have HO529:=n0_;have HO532:=n1_;have HO535:=n2_;have HO541:=n3_;have HO544:=n4_;have HO548:=n5_;have BK538:=n6_;have HB:=n7_;clear n0_ n1_ n2_ n3_ n4_ n5_ n6_ n7_;(try clear hb);(try clear hb2);(try clear hk);(try clear hi);(try clear ho0);obtain ⟨Ao24,co24,eo24⟩:=Kd.R_slice HO548.out;subst eo24)|(go_at_call 19;(with_reducible refine (laws_wnInts.calls k _ _ t539 _ _ t546 t549 _ ?side1 ?side2 ?side3 ?side4 A17.out).mono ?_);(case side1 => repeat (first|exact (rr_ HO541.out).2.2|(with_reducible refine ca_ ?_ _)|(with_reducible refine cn_ ?_ _)|(with_reducible refine cd_ ?_)));(case side2 => exact (rr_ HO541.out).2.1);(case side3 => repeat (first|exact (rr_ HO548.out).2.2|(with_reducible refine ca_ ?_ _)|(with_reducible refine cn_ ?_ _)|(with_reducible refine cd_ ?_)));(case side4 => exact (rr_ HO548.out).2.1);rintro e w' ⟨rfl,⟨nd,rfl⟩⟩))
    go_meet
    case rel => exact ⟨_,(!t549),qf_,H',⟨by first|omega|exact Nat.le_refl _⟩,⟨by (with_reducible repeat (first|apply ra_|apply rn_|apply rd_));exact rm_ HO541.out (fun _ hk => ⟨hk.1.1.1.2,hk.1.1.2⟩)⟩,⟨qr_ HO529⟩,⟨by (with_reducible repeat (first|apply ra_|apply rn_|apply rd_));exact rm_ HO532.out (fun _ hk => ⟨hk.1.1.2,hk.1.1.1⟩)⟩,⟨by (with_reducible repeat (first|apply Kd.Q_alloc|apply Kd.Q_drewN|apply Kd.Q_drew));exact Kd.Q_mono HO535.out (fun _ hk => ⟨hk.1.1.2,hk.1.1.1⟩)⟩,⟨qk_ BK538⟩,⟨u1_ HB GE538⟩⟩
   ·replace c15:=Bool.eq_false_iff.mpr c15
    subst c15
    have H1 : (laws_FnTreeWay.j0 k t536 t537 t539 true t526 t527 t530 t533) = some r:=by rw [if_neg (show ¬ (false = true) by decide)] at H;exact H
    clear H
    have H:=H1
    clear H1
    have H':=mk_ H
    clear H
    have hcz25_0 : w12.cell? ⟨gb538,0,none⟩ = some (.int .i64 t526):=(bc_ BK538.out 0).trans rfl
    have hcz25_1 : w12.cell? ⟨gb538,1,none⟩ = some (.slice Ao9 t527.length co9):=(bc_ BK538.out 1).trans rfl
    have hcz25_2 : w12.cell? ⟨gb538,2,none⟩ = some (.slice Ao10 t530.length co10):=(bc_ BK538.out 2).trans rfl
    have hcz25_3 : w12.cell? ⟨gb538,3,none⟩ = some (.slice Ao11 t533.length co11):=(bc_ BK538.out 3).trans rfl
    have hfz25_0:=bf_ BK538.out 0
    have hfz25_1:=bf_ BK538.out 1
    have hfz25_2:=bf_ BK538.out 2
    have hfz25_3:=bf_ BK538.out 3
    go_wp2_with (first|((with_reducible refine gate_callee (f:=36) rfl ?_);refine goesL_ (some 27) rfl rfl Try.func36 (by kernel_rfl) rfl #[.agg #[.int .i64 t526,.slice Ao9 t527.length co9,.slice Ao10 t530.length co10,.slice Ao11 t533.length co11],.int .i64 t536,.int .i64 t537] rfl qm_ ?_;(with_reducible refine (spec_TreeWay.calls k t526 _ _ t527 _ _ t530 _ _ t533 t536 t537 t542 _ ?side1 ?side2 ?side3 ?side4 ?side5 ?side6 A13.out).mono ?_);(case side1 => repeat (first|exact (rr_ HO529.out).2.2|(with_reducible refine ca_ ?_ _)|(with_reducible refine cn_ ?_ _)|(with_reducible refine cd_ ?_)));(case side2 => exact (rr_ HO529.out).2.1);(case side3 => repeat (first|exact (rr_ HO532.out).2.2|(with_reducible refine ca_ ?_ _)|(with_reducible refine cn_ ?_ _)|(with_reducible refine cd_ ?_)));(case side4 => exact (rr_ HO532.out).2.1);(case side5 => repeat (first|exact (Kd.Q_reads' HO535.out).2.2|(with_reducible refine ca_ ?_ _)|(with_reducible refine cn_ ?_ _)|(with_reducible refine cd_ ?_)));(case side6 => exact (Kd.Q_reads' HO535.out).2.1);rintro e w26 ⟨v543,rfl,ho0,hb⟩;refine ⟨_,rfl,?_⟩;have n0_:=mk_ (rb_ (qr_ HO529) hb);have n1_:=mk_ (re_ (qr_ HO532) (Kd.R_base ho0) hb);have n2_:=mk_ (Kd.Q_elder' (by (with_reducible repeat (first|apply Kd.Q_alloc|apply Kd.Q_drewN|apply Kd.Q_drew));exact HO535.out) (Kd.R_base ho0) hb);have n3_:=mk_ (re_ (qr_ HO541) (Kd.R_base ho0) hb);have n4_:=mk_ (Kd.R_lower (Kd.R_new' (Kd.R_new' (Kd.R_new' ho0 (Kd.R_lt (qr_ HO532))) (Kd.Q_lt (by (with_reducible repeat (first|apply Kd.Q_alloc|apply Kd.Q_drewN|apply Kd.Q_drew));exact HO535.out))) (Kd.R_lt (qr_ HO541))) (bz_ (qc_ HB GE538)));have n5_:=mk_ (blk_below (g:=gb538) (o:=.cells #[.int .i64 t526,.slice Ao9 t527.length co9,.slice Ao10 t530.length co10,.slice Ao11 t533.length co11] 30 (0,0)) (qk_ BK538) hb);have n6_:=mk_ (st_ (qc_ HB GE538) hb);clear HO529;clear HO532;clear HO535;clear HO541;clear BK538;clear HB;have HO529:=n0_;have HO532:=n1_;have HO535:=n2_;have HO541:=n3_;have HO544:=n4_;have BK538:=n5_;have HB:=n6_;clear n0_ n1_ n2_ n3_ n4_ n5_ n6_;(try clear hb);(try clear hb2);(try clear hk);(try clear hi);(try clear ho0);obtain ⟨Ao27,co27,eo27⟩:=Kd.R_slice HO541.out;subst eo27;obtain ⟨Ao28,co28,eo28⟩:=Kd.R_slice HO544.out;subst eo28)|((with_reducible refine gate_callee (f:=19) rfl ?_);refine goesL_ (some 28) rfl rfl Try.func19 (by kernel_rfl) rfl #[.slice Ao27 t539.length co27,.slice Ao28 t542.length co28] rfl qm_ ?_;(with_reducible refine (laws_wnInts.calls k _ _ t539 _ _ t542 false _ ?side1 ?side2 ?side3 ?side4 A14.out).mono ?_);(case side1 => repeat (first|exact (rr_ HO541.out).2.2|(with_reducible refine ca_ ?_ _)|(with_reducible refine cn_ ?_ _)|(with_reducible refine cd_ ?_)));(case side2 => exact (rr_ HO541.out).2.1);(case side3 => repeat (first|exact (rr_ HO544.out).2.2|(with_reducible refine ca_ ?_ _)|(with_reducible refine cn_ ?_ _)|(with_reducible refine cd_ ?_)));(case side4 => exact (rr_ HO544.out).2.1);rintro e w' ⟨rfl,⟨nd,rfl⟩⟩;refine ⟨_,rfl,?_⟩))
    go_meet
    case rel => exact ⟨_,(true),qf_,H',⟨by first|omega|exact Nat.le_refl _⟩,⟨by (with_reducible repeat (first|apply ra_|apply rn_|apply rd_));exact rm_ HO541.out (fun _ hk => ⟨hk.1.1.2,hk.1.2⟩)⟩,⟨qr_ HO529⟩,⟨by (with_reducible repeat (first|apply ra_|apply rn_|apply rd_));exact rm_ HO532.out (fun _ hk => ⟨hk.1.2,hk.1.1⟩)⟩,⟨by (with_reducible repeat (first|apply Kd.Q_alloc|apply Kd.Q_drewN|apply Kd.Q_drew));exact Kd.Q_mono HO535.out (fun _ hk => ⟨hk.1.2,hk.1.1⟩)⟩,⟨qk_ BK538⟩,⟨u1_ HB GE538⟩⟩
  case rest =>
   clear HC5
   try clear c1
   try clear c2
   try clear c2b0
   try clear c2b1
   try clear p2
   try clear c3
   try clear c9
   try clear c15
   try clear c19
   try clear hcz18_0
   try clear hcz18_1
   try clear hcz18_2
   try clear hcz18_3
   try clear hcz22_0
   try clear hcz22_1
   try clear hcz22_2
   try clear hcz22_3
   try clear hcz25_0
   try clear hcz25_1
   try clear hcz25_2
   try clear hcz25_3
   try clear hcz8_0
   try clear hcz8_1
   try clear hcz8_2
   try clear hcz8_3
   try clear hfz18_0
   try clear hfz18_1
   try clear hfz18_2
   try clear hfz18_3
   try clear hfz22_0
   try clear hfz22_1
   try clear hfz22_2
   try clear hfz22_3
   try clear hfz25_0
   try clear hfz25_1
   try clear hfz25_2
   try clear hfz25_3
   try clear hfz8_0
   try clear hfz8_1
   try clear hfz8_2
   try clear hfz8_3
   obtain ⟨kq,x38_4,rfl,HA,HJ4,HO_6,HO_539001,HO_539002,HO_539003,BK538,HB⟩:=hcut
   cases kq with
   | zero => exact absurd HA.out (by simp [laws_FnTreeWay.j0])
   | succ kj4 =>
    have H:=HA.out
    clear HA
    simp only [laws_FnTreeWay.j0] at H
    by_cases c29 : x38_4 = true
    ·subst c29
     have H1 : (some false) = some r:=by rw [if_pos rfl] at H;exact H
     clear H
     have H:=H1
     clear H1
     obtain rfl:=Option.some.inj H
     go_wp2
     go_ret
     exact ⟨qe_,u1_ HB GE538⟩
    ·replace c29:=Bool.eq_false_iff.mpr c29
     subst c29
     have H1 : (if (t539.length : Int) = 0 then (some true) else (laws_FnTreeWay.l0 kj4 t536 t537 t539 (([] : List (S51))) t539 (t539.length : Int) 0 t526 t527 t530 t533)) = some r:=by rw [if_neg (show ¬ (false = true) by decide)] at H;exact H
     clear H
     have H:=H1
     clear H1
     by_cases c30 : (t539.length : Int) = 0
     ·rw [if_pos c30] at H
      have c30b0 : ((t539.length : Int) == 0) = true:=beq_iff_eq.mpr c30
      have c30b1 : ((t539.length : Int) != 0) = false:=bne_eq_false_iff_eq.mpr c30
      clear c30
      obtain rfl:=Option.some.inj H
      obtain ⟨Ao31,co31,eo31⟩:=Kd.R_slice HO_6.out
      subst eo31
      go_wp2
      go_ret
      exact ⟨qe_,u1_ HB GE538⟩
     ·rw [if_neg c30] at H
      have c30b0 : ((t539.length : Int) == 0) = false:=beq_eq_false_iff_ne.mpr c30
      have c30b1 : ((t539.length : Int) != 0) = true:=bne_iff_ne.mpr c30
      have c30b2 : ¬ (t539 = []):=fun h_ => c30 (by rw [h_];rfl)
      obtain ⟨y550,hy550⟩ : ∃ y_ : List (S51),y_ = (([] : List (S51))):=⟨_,rfl⟩
      replace H : (laws_FnTreeWay.l0 kj4 t536 t537 t539 y550 t539 (t539.length : Int) 0 t526 t527 t530 t533) = some r:=by first|(rw [hy550];with_reducible exact H)|(have H2_:=(Option.bind_some _ _).symm.trans H;rw [hy550];with_reducible exact H2_)|(have H2_:=(Option.bind_some _ _).symm.trans H;with_reducible exact H2_)|with_reducible exact H|(rw [hy550];exact H)|exact H
      have Ny550:=mk_ hy550
      clear hy550
      have H':=mk_ H
      clear H
      obtain ⟨Ao32,co32,eo32⟩:=Kd.R_slice HO_6.out
      subst eo32
      go_wp2_with (first|((with_reducible refine gate_dst (N:=42) rfl ?_);(try (refine gate_guard (by rfl) ?_;dsimp only));refine Kd.R_lit k51 _ 51 ?hg (N:=42) ?hd (xs:=([] : List (S51))) (inner:=[]) (ok:=fun _ => True) (okp:=fun _ => True) ?hr ?hp (fun _ hk => hk) trivial (Below.refl _ _) (Nat.le_refl _) (by simp) ?_;(case hd => rfl);(case hg => rfl);(case hr => first|(go_simp;done)|(go_simp;rfl));(case hp => exact (Reps.none _ _));intro v551 w33 ho34 hb hg_ hnew_;clear hg_ hnew_;(first|rw [← Ny550.out] at ho34|(simp only [Int.reduceToNat] at ho34;rw [← Ny550.out] at ho34));have n0_:=mk_ (rb_ (qr_ HO_6) hb);have n1_:=mk_ (re_ (qr_ HO_539001) (Kd.R_base ho34) hb);have n2_:=mk_ (rb_ (qr_ HO_539002) hb);have n3_:=mk_ (Kd.Q_below (by (with_reducible repeat (first|apply Kd.Q_alloc|apply Kd.Q_drewN|apply Kd.Q_drew));exact HO_539003.out) hb);have n4_:=mk_ (Kd.R_lower (Kd.R_new' ho34 (Kd.R_lt (qr_ HO_539001))) (bz_ (qc_ HB GE538)));have n5_:=mk_ (blk_below (g:=gb538) (o:=.cells #[.int .i64 t526,.slice Ao9 t527.length co9,.slice Ao10 t530.length co10,.slice Ao11 t533.length co11] 30 (0,0)) (qk_ BK538) hb);have n6_:=mk_ (st_ (qc_ HB GE538) hb);clear HO_6;clear HO_539001;clear HO_539002;clear HO_539003;clear BK538;clear HB;have HO_6:=n0_;have HO_539001:=n1_;have HO_539002:=n2_;have HO_539003:=n3_;have HO552:=n4_;have BK538:=n5_;have HB:=n6_;clear n0_ n1_ n2_ n3_ n4_ n5_ n6_;clear hb ho34))
      go_loopg [7,45] kj4 (fun kq v7 v45 w' => ∃ (x7_2 : List (S51)) (x45_2 : Int),v45 = .int .i64 x45_2 ∧ Aside0 (laws_FnTreeWay.l0 kq t536 t537 t539 x7_2 t539 (t539.length : Int) x45_2 t526 t527 t530 t533 = some r) ∧ Aside0 (kq ≤ kj4) ∧ Aside0 (Kd.R (Kd.int .i64) 3 w' w.heap.size (fun k_ => some k_ ≠ ((.slice Ao10 t530.length co10) : Value).ownBlock ∧ some k_ ≠ ((.slice Ao11 t533.length co11) : Value).ownBlock) (.slice Ao32 t539.length co32) t539) ∧ Aside0 (Kd.R k51 51 w' w.heap.size (fun k_ => some k_ ≠ ((.slice Ao9 t527.length co9) : Value).ownBlock) v7 x7_2) ∧ Aside0 (Kd.R (Kd.int .i64) 3 w' w.heap.size (fun k_ => some k_ ≠ ((.slice Ao10 t530.length co10) : Value).ownBlock ∧ some k_ ≠ ((.slice Ao11 t533.length co11) : Value).ownBlock) (.slice Ao32 t539.length co32) t539) ∧ Aside0 (Kd.R k51 51 w' w.heap.size (fun k_ => some k_ ≠ (v7 : Value).ownBlock) (.slice Ao9 t527.length co9) t527) ∧ Aside0 (Kd.R (Kd.int .i64) 3 w' w.heap.size (fun k_ => some k_ ≠ ((.slice Ao32 t539.length co32) : Value).ownBlock ∧ some k_ ≠ ((.slice Ao32 t539.length co32) : Value).ownBlock ∧ some k_ ≠ ((.slice Ao11 t533.length co11) : Value).ownBlock) (.slice Ao10 t530.length co10) t530) ∧ Aside0 (Kd.Q (Kd.int .i64) 3 w' w.heap.size (fun k_ => some k_ ≠ ((.slice Ao32 t539.length co32) : Value).ownBlock ∧ some k_ ≠ ((.slice Ao32 t539.length co32) : Value).ownBlock ∧ some k_ ≠ ((.slice Ao10 t530.length co10) : Value).ownBlock) (.slice Ao11 t533.length co11) t533) ∧ Aside0 (w'.heap[gb538]? = some (.cells #[.int .i64 t526,(.slice Ao9 t527.length co9),(.slice Ao10 t530.length co10),(.slice Ao11 t533.length co11)] 30 (0,0))) ∧ Aside0 (Below w.heap.size w w'))
      case atStart => exact ⟨(y550),(0),qf_,H',⟨Nat.le_refl _⟩,⟨qr_ HO_6⟩,⟨by (with_reducible repeat (first|apply ra_|apply rn_|apply rd_));exact rm_ HO552.out (fun _ hk => hk.2)⟩,⟨qr_ HO_6⟩,⟨by (with_reducible repeat (first|apply ra_|apply rn_|apply rd_));exact rm_ HO_539001.out (fun _ hk => hk.2)⟩,⟨by (with_reducible repeat (first|apply ra_|apply rn_|apply rd_));exact rm_ HO_539002.out (fun _ hk => ⟨hk.1,⟨hk.1,hk.2⟩⟩)⟩,⟨by (with_reducible repeat (first|apply Kd.Q_alloc|apply Kd.Q_drewN|apply Kd.Q_drew));exact Kd.Q_mono HO_539003.out (fun _ hk => ⟨hk.1,⟨hk.1,hk.2⟩⟩)⟩,⟨qk_ BK538⟩,⟨u1_ HB GE538⟩⟩
      case round =>
       clear H'
       try clear c1
       try clear c2
       try clear c2b0
       try clear c2b1
       try clear p2
       try clear c3
       try clear c9
       try clear c15
       try clear c19
       try clear c29
       try clear c30
       try clear c30b0
       try clear c30b1
       try clear c30b2
       try clear c34
       try clear hcz18_0
       try clear hcz18_1
       try clear hcz18_2
       try clear hcz18_3
       try clear hcz22_0
       try clear hcz22_1
       try clear hcz22_2
       try clear hcz22_3
       try clear hcz25_0
       try clear hcz25_1
       try clear hcz25_2
       try clear hcz25_3
       try clear hcz8_0
       try clear hcz8_1
       try clear hcz8_2
       try clear hcz8_3
       try clear hfz18_0
       try clear hfz18_1
       try clear hfz18_2
       try clear hfz18_3
       try clear hfz22_0
       try clear hfz22_1
       try clear hfz22_2
       try clear hfz22_3
       try clear hfz25_0
       try clear hfz25_1
       try clear hfz25_2
       try clear hfz25_3
       try clear hfz8_0
       try clear hfz8_1
       try clear hfz8_2
       try clear hfz8_3
       try clear p2
       obtain ⟨x7_2,x45_2,rfl,HA,HK2,HO_6,HO_7,HO_43,HO_539001,HO_539002,HO_539003,BK538,HB⟩:=hrel
       cases gk with
       | zero => exact absurd HA.out (by simp [laws_FnTreeWay.l0])
       | succ k2 =>
        have H:=HA.out
        clear HA
        simp only [laws_FnTreeWay.l0] at H
        by_cases c35 : x45_2 < (t539.length : Int)
        ·rw [if_pos c35] at H
         have c35b0 : decide (x45_2 < (t539.length : Int)) = true:=decide_eq_true c35
         clear c35
         by_cases c36 : 0 ≤ x45_2
         ·rw [if_pos c36] at H
          have c36b0 : decide (0 ≤ x45_2) = true:=decide_eq_true c36
          clear c36
          by_cases c37 : x45_2 < (t539.length : Int)
          ·rw [if_pos c37] at H
           have c37b0 : decide (x45_2 < (t539.length : Int)) = true:=decide_eq_true c37
           clear c37
           by_cases c38 : 0 ≤ (rd t539 x45_2)
           ·rw [if_pos c38] at H
            have c38b0 : decide (0 ≤ (rd t539 x45_2)) = true:=decide_eq_true c38
            clear c38
            by_cases c39 : (rd t539 x45_2) < (t527.length : Int)
            ·rw [if_pos c39] at H
             have c39b0 : decide ((rd t539 x45_2) < (t527.length : Int)) = true:=decide_eq_true c39
             clear c39
             by_cases c40 : x7_2.length < 5864062014805
             ·rw [if_pos c40] at H
              have LMc40:=mk_ c40
              clear c40
              obtain ⟨y559,hy559⟩ : ∃ y_ : List (S51),y_ = (x7_2 ++ [(⟨(rd_T51 t527 (rd t539 x45_2)).f0,(rd_T51 t527 (rd t539 x45_2)).f1,(rd_T51 t527 (rd t539 x45_2)).f2⟩ : S51)]):=⟨_,rfl⟩
              replace H : ((impl_FloodOver.f k2 t526 t527 t530 t533 t536).bind fun t562 => ((laws_wnHas.f k2 t562 (rd t539 x45_2)).bind fun t565 => (if t565 = true then (laws_FnTreeWay.l0 k2 t536 t537 t539 y559 t539 (t539.length : Int) (wrap64 (x45_2 + 1)) t526 t527 t530 t533) else (some false)))) = some r:=by first|(rw [hy559];with_reducible exact H)|(have H2_:=(Option.bind_some _ _).symm.trans H;rw [hy559];with_reducible exact H2_)|(have H2_:=(Option.bind_some _ _).symm.trans H;with_reducible exact H2_)|with_reducible exact H|(rw [hy559];exact H)|exact H
              have Ny559:=mk_ hy559
              clear hy559
              replace H:=Option.bind_eq_some_iff.mp H
              obtain ⟨t562,A410,H⟩:=H
              replace H : ((laws_wnHas.f k2 t562 (rd t539 x45_2)).bind fun t565 => (if t565 = true then (laws_FnTreeWay.l0 k2 t536 t537 t539 y559 t539 (t539.length : Int) (wrap64 (x45_2 + 1)) t526 t527 t530 t533) else (some false))) = some r:=H
              have A41:=mk_ A410
              clear A410
              replace H:=Option.bind_eq_some_iff.mp H
              obtain ⟨t565,A420,H⟩:=H
              replace H : (if t565 = true then (laws_FnTreeWay.l0 k2 t536 t537 t539 y559 t539 (t539.length : Int) (wrap64 (x45_2 + 1)) t526 t527 t530 t533) else (some false)) = some r:=H
              have A42:=mk_ A420
              clear A420
              by_cases c43 : t565 = true
              ·subst c43
               have H1 : (laws_FnTreeWay.l0 k2 t536 t537 t539 y559 t539 (t539.length : Int) (wrap64 (x45_2 + 1)) t526 t527 t530 t533) = some r:=by rw [if_pos rfl] at H;exact H
               clear H
               have H:=H1
               clear H1
               have H':=mk_ H
               clear H
               have p557 : 0 ≤ (x45_2 : Int):=od_ qa_
               have q557 : x45_2 < (t539.length : Int):=od_ qa_
               obtain ⟨ad557,e557,hx557_0⟩:=Kd.at_int (rr_ HO_43.out).2.2 x45_2 p557 q557
               cases e557
               replace p557:=eq_true p557
               replace q557:=eq_true q557
               have hcz44_0 : wr.cell? ⟨gb538,0,none⟩ = some (.int .i64 t526):=(bc_ BK538.out 0).trans rfl
               have hcz44_1 : wr.cell? ⟨gb538,1,none⟩ = some (.slice Ao9 t527.length co9):=(bc_ BK538.out 1).trans rfl
               have hcz44_2 : wr.cell? ⟨gb538,2,none⟩ = some (.slice Ao10 t530.length co10):=(bc_ BK538.out 2).trans rfl
               have hcz44_3 : wr.cell? ⟨gb538,3,none⟩ = some (.slice Ao11 t533.length co11):=(bc_ BK538.out 3).trans rfl
               have hfz44_0:=bf_ BK538.out 0
               have hfz44_1:=bf_ BK538.out 1
               have hfz44_2:=bf_ BK538.out 2
               have hfz44_3:=bf_ BK538.out 3
               have p558 : 0 ≤ ((rd t539 x45_2) : Int):=od_ qa_
               have q558 : (rd t539 x45_2) < (t527.length : Int):=od_ qa_
               obtain ⟨ad558,e558,hx558_0,hx558_1,hx558_2⟩:=at_T51 (rr_ HO_539001.out).2.2 (rd t539 x45_2) p558 q558
               cases e558
               replace p558:=eq_true p558
               replace q558:=eq_true q558
               go_wp2_with (first|((with_reducible refine gate_builtin (b:=.append) (xs:=#[.tmp 49,.tmp 55]) rfl ?_);(try (refine gate_guard (by rfl) ?_;dsimp only));at_builtin;refine Kd.R_append k51 (w0:=w) w.heap.size rfl (.tmp 49) (.tmp 55) 28 51 (.agg #[(.int .i64 0),(.int .i64 0),(.int .i64 0)]) 24 rfl Try.underlying28 info51 rfl (by decide) (by omega) u7 x7_2 (⟨(rd_T51 t527 (rd t539 x45_2)).f0,(rd_T51 t527 (rd t539 x45_2)).f1,(rd_T51 t527 (rd t539 x45_2)).f2⟩ : S51) [.int .i64 ((rd_T51 t527 (rd t539 x45_2)).f0),.int .i64 ((rd_T51 t527 (rd t539 x45_2)).f1),.int .i64 ((rd_T51 t527 (rd t539 x45_2)).f2)] (fun k_ => some k_ ≠ (.slice (some ad558) t527.length co9 : Value).ownBlock) (fun _ => False) rfl rfl ?aP (fun _ hk => hk.elim) ?aF ?aO ?aB ?aS ?aL ?_;(case aP => exact k51_mkM _ _ _ (⟨(rd_T51 t527 (rd t539 x45_2)).f0,(rd_T51 t527 (rd t539 x45_2)).f1,(rd_T51 t527 (rd t539 x45_2)).f2⟩ : S51));(case aB => exact (qc_ HB GE538));(case aF => exact (fun k_ hk => Kd.fresh' (Kd.R_lt (qr_ HO_539001)) k_ hk));(case aO => exact (qr_ HO_7));(case aS => exact (bz_ (qc_ HB GE538)));(case aL => have:=LMc40.out;omega);intro v560 w45 ho hb hg hat;rw [← Ny559.out] at ho;have n0_:=mk_ (Kd.R_over' (qr_ HO_6) (Kd.R_typed (qr_ HO_7)) (by decide) hg);have n1_:=mk_ (Kd.R_over' (qr_ HO_43) (Kd.R_typed (qr_ HO_7)) (by decide) hg);have n2_:=mk_ (Kd.R_after (ok:=(fun _ => True)) (by (with_reducible repeat (first|apply ra_|apply rn_|apply rd_));exact rm_ HO_539001.out (fun _ hk => ⟨trivial,hk⟩)) hg hat);have n3_:=mk_ (Kd.R_over' (qr_ HO_539002) (Kd.R_typed (qr_ HO_7)) (by decide) hg);have n4_:=mk_ (Kd.Q_over' (by (with_reducible repeat (first|apply Kd.Q_alloc|apply Kd.Q_drewN|apply Kd.Q_drew));exact HO_539003.out) (Kd.R_typed (qr_ HO_7)) (by decide) hg);have n5_:=mk_ (blk_grown (g:=gb538) (o:=.cells #[.int .i64 t526,.slice (some ad558) t527.length co9,.slice Ao10 t530.length co10,.slice Ao11 t533.length co11] 30 (0,0)) (qk_ BK538) hg (Kd.R_ne HO_7.out BK538.out (by decide)));have n6_:=mk_ (hb);have n7_:=mk_ (ho);clear HO_6;clear HO_43;clear HO_539001;clear HO_539002;clear HO_539003;clear BK538;clear HB;clear HO_7;have HO_6:=n0_;have HO_43:=n1_;have HO_539001:=n2_;have HO_539002:=n3_;have HO_539003:=n4_;have BK538:=n5_;have HB:=n6_;have HO561:=n7_;clear n0_ n1_ n2_ n3_ n4_ n5_ n6_ n7_;clear ho hb hg hat;have hcz46_0 : w45.cell? ⟨gb538,0,none⟩ = some (.int .i64 t526):=(bc_ BK538.out 0).trans rfl;have hcz46_1 : w45.cell? ⟨gb538,1,none⟩ = some (.slice (some ad558) t527.length co9):=(bc_ BK538.out 1).trans rfl;have hcz46_2 : w45.cell? ⟨gb538,2,none⟩ = some (.slice Ao10 t530.length co10):=(bc_ BK538.out 2).trans rfl;have hcz46_3 : w45.cell? ⟨gb538,3,none⟩ = some (.slice Ao11 t533.length co11):=(bc_ BK538.out 3).trans rfl;have hfz46_0:=bf_ BK538.out 0;have hfz46_1:=bf_ BK538.out 1;have hfz46_2:=bf_ BK538.out 2;have hfz46_3:=bf_ BK538.out 3)|((with_reducible refine gate_callee (f:=32) rfl ?_);refine goesL_ (some 59) rfl rfl Try.func32 (by kernel_rfl) rfl #[.agg #[.int .i64 t526,.slice (some ad558) t527.length co9,.slice Ao10 t530.length co10,.slice Ao11 t533.length co11],.int .i64 t536] rfl qm_ ?_;(with_reducible refine (impl_FloodOver.calls k2 t526 _ _ t527 _ _ t530 _ _ t533 t536 t562 _ ?side1 ?side2 ?side3 ?side4 ?side5 ?side6 A41.out).mono ?_);(case side1 => repeat (first|exact (rr_ HO_539001.out).2.2|(with_reducible refine ca_ ?_ _)|(with_reducible refine cn_ ?_ _)|(with_reducible refine cd_ ?_)));(case side2 => exact (rr_ HO_539001.out).2.1);(case side3 => repeat (first|exact (rr_ HO_539002.out).2.2|(with_reducible refine ca_ ?_ _)|(with_reducible refine cn_ ?_ _)|(with_reducible refine cd_ ?_)));(case side4 => exact (rr_ HO_539002.out).2.1);(case side5 => repeat (first|exact (Kd.Q_reads' HO_539003.out).2.2|(with_reducible refine ca_ ?_ _)|(with_reducible refine cn_ ?_ _)|(with_reducible refine cd_ ?_)));(case side6 => exact (Kd.Q_reads' HO_539003.out).2.1);rintro e w47 ⟨v563,rfl,ho0,hb⟩;refine ⟨_,rfl,?_⟩;have n0_:=mk_ (re_ (qr_ HO_6) (Kd.R_base ho0) hb);have n1_:=mk_ (re_ (qr_ HO_43) (Kd.R_base ho0) hb);have n2_:=mk_ (rb_ (qr_ HO_539001) hb);have n3_:=mk_ (re_ (qr_ HO_539002) (Kd.R_base ho0) hb);have n4_:=mk_ (Kd.Q_elder' (by (with_reducible repeat (first|apply Kd.Q_alloc|apply Kd.Q_drewN|apply Kd.Q_drew));exact HO_539003.out) (Kd.R_base ho0) hb);have n5_:=mk_ (rb_ (qr_ HO561) hb);have n6_:=mk_ (Kd.R_lower (Kd.R_new' (Kd.R_new' (Kd.R_new' (Kd.R_new' ho0 (Kd.R_lt (qr_ HO_6))) (Kd.R_lt (qr_ HO_43))) (Kd.R_lt (qr_ HO_539002))) (Kd.Q_lt (by (with_reducible repeat (first|apply Kd.Q_alloc|apply Kd.Q_drewN|apply Kd.Q_drew));exact HO_539003.out))) (bz_ (qc_ HB GE538)));have n7_:=mk_ (blk_below (g:=gb538) (o:=.cells #[.int .i64 t526,.slice (some ad558) t527.length co9,.slice Ao10 t530.length co10,.slice Ao11 t533.length co11] 30 (0,0)) (qk_ BK538) hb);have n8_:=mk_ (st_ (qc_ HB GE538) hb);clear HO_6;clear HO_43;clear HO_539001;clear HO_539002;clear HO_539003;clear HO561;clear BK538;clear HB;have HO_6:=n0_;have HO_43:=n1_;have HO_539001:=n2_;have HO_539002:=n3_;have HO_539003:=n4_;have HO561:=n5_;have HO564:=n6_;have BK538:=n7_;have HB:=n8_;clear n0_ n1_ n2_ n3_ n4_ n5_ n6_ n7_ n8_;(try clear hb);(try clear hb2);(try clear hk);(try clear hi);(try clear ho0);obtain ⟨Ao48,co48,eo48⟩:=Kd.R_slice HO564.out;subst eo48)|((with_reducible refine gate_callee (f:=21) rfl ?_);refine goesL_ (some 61) rfl rfl Try.func21 (by kernel_rfl) rfl #[.slice Ao48 t562.length co48,.int .i64 (rd t539 x45_2)] rfl qm_ ?_;(with_reducible refine (laws_wnHas.calls k2 _ _ t562 (rd t539 x45_2) true _ ?side1 ?side2 A42.out).mono ?_);(case side1 => repeat (first|exact (rr_ HO564.out).2.2|(with_reducible refine ca_ ?_ _)|(with_reducible refine cn_ ?_ _)|(with_reducible refine cd_ ?_)));(case side2 => exact (rr_ HO564.out).2.1);rintro e w' ⟨rfl,⟨nd,rfl⟩⟩;refine ⟨_,rfl,?_⟩))
               go_roundg k2
               case measure => have:=HJ4.out;have:=HK2.out;omega
               case rel => exact ⟨(y559),(wrap64 (x45_2 + 1)),qf_,H',⟨by have:=HJ4.out;have:=HK2.out;omega⟩,⟨by (with_reducible repeat (first|apply ra_|apply rn_|apply rd_));exact rm_ HO_6.out (fun _ hk => ⟨hk.1.1,hk.1.2⟩)⟩,⟨qr_ HO561⟩,⟨by (with_reducible repeat (first|apply ra_|apply rn_|apply rd_));exact rm_ HO_43.out (fun _ hk => ⟨hk.1.1,hk.1.2⟩)⟩,⟨by (with_reducible repeat (first|apply ra_|apply rn_|apply rd_));exact rm_ HO_539001.out (fun _ hk => hk.2)⟩,⟨by (with_reducible repeat (first|apply ra_|apply rn_|apply rd_));exact rm_ HO_539002.out (fun _ hk => ⟨hk.1.1,⟨hk.1.2.1,hk.1.2.2⟩⟩)⟩,⟨by (with_reducible repeat (first|apply Kd.Q_alloc|apply Kd.Q_drewN|apply Kd.Q_drew));exact Kd.Q_mono HO_539003.out (fun _ hk => ⟨hk.1.1,⟨hk.1.2.1,hk.1.2.2⟩⟩)⟩,⟨qk_ BK538⟩,⟨u1_ HB GE538⟩⟩
              ·replace c43:=Bool.eq_false_iff.mpr c43
               subst c43
               have H1 : (some false) = some r:=by rw [if_neg (show ¬ (false = true) by decide)] at H;exact H
               clear H
               have H:=H1
               clear H1
               obtain rfl:=Option.some.inj H
               have p557 : 0 ≤ (x45_2 : Int):=od_ qa_
               have q557 : x45_2 < (t539.length : Int):=od_ qa_
               obtain ⟨ad557,e557,hx557_0⟩:=Kd.at_int (rr_ HO_43.out).2.2 x45_2 p557 q557
               cases e557
               replace p557:=eq_true p557
               replace q557:=eq_true q557
               have hcz49_0 : wr.cell? ⟨gb538,0,none⟩ = some (.int .i64 t526):=(bc_ BK538.out 0).trans rfl
               have hcz49_1 : wr.cell? ⟨gb538,1,none⟩ = some (.slice Ao9 t527.length co9):=(bc_ BK538.out 1).trans rfl
               have hcz49_2 : wr.cell? ⟨gb538,2,none⟩ = some (.slice Ao10 t530.length co10):=(bc_ BK538.out 2).trans rfl
               have hcz49_3 : wr.cell? ⟨gb538,3,none⟩ = some (.slice Ao11 t533.length co11):=(bc_ BK538.out 3).trans rfl
               have hfz49_0:=bf_ BK538.out 0
               have hfz49_1:=bf_ BK538.out 1
               have hfz49_2:=bf_ BK538.out 2
               have hfz49_3:=bf_ BK538.out 3
               have p558 : 0 ≤ ((rd t539 x45_2) : Int):=od_ qa_
               have q558 : (rd t539 x45_2) < (t527.length : Int):=od_ qa_
               obtain ⟨ad558,e558,hx558_0,hx558_1,hx558_2⟩:=at_T51 (rr_ HO_539001.out).2.2 (rd t539 x45_2) p558 q558
               cases e558
               replace p558:=eq_true p558
               replace q558:=eq_true q558
               go_wp2_with (first|((with_reducible refine gate_builtin (b:=.append) (xs:=#[.tmp 49,.tmp 55]) rfl ?_);(try (refine gate_guard (by rfl) ?_;dsimp only));at_builtin;refine Kd.R_append k51 (w0:=w) w.heap.size rfl (.tmp 49) (.tmp 55) 28 51 (.agg #[(.int .i64 0),(.int .i64 0),(.int .i64 0)]) 24 rfl Try.underlying28 info51 rfl (by decide) (by omega) u7 x7_2 (⟨(rd_T51 t527 (rd t539 x45_2)).f0,(rd_T51 t527 (rd t539 x45_2)).f1,(rd_T51 t527 (rd t539 x45_2)).f2⟩ : S51) [.int .i64 ((rd_T51 t527 (rd t539 x45_2)).f0),.int .i64 ((rd_T51 t527 (rd t539 x45_2)).f1),.int .i64 ((rd_T51 t527 (rd t539 x45_2)).f2)] (fun k_ => some k_ ≠ (.slice (some ad558) t527.length co9 : Value).ownBlock) (fun _ => False) rfl rfl ?aP (fun _ hk => hk.elim) ?aF ?aO ?aB ?aS ?aL ?_;(case aP => exact k51_mkM _ _ _ (⟨(rd_T51 t527 (rd t539 x45_2)).f0,(rd_T51 t527 (rd t539 x45_2)).f1,(rd_T51 t527 (rd t539 x45_2)).f2⟩ : S51));(case aB => exact (qc_ HB GE538));(case aF => exact (fun k_ hk => Kd.fresh' (Kd.R_lt (qr_ HO_539001)) k_ hk));(case aO => exact (qr_ HO_7));(case aS => exact (bz_ (qc_ HB GE538)));(case aL => have:=LMc40.out;omega);intro v560 w50 ho hb hg hat;rw [← Ny559.out] at ho;have n0_:=mk_ (Kd.R_over' (qr_ HO_6) (Kd.R_typed (qr_ HO_7)) (by decide) hg);have n1_:=mk_ (Kd.R_over' (qr_ HO_43) (Kd.R_typed (qr_ HO_7)) (by decide) hg);have n2_:=mk_ (Kd.R_after (ok:=(fun _ => True)) (by (with_reducible repeat (first|apply ra_|apply rn_|apply rd_));exact rm_ HO_539001.out (fun _ hk => ⟨trivial,hk⟩)) hg hat);have n3_:=mk_ (Kd.R_over' (qr_ HO_539002) (Kd.R_typed (qr_ HO_7)) (by decide) hg);have n4_:=mk_ (Kd.Q_over' (by (with_reducible repeat (first|apply Kd.Q_alloc|apply Kd.Q_drewN|apply Kd.Q_drew));exact HO_539003.out) (Kd.R_typed (qr_ HO_7)) (by decide) hg);have n5_:=mk_ (blk_grown (g:=gb538) (o:=.cells #[.int .i64 t526,.slice (some ad558) t527.length co9,.slice Ao10 t530.length co10,.slice Ao11 t533.length co11] 30 (0,0)) (qk_ BK538) hg (Kd.R_ne HO_7.out BK538.out (by decide)));have n6_:=mk_ (hb);have n7_:=mk_ (ho);clear HO_6;clear HO_43;clear HO_539001;clear HO_539002;clear HO_539003;clear BK538;clear HB;clear HO_7;have HO_6:=n0_;have HO_43:=n1_;have HO_539001:=n2_;have HO_539002:=n3_;have HO_539003:=n4_;have BK538:=n5_;have HB:=n6_;have HO561:=n7_;clear n0_ n1_ n2_ n3_ n4_ n5_ n6_ n7_;clear ho hb hg hat;have hcz51_0 : w50.cell? ⟨gb538,0,none⟩ = some (.int .i64 t526):=(bc_ BK538.out 0).trans rfl;have hcz51_1 : w50.cell? ⟨gb538,1,none⟩ = some (.slice (some ad558) t527.length co9):=(bc_ BK538.out 1).trans rfl;have hcz51_2 : w50.cell? ⟨gb538,2,none⟩ = some (.slice Ao10 t530.length co10):=(bc_ BK538.out 2).trans rfl;have hcz51_3 : w50.cell? ⟨gb538,3,none⟩ = some (.slice Ao11 t533.length co11):=(bc_ BK538.out 3).trans rfl;have hfz51_0:=bf_ BK538.out 0;have hfz51_1:=bf_ BK538.out 1;have hfz51_2:=bf_ BK538.out 2;have hfz51_3:=bf_ BK538.out 3)|((with_reducible refine gate_callee (f:=32) rfl ?_);refine goesL_ (some 59) rfl rfl Try.func32 (by kernel_rfl) rfl #[.agg #[.int .i64 t526,.slice (some ad558) t527.length co9,.slice Ao10 t530.length co10,.slice Ao11 t533.length co11],.int .i64 t536] rfl qm_ ?_;(with_reducible refine (impl_FloodOver.calls k2 t526 _ _ t527 _ _ t530 _ _ t533 t536 t562 _ ?side1 ?side2 ?side3 ?side4 ?side5 ?side6 A41.out).mono ?_);(case side1 => repeat (first|exact (rr_ HO_539001.out).2.2|(with_reducible refine ca_ ?_ _)|(with_reducible refine cn_ ?_ _)|(with_reducible refine cd_ ?_)));(case side2 => exact (rr_ HO_539001.out).2.1);(case side3 => repeat (first|exact (rr_ HO_539002.out).2.2|(with_reducible refine ca_ ?_ _)|(with_reducible refine cn_ ?_ _)|(with_reducible refine cd_ ?_)));(case side4 => exact (rr_ HO_539002.out).2.1);(case side5 => repeat (first|exact (Kd.Q_reads' HO_539003.out).2.2|(with_reducible refine ca_ ?_ _)|(with_reducible refine cn_ ?_ _)|(with_reducible refine cd_ ?_)));(case side6 => exact (Kd.Q_reads' HO_539003.out).2.1);rintro e w52 ⟨v563,rfl,ho0,hb⟩;refine ⟨_,rfl,?_⟩;have n0_:=mk_ (re_ (qr_ HO_6) (Kd.R_base ho0) hb);have n1_:=mk_ (re_ (qr_ HO_43) (Kd.R_base ho0) hb);have n2_:=mk_ (rb_ (qr_ HO_539001) hb);have n3_:=mk_ (re_ (qr_ HO_539002) (Kd.R_base ho0) hb);have n4_:=mk_ (Kd.Q_elder' (by (with_reducible repeat (first|apply Kd.Q_alloc|apply Kd.Q_drewN|apply Kd.Q_drew));exact HO_539003.out) (Kd.R_base ho0) hb);have n5_:=mk_ (rb_ (qr_ HO561) hb);have n6_:=mk_ (Kd.R_lower (Kd.R_new' (Kd.R_new' (Kd.R_new' (Kd.R_new' ho0 (Kd.R_lt (qr_ HO_6))) (Kd.R_lt (qr_ HO_43))) (Kd.R_lt (qr_ HO_539002))) (Kd.Q_lt (by (with_reducible repeat (first|apply Kd.Q_alloc|apply Kd.Q_drewN|apply Kd.Q_drew));exact HO_539003.out))) (bz_ (qc_ HB GE538)));have n7_:=mk_ (blk_below (g:=gb538) (o:=.cells #[.int .i64 t526,.slice (some ad558) t527.length co9,.slice Ao10 t530.length co10,.slice Ao11 t533.length co11] 30 (0,0)) (qk_ BK538) hb);have n8_:=mk_ (st_ (qc_ HB GE538) hb);clear HO_6;clear HO_43;clear HO_539001;clear HO_539002;clear HO_539003;clear HO561;clear BK538;clear HB;have HO_6:=n0_;have HO_43:=n1_;have HO_539001:=n2_;have HO_539002:=n3_;have HO_539003:=n4_;have HO561:=n5_;have HO564:=n6_;have BK538:=n7_;have HB:=n8_;clear n0_ n1_ n2_ n3_ n4_ n5_ n6_ n7_ n8_;(try clear hb);(try clear hb2);(try clear hk);(try clear hi);(try clear ho0);obtain ⟨Ao53,co53,eo53⟩:=Kd.R_slice HO564.out;subst eo53)|((with_reducible refine gate_callee (f:=21) rfl ?_);refine goesL_ (some 61) rfl rfl Try.func21 (by kernel_rfl) rfl #[.slice Ao53 t562.length co53,.int .i64 (rd t539 x45_2)] rfl qm_ ?_;(with_reducible refine (laws_wnHas.calls k2 _ _ t562 (rd t539 x45_2) false _ ?side1 ?side2 A42.out).mono ?_);(case side1 => repeat (first|exact (rr_ HO564.out).2.2|(with_reducible refine ca_ ?_ _)|(with_reducible refine cn_ ?_ _)|(with_reducible refine cd_ ?_)));(case side2 => exact (rr_ HO564.out).2.1);rintro e w' ⟨rfl,⟨nd,rfl⟩⟩;refine ⟨_,rfl,?_⟩))
               go_ret
               exact ⟨qe_,u1_ HB GE538⟩
             ·rw [if_neg c40] at H
              exact absurd H (by simp)
            ·rw [if_neg c39] at H
             exact absurd H (by simp)
           ·rw [if_neg c38] at H
            exact absurd H (by simp)
          ·rw [if_neg c37] at H
           exact absurd H (by simp)
         ·rw [if_neg c36] at H
          exact absurd H (by simp)
        ·rw [if_neg c35] at H
         have c35b0 : decide (x45_2 < (t539.length : Int)) = false:=decide_eq_false c35
         clear c35
         by_cases c54 : 0 ≤ t536
         ·rw [if_pos c54] at H
          have c54b0 : decide (0 ≤ t536) = true:=decide_eq_true c54
          clear c54
          by_cases c55 : t536 < (t530.length : Int)
          ·rw [if_pos c55] at H
           have c55b0 : decide (t536 < (t530.length : Int)) = true:=decide_eq_true c55
           clear c55
           replace H:=Option.bind_eq_some_iff.mp H
           obtain ⟨t554,A560,H⟩:=H
           replace H : (if 0 ≤ t537 then (if t537 < (t530.length : Int) then ((impl_RootOf.f t526 x7_2 (rd t530 t537)).bind fun t556 => (if t554 = t556 then (some (decide ((t539.length : Int) < t526))) else (some false))) else (none)) else (none)) = some r:=H
           have A56:=mk_ A560
           clear A560
           by_cases c57 : 0 ≤ t537
           ·rw [if_pos c57] at H
            have c57b0 : decide (0 ≤ t537) = true:=decide_eq_true c57
            clear c57
            by_cases c58 : t537 < (t530.length : Int)
            ·rw [if_pos c58] at H
             have c58b0 : decide (t537 < (t530.length : Int)) = true:=decide_eq_true c58
             clear c58
             replace H:=Option.bind_eq_some_iff.mp H
             obtain ⟨t556,A590,H⟩:=H
             replace H : (if t554 = t556 then (some (decide ((t539.length : Int) < t526))) else (some false)) = some r:=H
             have A59:=mk_ A590
             clear A590
             by_cases c60 : t554 = t556
             ·rw [if_pos c60] at H
              have c60b0 : (t554 == t556) = true:=beq_iff_eq.mpr c60
              have c60b1 : (t554 != t556) = false:=bne_eq_false_iff_eq.mpr c60
              clear c60
              obtain rfl:=Option.some.inj H
              try go_wp2
              have n0_:=mk_ (rd_ HO_6.out)
              have n1_:=mk_ (rd_ HO_7.out)
              have n2_:=mk_ (rd_ HO_43.out)
              have n3_:=mk_ (rd_ HO_539001.out)
              have n4_:=mk_ (rd_ HO_539002.out)
              have n5_:=mk_ (Kd.Q_drew HO_539003.out)
              have n6_:=mk_ (kd_ BK538.out)
              have n7_:=mk_ (bd_ HB.out)
              clear HO_6
              clear HO_7
              clear HO_43
              clear HO_539001
              clear HO_539002
              clear HO_539003
              clear BK538
              clear HB
              have HO_6:=n0_
              have HO_7:=n1_
              have HO_43:=n2_
              have HO_539001:=n3_
              have HO_539002:=n4_
              have HO_539003:=n5_
              have BK538:=n6_
              have HB:=n7_
              clear n0_ n1_ n2_ n3_ n4_ n5_ n6_ n7_
              have p553 : 0 ≤ (t536 : Int):=od_ qa_
              have q553 : t536 < (t530.length : Int):=od_ qa_
              obtain ⟨ad553,e553,hx553_0⟩:=Kd.at_int (rr_ HO_539002.out).2.2 t536 p553 q553
              cases e553
              replace p553:=eq_true p553
              replace q553:=eq_true q553
              have p555 : 0 ≤ (t537 : Int):=od_ qa_
              have q555 : t537 < (t530.length : Int):=od_ qa_
              obtain ⟨ad555,e555,hx555_0⟩:=Kd.at_int (rr_ HO_539002.out).2.2 t537 p555 q555
              obtain rfl : ad553 = ad555:=(by injection e555)
              replace p555:=eq_true p555
              replace q555:=eq_true q555
              obtain ⟨Ao62,co62,eo62⟩:=Kd.R_slice HO_7.out
              (first|subst eo62|(injection eo62 with f1_ f2_ f3_;have f4_:=f1_.symm;have f5_:=f3_.symm;clear f1_ f2_ f3_;subst f4_;subst f5_))
              refine start_ (n:=27) (S:=fun w' => w'.cell? ⟨gb538,0,none⟩ = some (.int .i64 t526) ∧ w'.cell? ⟨gb538,1,none⟩ = some (.slice Ao9 t527.length co9) ∧ w'.cell? ⟨gb538,2,none⟩ = some (.slice (some ad553) t530.length co10) ∧ w'.cell? ⟨gb538,3,none⟩ = some (.slice Ao11 t533.length co11) ∧ w'.cell? (ad553.add (t536).toNat) = some (.int .i64 (rd t530 t536)) ∧ w'.cell? (ad553.add (t537).toNat) = some (.int .i64 (rd t530 t537))) (ds:=[]) #[false,false,false,false,false,false,false,false,false,false,false,false,false,false,false,false,false,false,false,false,false,false,false,false,false,false,false] (by kernel_rfl) rfl rfl ⟨(bc_ BK538.out 0).trans rfl,(bc_ BK538.out 1).trans rfl,(bc_ BK538.out 2).trans rfl,(bc_ BK538.out 3).trans rfl,hx553_0,hx555_0⟩ (fun hHeld => ?_);refine with_tabW laws_FnTreeWay.tab17 laws_FnTreeWay.bits17 (fun HT_ HW_ => ?_)
              generalize wr.drew = w61 at HO_6 HO_7 HO_43 HO_539001 HO_539002 HO_539003 BK538 HB hx553_0 hx555_0 hHeld ⊢
              refine pure_ (i:=0) (N:=some 64) (v:=?_) (a':=?_) #[true,false,false,false,false,false,false,false,false,false,false,false,false,false,false,false,false,false,false,false,false,false,false,false,false,false,false] rfl rfl (any_of HT_.out (by kernel_rfl)) (fun _ _ _ h => h) (Or.inl ⟨by rfl,?_⟩) ?_ ?_
              rotate_left
              ·intro w'
               go_simp
               with_reducible rfl
              rotate_left
              ·simp only [Act.put,sx_,sy_,sz_,i64_w,i32_w]
               rfl
              refine pure_ (i:=2) (N:=some 66) (v:=?_) (a':=?_) #[true,false,true,false,false,false,false,false,false,false,false,false,false,false,false,false,false,false,false,false,false,false,false,false,false,false,false] rfl rfl (any_of HT_.out (by kernel_rfl)) (fun _ _ _ h => h) (Or.inl ⟨by rfl,?_⟩) ?_ ?_
              rotate_left
              ·intro w'
               go_simp
               with_reducible rfl
              rotate_left
              ·simp only [Act.put,sx_,sy_,sz_,i64_w,i32_w]
               rfl
              refine pure_ (i:=3) (N:=some 67) (v:=?_) (a':=?_) #[true,false,true,true,false,false,false,false,false,false,false,false,false,false,false,false,false,false,false,false,false,false,false,false,false,false,false] rfl rfl (any_of HT_.out (by kernel_rfl)) (fun _ _ _ h => h) (Or.inl ⟨by rfl,?_⟩) ?_ ?_
              rotate_left
              ·intro w'
               go_simp
               with_reducible rfl
              rotate_left
              ·simp only [Act.put,sx_,sy_,sz_,i64_w,i32_w]
               rfl
              refine pure_ (i:=5) (N:=some 69) (v:=?_) (a':=?_) #[true,false,true,true,false,true,false,false,false,false,false,false,false,false,false,false,false,false,false,false,false,false,false,false,false,false,false] rfl rfl (any_of HT_.out (by kernel_rfl)) (fun _ _ _ h => h) (Or.inl ⟨by rfl,?_⟩) ?_ ?_
              rotate_left
              ·intro w'
               go_simp
               with_reducible rfl
              rotate_left
              ·simp only [Act.put,sx_,sy_,sz_,i64_w,i32_w]
               rfl
              refine pure_ (i:=9) (N:=some 73) (v:=?_) (a':=?_) #[true,false,true,true,false,true,false,false,false,true,false,false,false,false,false,false,false,false,false,false,false,false,false,false,false,false,false] rfl rfl (any_of HT_.out (by kernel_rfl)) (fun _ _ _ h => h) (Or.inl ⟨by rfl,?_⟩) ?_ ?_
              rotate_left
              ·intro w'
               go_simp
               with_reducible rfl
              rotate_left
              ·simp only [Act.put,sx_,sy_,sz_,i64_w,i32_w]
               rfl
              refine pure_ (i:=11) (N:=some 75) (v:=?_) (a':=?_) #[true,false,true,true,false,true,false,false,false,true,false,true,false,false,false,false,false,false,false,false,false,false,false,false,false,false,false] rfl rfl (any_of HT_.out (by kernel_rfl)) (fun _ _ _ h => h) (Or.inl ⟨by rfl,?_⟩) ?_ ?_
              rotate_left
              ·intro w'
               go_simp
               with_reducible rfl
              rotate_left
              ·simp only [Act.put,sx_,sy_,sz_,i64_w,i32_w]
               rfl
              refine pure_ (i:=12) (N:=some 76) (v:=?_) (a':=?_) #[true,false,true,true,false,true,false,false,false,true,false,true,true,false,false,false,false,false,false,false,false,false,false,false,false,false,false] rfl rfl (any_of HT_.out (by kernel_rfl)) (fun _ _ _ h => h) (Or.inl ⟨by rfl,?_⟩) ?_ ?_
              rotate_left
              ·intro w'
               go_simp
               with_reducible rfl
              rotate_left
              ·simp only [Act.put,sx_,sy_,sz_,i64_w,i32_w]
               rfl
              refine pure_ (i:=14) (N:=some 78) (v:=?_) (a':=?_) #[true,false,true,true,false,true,false,false,false,true,false,true,true,false,true,false,false,false,false,false,false,false,false,false,false,false,false] rfl rfl (any_of HT_.out (by kernel_rfl)) (fun _ _ _ h => h) (Or.inl ⟨by rfl,?_⟩) ?_ ?_
              rotate_left
              ·intro w'
               go_simp
               with_reducible rfl
              rotate_left
              ·simp only [Act.put,sx_,sy_,sz_,i64_w,i32_w]
               rfl
              refine take_ (i:=1) (N:=some 65) (v:=?_) (a':=?_) #[true,true,true,true,false,true,false,false,false,true,false,true,true,false,true,false,false,false,false,false,false,false,false,false,false,false,false] rfl rfl (take_ofW HT_.out HW_.out (by kernel_rfl)) (fun _ _ _ h => h) (Or.inl ⟨by rfl,?_⟩) hHeld ?_ ?_
              rotate_left
              ·rintro w' ⟨s0,s1,s2,s3,s4,s5⟩
               go_simp
               with_reducible rfl
              rotate_left
              ·simp only [Act.put,sx_,sy_,sz_,i64_w,i32_w]
               rfl
              refine take_ (i:=4) (N:=some 68) (v:=?_) (a':=?_) #[true,true,true,true,true,true,false,false,false,true,false,true,true,false,true,false,false,false,false,false,false,false,false,false,false,false,false] rfl rfl (take_ofW HT_.out HW_.out (by kernel_rfl)) (fun _ _ _ h => h) (Or.inl ⟨by rfl,?_⟩) hHeld ?_ ?_
              rotate_left
              ·rintro w' ⟨s0,s1,s2,s3,s4,s5⟩
               go_simp
               with_reducible rfl
              rotate_left
              ·simp only [Act.put,sx_,sy_,sz_,i64_w,i32_w]
               rfl
              refine pure_ (i:=6) (N:=some 70) (v:=?_) (a':=?_) #[true,true,true,true,true,true,true,false,false,true,false,true,true,false,true,false,false,false,false,false,false,false,false,false,false,false,false] rfl rfl (any_of HT_.out (by kernel_rfl)) (fun _ _ _ h => h) (Or.inl ⟨by rfl,?_⟩) ?_ ?_
              rotate_left
              ·intro w'
               go_simp
               with_reducible rfl
              rotate_left
              ·simp only [Act.put,sx_,sy_,sz_,i64_w,i32_w]
               rfl
              refine take_ (i:=7) (N:=some 71) (v:=?_) (a':=?_) #[true,true,true,true,true,true,true,true,false,true,false,true,true,false,true,false,false,false,false,false,false,false,false,false,false,false,false] rfl rfl (take_ofW HT_.out HW_.out (by kernel_rfl)) (fun _ _ _ h => h) (Or.inl ⟨by rfl,?_⟩) hHeld ?_ ?_
              rotate_left
              ·rintro w' ⟨s0,s1,s2,s3,s4,s5⟩
               go_simp
               with_reducible rfl
              rotate_left
              ·simp only [Act.put,sx_,sy_,sz_,i64_w,i32_w]
               rfl
              refine take_ (i:=10) (N:=some 74) (v:=?_) (a':=?_) #[true,true,true,true,true,true,true,true,false,true,true,true,true,false,true,false,false,false,false,false,false,false,false,false,false,false,false] rfl rfl (take_ofW HT_.out HW_.out (by kernel_rfl)) (fun _ _ _ h => h) (Or.inl ⟨by rfl,?_⟩) hHeld ?_ ?_
              rotate_left
              ·rintro w' ⟨s0,s1,s2,s3,s4,s5⟩
               go_simp
               with_reducible rfl
              rotate_left
              ·simp only [Act.put,sx_,sy_,sz_,i64_w,i32_w]
               rfl
              refine take_ (i:=13) (N:=some 77) (v:=?_) (a':=?_) #[true,true,true,true,true,true,true,true,false,true,true,true,true,true,true,false,false,false,false,false,false,false,false,false,false,false,false] rfl rfl (take_ofW HT_.out HW_.out (by kernel_rfl)) (fun _ _ _ h => h) (Or.inl ⟨by rfl,?_⟩) hHeld ?_ ?_
              rotate_left
              ·rintro w' ⟨s0,s1,s2,s3,s4,s5⟩
               go_simp
               with_reducible rfl
              rotate_left
              ·simp only [Act.put,sx_,sy_,sz_,i64_w,i32_w]
               rfl
              refine pure_ (i:=15) (N:=some 79) (v:=?_) (a':=?_) #[true,true,true,true,true,true,true,true,false,true,true,true,true,true,true,true,false,false,false,false,false,false,false,false,false,false,false] rfl rfl (any_of HT_.out (by kernel_rfl)) (fun _ _ _ h => h) (Or.inl ⟨by rfl,?_⟩) ?_ ?_
              rotate_left
              ·intro w'
               go_simp
               with_reducible rfl
              rotate_left
              ·simp only [Act.put,sx_,sy_,sz_,i64_w,i32_w]
               rfl
              refine take_ (i:=16) (N:=some 80) (v:=?_) (a':=?_) #[true,true,true,true,true,true,true,true,false,true,true,true,true,true,true,true,true,false,false,false,false,false,false,false,false,false,false] rfl rfl (take_ofW HT_.out HW_.out (by kernel_rfl)) (fun _ _ _ h => h) (Or.inl ⟨by rfl,?_⟩) hHeld ?_ ?_
              rotate_left
              ·rintro w' ⟨s0,s1,s2,s3,s4,s5⟩
               go_simp
               with_reducible rfl
              rotate_left
              ·simp only [Act.put,sx_,sy_,sz_,i64_w,i32_w]
               rfl
              refine one_ (i:=8) (N:=some 72) #[true,true,true,true,true,true,true,true,true,true,true,true,true,true,true,true,true,false,false,false,false,false,false,false,false,false,false] rfl rfl (one_of HT_.out (by kernel_rfl)) (by decide) (fun K hK => ?_)
              refine goes_ Try.func37 (by kernel_rfl) rfl #[.int .i64 t526,.slice Ao62 x7_2.length co62,.int .i64 (rd t530 t536)] (by rfl) rfl rfl qm_ ?_
              with_reducible refine (impl_RootOf.calls t526 _ _ x7_2 (rd t530 t536) t554 _ ?side1 ?side2 A56.out).mono ?_
              (case side1 => repeat (first|exact (rr_ HO_7.out).2.2|(with_reducible refine ca_ ?_ _)|(with_reducible refine cn_ ?_ _)|(with_reducible refine cd_ ?_)))
              (case side2 => exact (rr_ HO_7.out).2.1)
              rintro e w63 ⟨rfl,hb⟩
              have HS4_:=(hb.cell (wl_ _ _ (hHeld.2.2.2.2.1))).trans (hHeld.2.2.2.2.1)
              have HS5_:=(hb.cell (wl_ _ _ (hHeld.2.2.2.2.2))).trans (hHeld.2.2.2.2.2)
              refine ⟨_,rfl,?_⟩
              have n0_:=mk_ (rb_ (qr_ HO_6) hb)
              have n1_:=mk_ (rb_ (qr_ HO_7) hb)
              have n2_:=mk_ (rb_ (qr_ HO_43) hb)
              have n3_:=mk_ (rb_ (qr_ HO_539001) hb)
              have n4_:=mk_ (rb_ (qr_ HO_539002) hb)
              have n5_:=mk_ (Kd.Q_below (by (with_reducible repeat (first|apply Kd.Q_alloc|apply Kd.Q_drewN|apply Kd.Q_drew));exact HO_539003.out) hb)
              have n6_:=mk_ (blk_below (g:=gb538) (o:=.cells #[.int .i64 t526,.slice Ao9 t527.length co9,.slice (some ad553) t530.length co10,.slice Ao11 t533.length co11] 30 (0,0)) (qk_ BK538) hb)
              have n7_:=mk_ (st_ (qc_ HB GE538) hb)
              clear HO_6
              clear HO_7
              clear HO_43
              clear HO_539001
              clear HO_539002
              clear HO_539003
              clear BK538
              clear HB
              have HO_6:=n0_
              have HO_7:=n1_
              have HO_43:=n2_
              have HO_539001:=n3_
              have HO_539002:=n4_
              have HO_539003:=n5_
              have BK538:=n6_
              have HB:=n7_
              clear n0_ n1_ n2_ n3_ n4_ n5_ n6_ n7_
              (try clear hb)
              (try clear hb2)
              (try clear hk)
              (try clear hi)
              refine hK.out _ _ ⟨(bc_ BK538.out 0).trans rfl,(bc_ BK538.out 1).trans rfl,(bc_ BK538.out 2).trans rfl,(bc_ BK538.out 3).trans rfl,HS4_,HS5_⟩ (fun hHeld => ?_)
              clear hK K
              refine norm_ (a':=?_) ?_ ?_
              rotate_left
              ·show Act.put _ (some 72) _ = _
               simp only [Act.put,sx_,sy_,sz_,i64_w,i32_w]
               rfl
              refine one_ (i:=17) (N:=some 81) #[true,true,true,true,true,true,true,true,true,true,true,true,true,true,true,true,true,true,false,false,false,false,false,false,false,false,false] rfl rfl (one_of HT_.out (by kernel_rfl)) (by decide) (fun K hK => ?_)
              refine goes_ Try.func37 (by kernel_rfl) rfl #[.int .i64 t526,.slice Ao62 x7_2.length co62,.int .i64 (rd t530 t537)] (by rfl) rfl rfl qm_ ?_
              with_reducible refine (impl_RootOf.calls t526 _ _ x7_2 (rd t530 t537) t556 _ ?side1 ?side2 A59.out).mono ?_
              (case side1 => repeat (first|exact (rr_ HO_7.out).2.2|(with_reducible refine ca_ ?_ _)|(with_reducible refine cn_ ?_ _)|(with_reducible refine cd_ ?_)))
              (case side2 => exact (rr_ HO_7.out).2.1)
              rintro e w64 ⟨rfl,hb⟩
              have HS4_:=(hb.cell (wl_ _ _ (hHeld.2.2.2.2.1))).trans (hHeld.2.2.2.2.1)
              have HS5_:=(hb.cell (wl_ _ _ (hHeld.2.2.2.2.2))).trans (hHeld.2.2.2.2.2)
              refine ⟨_,rfl,?_⟩
              have n0_:=mk_ (rb_ (qr_ HO_6) hb)
              have n1_:=mk_ (rb_ (qr_ HO_7) hb)
              have n2_:=mk_ (rb_ (qr_ HO_43) hb)
              have n3_:=mk_ (rb_ (qr_ HO_539001) hb)
              have n4_:=mk_ (rb_ (qr_ HO_539002) hb)
              have n5_:=mk_ (Kd.Q_below (by (with_reducible repeat (first|apply Kd.Q_alloc|apply Kd.Q_drewN|apply Kd.Q_drew));exact HO_539003.out) hb)
              have n6_:=mk_ (blk_below (g:=gb538) (o:=.cells #[.int .i64 t526,.slice Ao9 t527.length co9,.slice (some ad553) t530.length co10,.slice Ao11 t533.length co11] 30 (0,0)) (qk_ BK538) hb)
              have n7_:=mk_ (st_ (qc_ HB GE538) hb)
              clear HO_6
              clear HO_7
              clear HO_43
              clear HO_539001
              clear HO_539002
              clear HO_539003
              clear BK538
              clear HB
              have HO_6:=n0_
              have HO_7:=n1_
              have HO_43:=n2_
              have HO_539001:=n3_
              have HO_539002:=n4_
              have HO_539003:=n5_
              have BK538:=n6_
              have HB:=n7_
              clear n0_ n1_ n2_ n3_ n4_ n5_ n6_ n7_
              (try clear hb)
              (try clear hb2)
              (try clear hk)
              (try clear hi)
              refine hK.out _ _ ⟨(bc_ BK538.out 0).trans rfl,(bc_ BK538.out 1).trans rfl,(bc_ BK538.out 2).trans rfl,(bc_ BK538.out 3).trans rfl,HS4_,HS5_⟩ (fun hHeld => ?_)
              clear hK K
              refine norm_ (a':=?_) ?_ ?_
              rotate_left
              ·show Act.put _ (some 81) _ = _
               simp only [Act.put,sx_,sy_,sz_,i64_w,i32_w]
               rfl
              refine pure_ (i:=18) (N:=some 82) (v:=?_) (a':=?_) #[true,true,true,true,true,true,true,true,true,true,true,true,true,true,true,true,true,true,true,false,false,false,false,false,false,false,false] rfl rfl (any_of HT_.out (by kernel_rfl)) (fun _ _ _ h => h) (Or.inl ⟨by rfl,?_⟩) ?_ ?_
              rotate_left
              ·intro w'
               go_simp
               with_reducible rfl
              rotate_left
              ·simp only [Act.put,sx_,sy_,sz_,i64_w,i32_w]
               rfl
              refine pure_ (i:=19) (N:=some 83) (v:=?_) (a':=?_) #[true,true,true,true,true,true,true,true,true,true,true,true,true,true,true,true,true,true,true,true,false,false,false,false,false,false,false] rfl rfl (any_of HT_.out (by kernel_rfl)) (fun _ _ _ h => h) (Or.inl ⟨by rfl,?_⟩) ?_ ?_
              rotate_left
              ·intro w'
               go_simp
               with_reducible rfl
              rotate_left
              ·simp only [Act.put,sx_,sy_,sz_,i64_w,i32_w]
               rfl
              refine pure_ (i:=20) (N:=some 84) (v:=?_) (a':=?_) #[true,true,true,true,true,true,true,true,true,true,true,true,true,true,true,true,true,true,true,true,true,false,false,false,false,false,false] rfl rfl (any_of HT_.out (by kernel_rfl)) (fun _ _ _ h => h) (Or.inl ⟨by rfl,?_⟩) ?_ ?_
              rotate_left
              ·intro w'
               go_simp
               with_reducible rfl
              rotate_left
              ·simp only [Act.put,sx_,sy_,sz_,i64_w,i32_w]
               rfl
              refine pure_ (i:=21) (N:=some 85) (v:=?_) (a':=?_) #[true,true,true,true,true,true,true,true,true,true,true,true,true,true,true,true,true,true,true,true,true,true,false,false,false,false,false] rfl rfl (any_of HT_.out (by kernel_rfl)) (fun _ _ _ h => h) (Or.inl ⟨by rfl,?_⟩) ?_ ?_
              rotate_left
              ·intro w'
               go_simp
               with_reducible rfl
              rotate_left
              ·simp only [Act.put,sx_,sy_,sz_,i64_w,i32_w]
               rfl
              refine pure_ (i:=22) (N:=some 86) (v:=?_) (a':=?_) #[true,true,true,true,true,true,true,true,true,true,true,true,true,true,true,true,true,true,true,true,true,true,true,false,false,false,false] rfl rfl (any_of HT_.out (by kernel_rfl)) (fun _ _ _ h => h) (Or.inl ⟨by rfl,?_⟩) ?_ ?_
              rotate_left
              ·intro w'
               go_simp
               with_reducible rfl
              rotate_left
              ·simp only [Act.put,sx_,sy_,sz_,i64_w,i32_w]
               rfl
              refine take_ (i:=23) (N:=some 87) (v:=?_) (a':=?_) #[true,true,true,true,true,true,true,true,true,true,true,true,true,true,true,true,true,true,true,true,true,true,true,true,false,false,false] rfl rfl (take_ofW HT_.out HW_.out (by kernel_rfl)) (fun _ _ _ h => h) (Or.inl ⟨by rfl,?_⟩) hHeld ?_ ?_
              rotate_left
              ·rintro w' ⟨s0,s1,s2,s3,s4,s5⟩
               go_simp
               with_reducible rfl
              rotate_left
              ·simp only [Act.put,sx_,sy_,sz_,i64_w,i32_w]
               rfl
              refine pure_ (i:=24) (N:=some 88) (v:=?_) (a':=?_) #[true,true,true,true,true,true,true,true,true,true,true,true,true,true,true,true,true,true,true,true,true,true,true,true,true,false,false] rfl rfl (any_of HT_.out (by kernel_rfl)) (fun _ _ _ h => h) (Or.inl ⟨by rfl,?_⟩) ?_ ?_
              rotate_left
              ·intro w'
               go_simp
               with_reducible rfl
              rotate_left
              ·simp only [Act.put,sx_,sy_,sz_,i64_w,i32_w]
               rfl
              refine pure_ (i:=25) (N:=some 89) (v:=?_) (a':=?_) #[true,true,true,true,true,true,true,true,true,true,true,true,true,true,true,true,true,true,true,true,true,true,true,true,true,true,false] rfl rfl (any_of HT_.out (by kernel_rfl)) (fun _ _ _ h => h) (Or.inl ⟨by rfl,?_⟩) ?_ ?_
              rotate_left
              ·intro w'
               go_simp
               with_reducible rfl
              rotate_left
              ·simp only [Act.put,sx_,sy_,sz_,i64_w,i32_w]
               rfl
              refine pure_ (i:=26) (N:=some 2) (v:=?_) (a':=?_) #[true,true,true,true,true,true,true,true,true,true,true,true,true,true,true,true,true,true,true,true,true,true,true,true,true,true,true] rfl rfl (any_of HT_.out (by kernel_rfl)) (fun _ _ _ h => h) (Or.inl ⟨by rfl,?_⟩) ?_ ?_
              rotate_left
              ·intro w'
               go_simp
               with_reducible rfl
              rotate_left
              ·simp only [Act.put,sx_,sy_,sz_,i64_w,i32_w]
               rfl
              refine done_ (done_of HT_.out (by kernel_rfl)) ?_
              try go_wp2
              go_ret
              exact ⟨qe_,u1_ HB GE538⟩
             ·rw [if_neg c60] at H
              have c60b0 : (t554 == t556) = false:=beq_eq_false_iff_ne.mpr c60
              have c60b1 : (t554 != t556) = true:=bne_iff_ne.mpr c60
              obtain rfl:=Option.some.inj H
              try go_wp2
              have n0_:=mk_ (rd_ HO_6.out)
              have n1_:=mk_ (rd_ HO_7.out)
              have n2_:=mk_ (rd_ HO_43.out)
              have n3_:=mk_ (rd_ HO_539001.out)
              have n4_:=mk_ (rd_ HO_539002.out)
              have n5_:=mk_ (Kd.Q_drew HO_539003.out)
              have n6_:=mk_ (kd_ BK538.out)
              have n7_:=mk_ (bd_ HB.out)
              clear HO_6
              clear HO_7
              clear HO_43
              clear HO_539001
              clear HO_539002
              clear HO_539003
              clear BK538
              clear HB
              have HO_6:=n0_
              have HO_7:=n1_
              have HO_43:=n2_
              have HO_539001:=n3_
              have HO_539002:=n4_
              have HO_539003:=n5_
              have BK538:=n6_
              have HB:=n7_
              clear n0_ n1_ n2_ n3_ n4_ n5_ n6_ n7_
              have p553 : 0 ≤ (t536 : Int):=od_ qa_
              have q553 : t536 < (t530.length : Int):=od_ qa_
              obtain ⟨ad553,e553,hx553_0⟩:=Kd.at_int (rr_ HO_539002.out).2.2 t536 p553 q553
              cases e553
              replace p553:=eq_true p553
              replace q553:=eq_true q553
              have p555 : 0 ≤ (t537 : Int):=od_ qa_
              have q555 : t537 < (t530.length : Int):=od_ qa_
              obtain ⟨ad555,e555,hx555_0⟩:=Kd.at_int (rr_ HO_539002.out).2.2 t537 p555 q555
              obtain rfl : ad553 = ad555:=(by injection e555)
              replace p555:=eq_true p555
              replace q555:=eq_true q555
              obtain ⟨Ao66,co66,eo66⟩:=Kd.R_slice HO_7.out
              (first|subst eo66|(injection eo66 with f1_ f2_ f3_;have f4_:=f1_.symm;have f5_:=f3_.symm;clear f1_ f2_ f3_;subst f4_;subst f5_))
              refine start_ (n:=27) (S:=fun w' => w'.cell? ⟨gb538,0,none⟩ = some (.int .i64 t526) ∧ w'.cell? ⟨gb538,1,none⟩ = some (.slice Ao9 t527.length co9) ∧ w'.cell? ⟨gb538,2,none⟩ = some (.slice (some ad553) t530.length co10) ∧ w'.cell? ⟨gb538,3,none⟩ = some (.slice Ao11 t533.length co11) ∧ w'.cell? (ad553.add (t536).toNat) = some (.int .i64 (rd t530 t536)) ∧ w'.cell? (ad553.add (t537).toNat) = some (.int .i64 (rd t530 t537))) (ds:=[]) #[false,false,false,false,false,false,false,false,false,false,false,false,false,false,false,false,false,false,false,false,false,false,false,false,false,false,false] (by kernel_rfl) rfl rfl ⟨(bc_ BK538.out 0).trans rfl,(bc_ BK538.out 1).trans rfl,(bc_ BK538.out 2).trans rfl,(bc_ BK538.out 3).trans rfl,hx553_0,hx555_0⟩ (fun hHeld => ?_);refine with_tabW laws_FnTreeWay.tab17 laws_FnTreeWay.bits17 (fun HT_ HW_ => ?_)
              generalize wr.drew = w65 at HO_6 HO_7 HO_43 HO_539001 HO_539002 HO_539003 BK538 HB hx553_0 hx555_0 hHeld ⊢
              refine pure_ (i:=0) (N:=some 64) (v:=?_) (a':=?_) #[true,false,false,false,false,false,false,false,false,false,false,false,false,false,false,false,false,false,false,false,false,false,false,false,false,false,false] rfl rfl (any_of HT_.out (by kernel_rfl)) (fun _ _ _ h => h) (Or.inl ⟨by rfl,?_⟩) ?_ ?_
              rotate_left
              ·intro w'
               go_simp
               with_reducible rfl
              rotate_left
              ·simp only [Act.put,sx_,sy_,sz_,i64_w,i32_w]
               rfl
              refine pure_ (i:=2) (N:=some 66) (v:=?_) (a':=?_) #[true,false,true,false,false,false,false,false,false,false,false,false,false,false,false,false,false,false,false,false,false,false,false,false,false,false,false] rfl rfl (any_of HT_.out (by kernel_rfl)) (fun _ _ _ h => h) (Or.inl ⟨by rfl,?_⟩) ?_ ?_
              rotate_left
              ·intro w'
               go_simp
               with_reducible rfl
              rotate_left
              ·simp only [Act.put,sx_,sy_,sz_,i64_w,i32_w]
               rfl
              refine pure_ (i:=3) (N:=some 67) (v:=?_) (a':=?_) #[true,false,true,true,false,false,false,false,false,false,false,false,false,false,false,false,false,false,false,false,false,false,false,false,false,false,false] rfl rfl (any_of HT_.out (by kernel_rfl)) (fun _ _ _ h => h) (Or.inl ⟨by rfl,?_⟩) ?_ ?_
              rotate_left
              ·intro w'
               go_simp
               with_reducible rfl
              rotate_left
              ·simp only [Act.put,sx_,sy_,sz_,i64_w,i32_w]
               rfl
              refine pure_ (i:=5) (N:=some 69) (v:=?_) (a':=?_) #[true,false,true,true,false,true,false,false,false,false,false,false,false,false,false,false,false,false,false,false,false,false,false,false,false,false,false] rfl rfl (any_of HT_.out (by kernel_rfl)) (fun _ _ _ h => h) (Or.inl ⟨by rfl,?_⟩) ?_ ?_
              rotate_left
              ·intro w'
               go_simp
               with_reducible rfl
              rotate_left
              ·simp only [Act.put,sx_,sy_,sz_,i64_w,i32_w]
               rfl
              refine pure_ (i:=9) (N:=some 73) (v:=?_) (a':=?_) #[true,false,true,true,false,true,false,false,false,true,false,false,false,false,false,false,false,false,false,false,false,false,false,false,false,false,false] rfl rfl (any_of HT_.out (by kernel_rfl)) (fun _ _ _ h => h) (Or.inl ⟨by rfl,?_⟩) ?_ ?_
              rotate_left
              ·intro w'
               go_simp
               with_reducible rfl
              rotate_left
              ·simp only [Act.put,sx_,sy_,sz_,i64_w,i32_w]
               rfl
              refine pure_ (i:=11) (N:=some 75) (v:=?_) (a':=?_) #[true,false,true,true,false,true,false,false,false,true,false,true,false,false,false,false,false,false,false,false,false,false,false,false,false,false,false] rfl rfl (any_of HT_.out (by kernel_rfl)) (fun _ _ _ h => h) (Or.inl ⟨by rfl,?_⟩) ?_ ?_
              rotate_left
              ·intro w'
               go_simp
               with_reducible rfl
              rotate_left
              ·simp only [Act.put,sx_,sy_,sz_,i64_w,i32_w]
               rfl
              refine pure_ (i:=12) (N:=some 76) (v:=?_) (a':=?_) #[true,false,true,true,false,true,false,false,false,true,false,true,true,false,false,false,false,false,false,false,false,false,false,false,false,false,false] rfl rfl (any_of HT_.out (by kernel_rfl)) (fun _ _ _ h => h) (Or.inl ⟨by rfl,?_⟩) ?_ ?_
              rotate_left
              ·intro w'
               go_simp
               with_reducible rfl
              rotate_left
              ·simp only [Act.put,sx_,sy_,sz_,i64_w,i32_w]
               rfl
              refine pure_ (i:=14) (N:=some 78) (v:=?_) (a':=?_) #[true,false,true,true,false,true,false,false,false,true,false,true,true,false,true,false,false,false,false,false,false,false,false,false,false,false,false] rfl rfl (any_of HT_.out (by kernel_rfl)) (fun _ _ _ h => h) (Or.inl ⟨by rfl,?_⟩) ?_ ?_
              rotate_left
              ·intro w'
               go_simp
               with_reducible rfl
              rotate_left
              ·simp only [Act.put,sx_,sy_,sz_,i64_w,i32_w]
               rfl
              refine take_ (i:=1) (N:=some 65) (v:=?_) (a':=?_) #[true,true,true,true,false,true,false,false,false,true,false,true,true,false,true,false,false,false,false,false,false,false,false,false,false,false,false] rfl rfl (take_ofW HT_.out HW_.out (by kernel_rfl)) (fun _ _ _ h => h) (Or.inl ⟨by rfl,?_⟩) hHeld ?_ ?_
              rotate_left
              ·rintro w' ⟨s0,s1,s2,s3,s4,s5⟩
               go_simp
               with_reducible rfl
              rotate_left
              ·simp only [Act.put,sx_,sy_,sz_,i64_w,i32_w]
               rfl
              refine take_ (i:=4) (N:=some 68) (v:=?_) (a':=?_) #[true,true,true,true,true,true,false,false,false,true,false,true,true,false,true,false,false,false,false,false,false,false,false,false,false,false,false] rfl rfl (take_ofW HT_.out HW_.out (by kernel_rfl)) (fun _ _ _ h => h) (Or.inl ⟨by rfl,?_⟩) hHeld ?_ ?_
              rotate_left
              ·rintro w' ⟨s0,s1,s2,s3,s4,s5⟩
               go_simp
               with_reducible rfl
              rotate_left
              ·simp only [Act.put,sx_,sy_,sz_,i64_w,i32_w]
               rfl
              refine pure_ (i:=6) (N:=some 70) (v:=?_) (a':=?_) #[true,true,true,true,true,true,true,false,false,true,false,true,true,false,true,false,false,false,false,false,false,false,false,false,false,false,false] rfl rfl (any_of HT_.out (by kernel_rfl)) (fun _ _ _ h => h) (Or.inl ⟨by rfl,?_⟩) ?_ ?_
              rotate_left
              ·intro w'
               go_simp
               with_reducible rfl
              rotate_left
              ·simp only [Act.put,sx_,sy_,sz_,i64_w,i32_w]
               rfl
              refine take_ (i:=7) (N:=some 71) (v:=?_) (a':=?_) #[true,true,true,true,true,true,true,true,false,true,false,true,true,false,true,false,false,false,false,false,false,false,false,false,false,false,false] rfl rfl (take_ofW HT_.out HW_.out (by kernel_rfl)) (fun _ _ _ h => h) (Or.inl ⟨by rfl,?_⟩) hHeld ?_ ?_
              rotate_left
              ·rintro w' ⟨s0,s1,s2,s3,s4,s5⟩
               go_simp
               with_reducible rfl
              rotate_left
              ·simp only [Act.put,sx_,sy_,sz_,i64_w,i32_w]
               rfl
              refine take_ (i:=10) (N:=some 74) (v:=?_) (a':=?_) #[true,true,true,true,true,true,true,true,false,true,true,true,true,false,true,false,false,false,false,false,false,false,false,false,false,false,false] rfl rfl (take_ofW HT_.out HW_.out (by kernel_rfl)) (fun _ _ _ h => h) (Or.inl ⟨by rfl,?_⟩) hHeld ?_ ?_
              rotate_left
              ·rintro w' ⟨s0,s1,s2,s3,s4,s5⟩
               go_simp
               with_reducible rfl
              rotate_left
              ·simp only [Act.put,sx_,sy_,sz_,i64_w,i32_w]
               rfl
              refine take_ (i:=13) (N:=some 77) (v:=?_) (a':=?_) #[true,true,true,true,true,true,true,true,false,true,true,true,true,true,true,false,false,false,false,false,false,false,false,false,false,false,false] rfl rfl (take_ofW HT_.out HW_.out (by kernel_rfl)) (fun _ _ _ h => h) (Or.inl ⟨by rfl,?_⟩) hHeld ?_ ?_
              rotate_left
              ·rintro w' ⟨s0,s1,s2,s3,s4,s5⟩
               go_simp
               with_reducible rfl
              rotate_left
              ·simp only [Act.put,sx_,sy_,sz_,i64_w,i32_w]
               rfl
              refine pure_ (i:=15) (N:=some 79) (v:=?_) (a':=?_) #[true,true,true,true,true,true,true,true,false,true,true,true,true,true,true,true,false,false,false,false,false,false,false,false,false,false,false] rfl rfl (any_of HT_.out (by kernel_rfl)) (fun _ _ _ h => h) (Or.inl ⟨by rfl,?_⟩) ?_ ?_
              rotate_left
              ·intro w'
               go_simp
               with_reducible rfl
              rotate_left
              ·simp only [Act.put,sx_,sy_,sz_,i64_w,i32_w]
               rfl
              refine take_ (i:=16) (N:=some 80) (v:=?_) (a':=?_) #[true,true,true,true,true,true,true,true,false,true,true,true,true,true,true,true,true,false,false,false,false,false,false,false,false,false,false] rfl rfl (take_ofW HT_.out HW_.out (by kernel_rfl)) (fun _ _ _ h => h) (Or.inl ⟨by rfl,?_⟩) hHeld ?_ ?_
              rotate_left
              ·rintro w' ⟨s0,s1,s2,s3,s4,s5⟩
               go_simp
               with_reducible rfl
              rotate_left
              ·simp only [Act.put,sx_,sy_,sz_,i64_w,i32_w]
               rfl
              refine one_ (i:=8) (N:=some 72) #[true,true,true,true,true,true,true,true,true,true,true,true,true,true,true,true,true,false,false,false,false,false,false,false,false,false,false] rfl rfl (one_of HT_.out (by kernel_rfl)) (by decide) (fun K hK => ?_)
              refine goes_ Try.func37 (by kernel_rfl) rfl #[.int .i64 t526,.slice Ao66 x7_2.length co66,.int .i64 (rd t530 t536)] (by rfl) rfl rfl qm_ ?_
              with_reducible refine (impl_RootOf.calls t526 _ _ x7_2 (rd t530 t536) t554 _ ?side1 ?side2 A56.out).mono ?_
              (case side1 => repeat (first|exact (rr_ HO_7.out).2.2|(with_reducible refine ca_ ?_ _)|(with_reducible refine cn_ ?_ _)|(with_reducible refine cd_ ?_)))
              (case side2 => exact (rr_ HO_7.out).2.1)
              rintro e w67 ⟨rfl,hb⟩
              have HS4_:=(hb.cell (wl_ _ _ (hHeld.2.2.2.2.1))).trans (hHeld.2.2.2.2.1)
              have HS5_:=(hb.cell (wl_ _ _ (hHeld.2.2.2.2.2))).trans (hHeld.2.2.2.2.2)
              refine ⟨_,rfl,?_⟩
              have n0_:=mk_ (rb_ (qr_ HO_6) hb)
              have n1_:=mk_ (rb_ (qr_ HO_7) hb)
              have n2_:=mk_ (rb_ (qr_ HO_43) hb)
              have n3_:=mk_ (rb_ (qr_ HO_539001) hb)
              have n4_:=mk_ (rb_ (qr_ HO_539002) hb)
              have n5_:=mk_ (Kd.Q_below (by (with_reducible repeat (first|apply Kd.Q_alloc|apply Kd.Q_drewN|apply Kd.Q_drew));exact HO_539003.out) hb)
              have n6_:=mk_ (blk_below (g:=gb538) (o:=.cells #[.int .i64 t526,.slice Ao9 t527.length co9,.slice (some ad553) t530.length co10,.slice Ao11 t533.length co11] 30 (0,0)) (qk_ BK538) hb)
              have n7_:=mk_ (st_ (qc_ HB GE538) hb)
              clear HO_6
              clear HO_7
              clear HO_43
              clear HO_539001
              clear HO_539002
              clear HO_539003
              clear BK538
              clear HB
              have HO_6:=n0_
              have HO_7:=n1_
              have HO_43:=n2_
              have HO_539001:=n3_
              have HO_539002:=n4_
              have HO_539003:=n5_
              have BK538:=n6_
              have HB:=n7_
              clear n0_ n1_ n2_ n3_ n4_ n5_ n6_ n7_
              (try clear hb)
              (try clear hb2)
              (try clear hk)
              (try clear hi)
              refine hK.out _ _ ⟨(bc_ BK538.out 0).trans rfl,(bc_ BK538.out 1).trans rfl,(bc_ BK538.out 2).trans rfl,(bc_ BK538.out 3).trans rfl,HS4_,HS5_⟩ (fun hHeld => ?_)
              clear hK K
              refine norm_ (a':=?_) ?_ ?_
              rotate_left
              ·show Act.put _ (some 72) _ = _
               simp only [Act.put,sx_,sy_,sz_,i64_w,i32_w]
               rfl
              refine one_ (i:=17) (N:=some 81) #[true,true,true,true,true,true,true,true,true,true,true,true,true,true,true,true,true,true,false,false,false,false,false,false,false,false,false] rfl rfl (one_of HT_.out (by kernel_rfl)) (by decide) (fun K hK => ?_)
              refine goes_ Try.func37 (by kernel_rfl) rfl #[.int .i64 t526,.slice Ao66 x7_2.length co66,.int .i64 (rd t530 t537)] (by rfl) rfl rfl qm_ ?_
              with_reducible refine (impl_RootOf.calls t526 _ _ x7_2 (rd t530 t537) t556 _ ?side1 ?side2 A59.out).mono ?_
              (case side1 => repeat (first|exact (rr_ HO_7.out).2.2|(with_reducible refine ca_ ?_ _)|(with_reducible refine cn_ ?_ _)|(with_reducible refine cd_ ?_)))
              (case side2 => exact (rr_ HO_7.out).2.1)
              rintro e w68 ⟨rfl,hb⟩
              have HS4_:=(hb.cell (wl_ _ _ (hHeld.2.2.2.2.1))).trans (hHeld.2.2.2.2.1)
              have HS5_:=(hb.cell (wl_ _ _ (hHeld.2.2.2.2.2))).trans (hHeld.2.2.2.2.2)
              refine ⟨_,rfl,?_⟩
              have n0_:=mk_ (rb_ (qr_ HO_6) hb)
              have n1_:=mk_ (rb_ (qr_ HO_7) hb)
              have n2_:=mk_ (rb_ (qr_ HO_43) hb)
              have n3_:=mk_ (rb_ (qr_ HO_539001) hb)
              have n4_:=mk_ (rb_ (qr_ HO_539002) hb)
              have n5_:=mk_ (Kd.Q_below (by (with_reducible repeat (first|apply Kd.Q_alloc|apply Kd.Q_drewN|apply Kd.Q_drew));exact HO_539003.out) hb)
              have n6_:=mk_ (blk_below (g:=gb538) (o:=.cells #[.int .i64 t526,.slice Ao9 t527.length co9,.slice (some ad553) t530.length co10,.slice Ao11 t533.length co11] 30 (0,0)) (qk_ BK538) hb)
              have n7_:=mk_ (st_ (qc_ HB GE538) hb)
              clear HO_6
              clear HO_7
              clear HO_43
              clear HO_539001
              clear HO_539002
              clear HO_539003
              clear BK538
              clear HB
              have HO_6:=n0_
              have HO_7:=n1_
              have HO_43:=n2_
              have HO_539001:=n3_
              have HO_539002:=n4_
              have HO_539003:=n5_
              have BK538:=n6_
              have HB:=n7_
              clear n0_ n1_ n2_ n3_ n4_ n5_ n6_ n7_
              (try clear hb)
              (try clear hb2)
              (try clear hk)
              (try clear hi)
              refine hK.out _ _ ⟨(bc_ BK538.out 0).trans rfl,(bc_ BK538.out 1).trans rfl,(bc_ BK538.out 2).trans rfl,(bc_ BK538.out 3).trans rfl,HS4_,HS5_⟩ (fun hHeld => ?_)
              clear hK K
              refine norm_ (a':=?_) ?_ ?_
              rotate_left
              ·show Act.put _ (some 81) _ = _
               simp only [Act.put,sx_,sy_,sz_,i64_w,i32_w]
               rfl
              refine pure_ (i:=18) (N:=some 82) (v:=?_) (a':=?_) #[true,true,true,true,true,true,true,true,true,true,true,true,true,true,true,true,true,true,true,false,false,false,false,false,false,false,false] rfl rfl (any_of HT_.out (by kernel_rfl)) (fun _ _ _ h => h) (Or.inl ⟨by rfl,?_⟩) ?_ ?_
              rotate_left
              ·intro w'
               go_simp
               with_reducible rfl
              rotate_left
              ·simp only [Act.put,sx_,sy_,sz_,i64_w,i32_w]
               rfl
              refine pure_ (i:=19) (N:=some 83) (v:=?_) (a':=?_) #[true,true,true,true,true,true,true,true,true,true,true,true,true,true,true,true,true,true,true,true,false,false,false,false,false,false,false] rfl rfl (any_of HT_.out (by kernel_rfl)) (fun _ _ _ h => h) (Or.inl ⟨by rfl,?_⟩) ?_ ?_
              rotate_left
              ·intro w'
               go_simp
               with_reducible rfl
              rotate_left
              ·simp only [Act.put,sx_,sy_,sz_,i64_w,i32_w]
               rfl
              refine pure_ (i:=20) (N:=some 84) (v:=undef) (a':=?_) #[true,true,true,true,true,true,true,true,true,true,true,true,true,true,true,true,true,true,true,true,true,false,false,false,false,false,false] rfl rfl (any_of HT_.out (by kernel_rfl)) (fun _ _ _ h => h) (Or.inr ⟨by rfl,rfl⟩) ?_ ?_
              rotate_left
              ·simp only [Act.put,sx_,sy_,sz_,i64_w,i32_w]
               rfl
              refine pure_ (i:=21) (N:=some 85) (v:=undef) (a':=?_) #[true,true,true,true,true,true,true,true,true,true,true,true,true,true,true,true,true,true,true,true,true,true,false,false,false,false,false] rfl rfl (any_of HT_.out (by kernel_rfl)) (fun _ _ _ h => h) (Or.inr ⟨by rfl,rfl⟩) ?_ ?_
              rotate_left
              ·simp only [Act.put,sx_,sy_,sz_,i64_w,i32_w]
               rfl
              refine pure_ (i:=22) (N:=some 86) (v:=undef) (a':=?_) #[true,true,true,true,true,true,true,true,true,true,true,true,true,true,true,true,true,true,true,true,true,true,true,false,false,false,false] rfl rfl (any_of HT_.out (by kernel_rfl)) (fun _ _ _ h => h) (Or.inr ⟨by rfl,rfl⟩) ?_ ?_
              rotate_left
              ·simp only [Act.put,sx_,sy_,sz_,i64_w,i32_w]
               rfl
              refine pure_ (i:=23) (N:=some 87) (v:=undef) (a':=?_) #[true,true,true,true,true,true,true,true,true,true,true,true,true,true,true,true,true,true,true,true,true,true,true,true,false,false,false] rfl rfl (any_of HT_.out (by kernel_rfl)) (fun _ _ _ h => h) (Or.inr ⟨by rfl,rfl⟩) ?_ ?_
              rotate_left
              ·simp only [Act.put,sx_,sy_,sz_,i64_w,i32_w]
               rfl
              refine pure_ (i:=24) (N:=some 88) (v:=undef) (a':=?_) #[true,true,true,true,true,true,true,true,true,true,true,true,true,true,true,true,true,true,true,true,true,true,true,true,true,false,false] rfl rfl (any_of HT_.out (by kernel_rfl)) (fun _ _ _ h => h) (Or.inr ⟨by rfl,rfl⟩) ?_ ?_
              rotate_left
              ·simp only [Act.put,sx_,sy_,sz_,i64_w,i32_w]
               rfl
              refine pure_ (i:=25) (N:=some 89) (v:=?_) (a':=?_) #[true,true,true,true,true,true,true,true,true,true,true,true,true,true,true,true,true,true,true,true,true,true,true,true,true,true,false] rfl rfl (any_of HT_.out (by kernel_rfl)) (fun _ _ _ h => h) (Or.inl ⟨by rfl,?_⟩) ?_ ?_
              rotate_left
              ·intro w'
               go_simp
               with_reducible rfl
              rotate_left
              ·simp only [Act.put,sx_,sy_,sz_,i64_w,i32_w]
               rfl
              refine pure_ (i:=26) (N:=some 2) (v:=?_) (a':=?_) #[true,true,true,true,true,true,true,true,true,true,true,true,true,true,true,true,true,true,true,true,true,true,true,true,true,true,true] rfl rfl (any_of HT_.out (by kernel_rfl)) (fun _ _ _ h => h) (Or.inl ⟨by rfl,?_⟩) ?_ ?_
              rotate_left
              ·intro w'
               go_simp
               with_reducible rfl
              rotate_left
              ·simp only [Act.put,sx_,sy_,sz_,i64_w,i32_w]
               rfl
              refine done_ (done_of HT_.out (by kernel_rfl)) ?_
              try go_wp2
              go_ret
              exact ⟨qe_,u1_ HB GE538⟩
            ·rw [if_neg c58] at H
             exact absurd H (by simp)
           ·rw [if_neg c57] at H
            exact absurd H (by simp)
          ·rw [if_neg c55] at H
           exact absurd H (by simp)
         ·rw [if_neg c54] at H
          exact absurd H (by simp)

/-- THE ONE PURE STATEMENT of laws_FnTreeWay: yours. -/
def laws_FnTreeWay.Pure : Prop:=∀ (l0 : List Int),l0.length ≤ maxLen → l0.length * 1 ≤ 140737488351232 → (∀ x ∈ l0,(Lit.int .u8 x).wf = true) → ∃ k,laws_FnTreeWay.f k l0 = some true
theorem laws_FnTreeWay.walk (P : laws_FnTreeWay.Pure) (a0 : Option Addr) (len0 cap0 : Nat) (z0 : List Int) (w : World) (w0 : (a0 = none ∧ len0 = 0 ∧ cap0 = 0 ∧ z0 = []) ∨ ∃ x,a0 = some x ∧ len0 ≤ cap0 ∧ cap0 ≤ maxLen ∧ z0.length = cap0 ∧ (∀ i,i < z0.length → w.cell? (x.add i) = some (.int .u8 (z0.getD i 0))) ∧ ∀ n ∈ z0,(Lit.int .u8 n).wf = true) (y0 : len0 * 1 ≤ 140737488351232) :
  Calls Try.prog 9 #[.slice a0 len0 cap0] w fun e w' => e = .returned (.bool true) ∧ Below w.heap.size w w':=by
 obtain ⟨l0,rfl,hr0,hm0,hw0,hc0⟩:=ReadsInt.ofRowC w0
 obtain ⟨k,h⟩:=P l0 hm0 y0 hw0
 refine (laws_FnTreeWay.calls k _ _ l0 true w (Kd.C_of_reads (d:=(0 : Int)) (h1:=fun _ => rfl) hr0) hc0 h).mono ?_
 rintro e w' ⟨rfl,hd⟩
 exact ⟨rfl,hd⟩

-- LIB joined
/-- A place is in a set of places. -/
def memB (s : List Bool) (i : Nat) : Prop:=s[i]? = some true
/-- A cable brings the other end into a set that has one. -/
def relB (s : List Bool) (c : S51) : List Bool:=if rdOf false s c.f0 = true ∨ rdOf false s c.f1 = true then (s.set c.f0.toNat true).set c.f1.toNat true else s
def passB (cs : List S51) : Nat → List Bool → List Bool
  | 0,s => s
  | k + 1,s => cs.foldl relB (passB cs k s)
/-- The bridges to which a bridge is joined. -/
def jnB (cs : List S51) (N x : Nat) : List Bool:=passB cs N ((List.replicate N false).set x true)
def CabOk (cs : List S51) (N : Nat) : Prop:=∀ c ∈ cs,0 ≤ c.f0 ∧ c.f0 < N ∧ 0 ≤ c.f1 ∧ c.f1 < N
/-- No cable leads out of it. -/
def ClosedP (cs : List S51) (P : Nat → Prop) : Prop:=∀ c ∈ cs,P c.f0.toNat ↔ P c.f1.toNat
theorem rdB_mem (s : List Bool) (x : Int) : rdOf false s x = true ↔ memB s x.toNat:=by
  unfold rdOf memB
  rw [List.getD_eq_getElem?_getD]
  cases s[x.toNat]? with
  | none => simp
  | some b => simp
theorem relB_len (s : List Bool) (c : S51) : (relB s c).length = s.length:=by unfold relB;split <;> simp
theorem foldB_len (cs : List S51) : ∀ s,(cs.foldl relB s).length = s.length:=by
  induction cs with
  | nil => exact fun _ => rfl
  | cons c cs ih => intro s;rw [List.foldl_cons,ih,relB_len]
theorem passB_len (cs : List S51) (k : Nat) (s : List Bool) : (passB cs k s).length = s.length:=by
  induction k with
  | zero => rfl
  | succ k ih => rw [passB,foldB_len,ih]
theorem memB_set (s : List Bool) (j i : Nat) (hj : j < s.length) : memB (s.set j true) i ↔ memB s i ∨ i = j:=by
  unfold memB
  rw [List.getElem?_set]
  by_cases e : j = i
  · subst e
    rw [if_pos rfl,if_pos hj];simp
  · rw [if_neg e]
    exact ⟨Or.inl,fun h => h.resolve_right (fun x => e x.symm)⟩
theorem relB_mem (s : List Bool) (c : S51) (h0 : c.f0.toNat < s.length) (h1 : c.f1.toNat < s.length) (i : Nat) : memB (relB s c) i ↔ memB s i ∨ ((i = c.f0.toNat ∨ i = c.f1.toNat) ∧ (memB s c.f0.toNat ∨ memB s c.f1.toNat)):=by
  unfold relB
  split
  · rename_i h
    rw [rdB_mem,rdB_mem] at h
    rw [memB_set _ _ _ (by rw [List.length_set];exact h1),memB_set _ _ _ h0]
    simp only [h,and_true]
    exact or_assoc
  · rename_i h
    rw [rdB_mem,rdB_mem] at h
    simp only [h,and_false,or_false]
theorem setB_count (s : List Bool) (j : Nat) (hj : j < s.length) : s.count true ≤ (s.set j true).count true ∧ ((s.set j true).count true = s.count true → s.set j true = s):=by
  have e:=List.count_set (a:=true) (b:=true) hj
  by_cases h : s[j] = true
  · have e2 : s.set j true = s:=by
      apply List.ext_getElem (by simp)
      intro n _ h2
      rw [List.getElem_set]
      split
      · rename_i q;subst q;exact h.symm
      · rfl
    rw [e2];exact ⟨Nat.le_refl _,fun _ => rfl⟩
  · have h' : (s[j] == true) = false:=by simpa using h
    rw [h'] at e
    simp at e
    rw [e]
    exact ⟨by omega,fun x => by omega⟩
theorem relB_count (s : List Bool) (c : S51) (h0 : c.f0.toNat < s.length) (h1 : c.f1.toNat < s.length) : s.count true ≤ (relB s c).count true ∧ ((relB s c).count true = s.count true → relB s c = s):=by
  unfold relB
  split
  · obtain ⟨a1,a2⟩:=setB_count s _ h0
    obtain ⟨b1,b2⟩:=setB_count (s.set c.f0.toNat true) c.f1.toNat (by rw [List.length_set];exact h1)
    refine ⟨by omega,fun e => ?_⟩
    rw [b2 (by omega),a2 (by omega)]
  · exact ⟨Nat.le_refl _,fun _ => rfl⟩
theorem foldB_count {N : Nat} (cs : List S51) (hc : CabOk cs N) : ∀ s : List Bool,s.length = N → s.count true ≤ (cs.foldl relB s).count true ∧ ((cs.foldl relB s).count true = s.count true → ∀ c ∈ cs,relB s c = s):=by
  induction cs with
  | nil => exact fun s _ => ⟨Nat.le_refl _,fun _ c hc => by cases hc⟩
  | cons c cs ih =>
    intro s hs
    obtain ⟨g1,g2,g3,g4⟩:=hc c (List.mem_cons_self)
    obtain ⟨r1,r2⟩:=relB_count s c (by omega) (by omega)
    obtain ⟨i1,i2⟩:=ih (fun x hx => hc x (List.mem_cons_of_mem _ hx)) (relB s c) (by rw [relB_len];exact hs)
    rw [List.foldl_cons]
    refine ⟨by omega,fun e x hx => ?_⟩
    have e1:=r2 (by omega)
    rw [e1] at i2
    rcases List.mem_cons.1 hx with rfl | hx
    · exact e1
    · exact i2 (by rw [e1] at e;exact e) x hx
theorem foldB_fix (cs : List S51) (s : List Bool) (h : ∀ c ∈ cs,relB s c = s) : cs.foldl relB s = s:=by
  induction cs with
  | nil => rfl
  | cons c cs ih => rw [List.foldl_cons,h c List.mem_cons_self];exact ih (fun x hx => h x (List.mem_cons_of_mem _ hx))
theorem passB_grow {N : Nat} (cs : List S51) (hc : CabOk cs N) (s : List Bool) (hs : s.length = N) (k : Nat) : (∀ c ∈ cs,relB (passB cs k s) c = passB cs k s) ∨ s.count true + k ≤ (passB cs k s).count true:=by
  induction k with
  | zero => right;exact Nat.le_refl _
  | succ k ih =>
    rcases ih with h | h
    · left
      have e : passB cs (k + 1) s = passB cs k s:=foldB_fix cs _ h
      rw [e];exact h
    · obtain ⟨i1,i2⟩:=foldB_count cs hc (passB cs k s) (by rw [passB_len];exact hs)
      by_cases e : (cs.foldl relB (passB cs k s)).count true = (passB cs k s).count true
      · left
        have e' : passB cs (k + 1) s = passB cs k s:=foldB_fix cs _ (i2 e)
        rw [e'];exact i2 e
      · right
        show _ ≤ (cs.foldl relB (passB cs k s)).count true
        omega
theorem memB_lt {s : List Bool} {i : Nat} (h : memB s i) : i < s.length:=(List.getElem?_eq_some_iff.1 h).1
/-- After as many rounds as there are bridges nothing more comes. -/
theorem passB_closed {N : Nat} (cs : List S51) (hc : CabOk cs N) (s : List Bool) (hs : s.length = N) (x : Nat) (hx : memB s x) : ClosedP cs (memB (passB cs N s)):=by
  have hl:=passB_len cs N s
  have h1 : 1 ≤ s.count true:=List.count_pos_iff.2 (List.mem_of_getElem? hx)
  have hfix : ∀ c ∈ cs,relB (passB cs N s) c = passB cs N s:=by
    rcases passB_grow cs hc s hs N with h | h
    · exact h
    · have:=List.count_le_length (a:=true) (l:=passB cs N s)
      omega
  intro c hm
  obtain ⟨g1,g2,g3,g4⟩:=hc c hm
  have e:=fun i => relB_mem (passB cs N s) c (by omega) (by omega) i
  rw [hfix c hm] at e
  constructor
  · intro h;exact (e _).2 (Or.inr ⟨Or.inr rfl,Or.inl h⟩)
  · intro h;exact (e _).2 (Or.inr ⟨Or.inl rfl,Or.inr h⟩)
theorem foldB_mem {N : Nat} (cs : List S51) (hc : CabOk cs N) : ∀ s : List Bool,s.length = N → (∀ i,memB s i → memB (cs.foldl relB s) i) ∧ ∀ P : Nat → Prop,ClosedP cs P → (∀ i,memB s i → P i) → ∀ i,memB (cs.foldl relB s) i → P i:=by
  induction cs with
  | nil => exact fun s _ => ⟨fun _ h => h,fun P _ h => h⟩
  | cons c cs ih =>
    intro s hs
    obtain ⟨g1,g2,g3,g4⟩:=hc c (List.mem_cons_self)
    obtain ⟨i1,i2⟩:=ih (fun x hx => hc x (List.mem_cons_of_mem _ hx)) (relB s c) (by rw [relB_len];exact hs)
    have e:=fun i => relB_mem s c (by omega) (by omega) i
    rw [List.foldl_cons]
    refine ⟨fun i h => i1 i ((e i).2 (Or.inl h)),fun P hP h => i2 P (fun x hx => hP x (List.mem_cons_of_mem _ hx)) (fun i hi => ?_)⟩
    have hc':=hP c List.mem_cons_self
    rcases (e i).1 hi with q | ⟨q,w⟩
    · exact h i q
    · have hb : P c.f0.toNat:=by
        rcases w with w | w
        · exact h _ w
        · exact hc'.2 (h _ w)
      rcases q with rfl | rfl
      · exact hb
      · exact hc'.1 hb
theorem passB_mem {N : Nat} (cs : List S51) (hc : CabOk cs N) (s : List Bool) (hs : s.length = N) (k : Nat) : (∀ i,memB s i → memB (passB cs k s) i) ∧ ∀ P : Nat → Prop,ClosedP cs P → (∀ i,memB s i → P i) → ∀ i,memB (passB cs k s) i → P i:=by
  induction k with
  | zero => exact ⟨fun _ h => h,fun P _ h => h⟩
  | succ k ih =>
    obtain ⟨i1,i2⟩:=ih
    obtain ⟨j1,j2⟩:=foldB_mem cs hc (passB cs k s) (by rw [passB_len];exact hs)
    exact ⟨fun i h => j1 i (i1 i h),fun P hP h => j2 P hP (i2 P hP h)⟩
theorem oneB_mem {N x : Nat} (hx : x < N) (i : Nat) : memB ((List.replicate N false).set x true) i ↔ i = x:=by
  rw [memB_set _ _ _ (by simp;exact hx)]
  constructor
  · rintro (h | h)
    · unfold memB at h
      rw [List.getElem?_replicate] at h
      split at h <;> simp at h
    · exact h
  · exact Or.inr
theorem jnB_len (cs : List S51) (N x : Nat) : (jnB cs N x).length = N:=by unfold jnB;rw [passB_len];simp
theorem jnB_self {N x : Nat} {cs : List S51} (hc : CabOk cs N) (hx : x < N) : memB (jnB cs N x) x:=(passB_mem cs hc _ (by simp) N).1 x ((oneB_mem hx x).2 rfl)
theorem jnB_closed {N x : Nat} {cs : List S51} (hc : CabOk cs N) (hx : x < N) : ClosedP cs (memB (jnB cs N x)):=passB_closed cs hc _ (by simp) x ((oneB_mem hx x).2 rfl)
theorem jnB_least {N x : Nat} {cs : List S51} (hc : CabOk cs N) (hx : x < N) {P : Nat → Prop} (hP : ClosedP cs P) (h : P x) {i : Nat} (hi : memB (jnB cs N x) i) : P i :=
  (passB_mem cs hc _ (by simp) N).2 P hP (fun j hj => by rw [(oneB_mem hx j).1 hj];exact h) i hi
theorem jnB_symm {N x y : Nat} {cs : List S51} (hc : CabOk cs N) (hx : x < N) (hy : y < N) (h : memB (jnB cs N x) y) : memB (jnB cs N y) x:=by
  by_cases c : memB (jnB cs N y) x
  · exact c
  · have hP : ClosedP cs (fun i => ¬ memB (jnB cs N y) i):=fun k hk => not_congr (jnB_closed hc hy k hk)
    exact absurd (jnB_self hc hy) (jnB_least hc hx hP c h)
theorem jnB_trans {N x y z : Nat} {cs : List S51} (hc : CabOk cs N) (hx : x < N) (hy : y < N) (h : memB (jnB cs N x) y) (h2 : memB (jnB cs N y) z) : memB (jnB cs N x) z :=
  jnB_least hc hy (jnB_closed hc hx) h h2
-- the roots
def thrB (m : Int) (o : List Int) : List Bool:=o.map fun v => decide (v ≤ m)
theorem thrB_mem (m : Int) (o : List Int) (i : Nat) (hi : i < o.length) : memB (thrB m o) i ↔ o[i] ≤ m:=by
  unfold memB thrB
  rw [List.getElem?_map,List.getElem?_eq_getElem hi]
  simp
theorem thrB_rel (m : Int) (o : List Int) (c : S51) (g1 : 0 ≤ c.f0) (g2 : c.f0 < o.length) (g3 : 0 ≤ c.f1) (g4 : c.f1 < o.length) : thrB m (relaxR o c) = relB (thrB m o) c:=by
  obtain ⟨a,ha⟩:=Int.eq_ofNat_of_zero_le g1
  obtain ⟨b,hb⟩:=Int.eq_ofNat_of_zero_le g3
  have la : a < o.length:=by omega
  have lb : b < o.length:=by omega
  have e1 : rdOf false (thrB m o) c.f0 = decide (o[a] ≤ m):=by rw [ha];simp [rdOf,thrB,List.getD_eq_getElem?_getD,la]
  have e2 : rdOf false (thrB m o) c.f1 = decide (o[b] ≤ m):=by rw [hb];simp [rdOf,thrB,List.getD_eq_getElem?_getD,lb]
  have d1 : rd o c.f0 = o[a]:=by rw [ha];exact rd_get o a la
  have d2 : rd o c.f1 = o[b]:=by rw [hb];exact rd_get o b lb
  have hmin : decide (mn (o[a]) (o[b]) ≤ m) = (decide (o[a] ≤ m) || decide (o[b] ≤ m)):=by
    rw [← Bool.decide_or,decide_eq_decide]
    show (if o[b] < o[a] then o[b] else o[a]) ≤ m ↔ _
    split <;> omega
  unfold relaxR relB
  rw [e1,e2,d1,d2]
  unfold thrB
  rw [List.map_set,List.map_set,hmin]
  by_cases h : decide (o[a] ≤ m) = true ∨ decide (o[b] ≤ m) = true
  · rw [if_pos h,show (decide (o[a] ≤ m) || decide (o[b] ≤ m)) = true by simpa using h]
  · rw [if_neg h]
    have h1 : decide (o[a] ≤ m) = false:=by cases q : decide (o[a] ≤ m) <;> simp_all
    have h2 : decide (o[b] ≤ m) = false:=by cases q : decide (o[b] ≤ m) <;> simp_all
    rw [h1,h2,Bool.or_self]
    apply List.ext_getElem (by simp)
    intro n _ h2'
    rw [List.getElem_set,List.getElem_set]
    simp only [hb,ha,Int.toNat_natCast]
    have hn : n < o.length:=by simpa using h2'
    split
    · rename_i q;subst q;simp [h2]
    · split
      · rename_i q;subst q;simp [h1]
      · rfl
theorem thrB_fold (m : Int) {N : Nat} (cs : List S51) (hc : CabOk cs N) : ∀ o : List Int,o.length = N → thrB m (cs.foldl relaxR o) = cs.foldl relB (thrB m o):=by
  induction cs with
  | nil => exact fun _ _ => rfl
  | cons c cs ih =>
    intro o ho
    obtain ⟨g1,g2,g3,g4⟩:=hc c (List.mem_cons_self)
    rw [List.foldl_cons,List.foldl_cons,ih (fun x hx => hc x (List.mem_cons_of_mem _ hx)) _ (by unfold relaxR;simp;exact ho),thrB_rel m o c g1 (by omega) g3 (by omega)]
theorem thrB_pass (m : Int) {N : Nat} (cs : List S51) (hc : CabOk cs N) (o : List Int) (ho : o.length = N) (k : Nat) : thrB m (passR cs k o) = passB cs k (thrB m o):=by
  induction k with
  | zero => rfl
  | succ k ih => rw [passR,passB,thrB_fold m cs hc _ (by rw [passR_len];exact ho),ih]
theorem fillL_get (k : Nat) (l : List Int) (i : Nat) (hi : i < (fillL k l).length) (hk : i < k) : (fillL k l)[i] = (i : Int):=by
  induction k with
  | zero => omega
  | succ k ih =>
    simp only [fillL] at hi ⊢
    rw [List.getElem_set]
    split
    · rename_i q;subst q;rfl
    · exact ih (by rw [List.length_set] at hi;exact hi) (by omega)
theorem rootsL_len (N : Nat) (cs : List S51) : (rootsL N cs).length = N:=by unfold rootsL;rw [passR_len,fillL_len];simp
/-- A bridge's root is the least of those to which it is joined. -/
theorem roots_le {N i : Nat} {cs : List S51} (hc : CabOk cs N) (hi : i < N) (m : Int) : (rootsL N cs)[i]'(by rw [rootsL_len];exact hi) ≤ m ↔ ∃ b : Nat,b < N ∧ (b : Int) ≤ m ∧ memB (jnB cs N b) i:=by
  have hfl : (fillL N (List.replicate N 0)).length = N:=by rw [fillL_len];simp
  rw [← thrB_mem m (rootsL N cs) i (by rw [rootsL_len];exact hi)]
  unfold rootsL
  rw [thrB_pass m cs hc _ hfl]
  have hst : ∀ j,memB (thrB m (fillL N (List.replicate N 0))) j ↔ j < N ∧ (j : Int) ≤ m:=by
    intro j
    constructor
    · intro h
      have hj : j < N:=by have:=memB_lt h;unfold thrB at this;rw [List.length_map,hfl] at this;exact this
      rw [thrB_mem _ _ _ (by omega),fillL_get _ _ _ (by omega) hj] at h
      exact ⟨hj,h⟩
    · rintro ⟨h1,h2⟩
      rw [thrB_mem _ _ _ (by omega),fillL_get _ _ _ (by omega) h1]
      exact h2
  have hlen : (thrB m (fillL N (List.replicate N 0))).length = N:=by unfold thrB;rw [List.length_map,hfl]
  obtain ⟨p1,p2⟩:=passB_mem cs hc (thrB m (fillL N (List.replicate N 0))) hlen N
  constructor
  · intro h
    refine p2 (fun i => ∃ b : Nat,b < N ∧ (b : Int) ≤ m ∧ memB (jnB cs N b) i) ?_ ?_ i h
    · intro c hcm
      exact ⟨fun ⟨b,h1,h2,h3⟩ => ⟨b,h1,h2,(jnB_closed hc h1 c hcm).1 h3⟩,fun ⟨b,h1,h2,h3⟩ => ⟨b,h1,h2,(jnB_closed hc h1 c hcm).2 h3⟩⟩
    · intro j hj
      obtain ⟨h1,h2⟩:=(hst j).1 hj
      exact ⟨j,h1,h2,jnB_self hc h1⟩
  · rintro ⟨b,h1,h2,h3⟩
    have hb:=(hst b).2 ⟨h1,h2⟩
    exact jnB_least hc h1 (passB_closed cs hc _ hlen b hb) (p1 b hb) h3
theorem roots_join {N i j : Nat} {cs : List S51} (hc : CabOk cs N) (hi : i < N) (hj : j < N) : (rootsL N cs)[i]'(by rw [rootsL_len];exact hi) = (rootsL N cs)[j]'(by rw [rootsL_len];exact hj) ↔ memB (jnB cs N i) j:=by
  constructor
  · intro e
    obtain ⟨b,b1,b2,b3⟩:=(roots_le hc hi _).1 (Int.le_refl _)
    obtain ⟨d,d1,d2,d3⟩:=(roots_le hc hj _).1 (Int.le_refl _)
    have q1:=(roots_le hc hi (d : Int))
    have x1:=jnB_symm hc b1 hi b3
    have x2:=jnB_symm hc d1 hj d3
    have y1 : (rootsL N cs)[i]'(by rw [rootsL_len];exact hi) ≤ b:=(roots_le hc hi _).2 ⟨b,b1,Int.le_refl _,b3⟩
    have y2 : (rootsL N cs)[j]'(by rw [rootsL_len];exact hj) ≤ d:=(roots_le hc hj _).2 ⟨d,d1,Int.le_refl _,d3⟩
    have : b = d:=by omega
    subst this
    exact jnB_trans hc hi b1 x1 d3
  · intro h
    have h':=jnB_symm hc hi hj h
    apply Int.le_antisymm
    · obtain ⟨d,d1,d2,d3⟩:=(roots_le hc hj _).1 (Int.le_refl _)
      exact (roots_le hc hi _).2 ⟨d,d1,d2,jnB_trans hc d1 hj d3 h'⟩
    · obtain ⟨d,d1,d2,d3⟩:=(roots_le hc hi _).1 (Int.le_refl _)
      exact (roots_le hc hj _).2 ⟨d,d1,d2,jnB_trans hc d1 hi d3 h⟩

end Go.Proofs.Ytdamdcdjodmemaa.PAll
