/- Proved here: contracts of functions of the given program, or lemmas on them, for the laws of this seat. Written by xprint.py, a program of this session, on the ground of the kit's print; parts by hand: wip/x/ext. -/
import Derived.Test.YtdpnloibbimblaaPAllx0
import Derived.Test.YtdpnloibbimblaaPAllx1
import Derived.Test.YtdpnloibbimblaaPAllx3
import Derived.Test.YtdpnloibbimblaaPAllx5
import Derived.Test.YtdpnloibbimblaaPAllx6
namespace Go.Proofs.Ytdpnloibbimblaa.PAll
open Go.RowKit Go.Proofs.YtdpnloibbimblaaW.PrintWords Go.Proofs.YtdpnloibbimblaaW.PrintLast Go.Proofs.YtdpnloibbimblaaW.PrintMore
attribute [local go_sem] max2_int min2_int max_two min_two max_three min_three max_four min_four   -- for this text's walks alone
set_option linter.unusedVariables false
set_option linter.unusedSimpArgs false

/-! ### impl_LinkBound: function 22 -/
def impl_LinkBound.f (a0 : Int) (a1 : Int) (l2 : List Int) (l3 : List Int) : Option (Int):=(impl_within.f a0 1 8).bind fun t616 => (if t616 = true then ((impl_within.f a1 0 60).bind fun t617 => (if t617 = true then ((impl_FatesValid.f l2).bind fun t618 => (if t618 = true then ((impl_FatesValid.f l3).bind fun t619 => (if t619 = true then (if a0 = 0 then (none) else (some (wrap64 ((mx (l2.length : Int) (l3.length : Int)) + (wrap64 (Int.tdiv (wrap64 ((wrap64 (a1 + a0)) - 1)) a0)))))) else (some (-1)))) else (some (-1)))) else (some (-1)))) else (some (-1)))
set_option maxHeartbeats 8000000 in
set_option maxRecDepth 100000 in
theorem impl_LinkBound.calls (a0 : Int) (a1 : Int) (A2 : Option Addr) (c2 : Nat) (l2 : List Int) (A3 : Option Addr) (c3 : Nat) (l3 : List Int) (r : Int) (w : World) (hr2 : Kd.C (Kd.int .i64) w A2 l2.length l2) (hc2 : l2.length ≤ c2) (hr3 : Kd.C (Kd.int .i64) w A3 l3.length l3) (hc3 : l3.length ≤ c3) (h : impl_LinkBound.f a0 a1 l2 l3 = some r) :
  Calls Try.prog 22 #[.int .i64 a0,.int .i64 a1,.slice A2 l2.length c2,.slice A3 l3.length c3] w fun e w' => e = .returned (.int .i64 r) ∧ Below w.heap.size w w':=by
 have HR2:=mk_ hr2
 have HC2:=mk_ hc2
 clear hr2 hc2
 have HR3:=mk_ hr3
 have HC3:=mk_ hc3
 clear hr3 hc3
 have HB:=mk_ (Below.refl w.heap.size w)
 have H : ((impl_within.f a0 1 8).bind fun t616 => (if t616 = true then ((impl_within.f a1 0 60).bind fun t617 => (if t617 = true then ((impl_FatesValid.f l2).bind fun t618 => (if t618 = true then ((impl_FatesValid.f l3).bind fun t619 => (if t619 = true then (if a0 = 0 then (none) else (some (wrap64 ((mx (l2.length : Int) (l3.length : Int)) + (wrap64 (Int.tdiv (wrap64 ((wrap64 (a1 + a0)) - 1)) a0)))))) else (some (-1)))) else (some (-1)))) else (some (-1)))) else (some (-1)))) = some r:=h
 clear h
 replace H:=Option.bind_eq_some_iff.mp H
 obtain ⟨t616,A50,H⟩:=H
 replace H : (if t616 = true then ((impl_within.f a1 0 60).bind fun t617 => (if t617 = true then ((impl_FatesValid.f l2).bind fun t618 => (if t618 = true then ((impl_FatesValid.f l3).bind fun t619 => (if t619 = true then (if a0 = 0 then (none) else (some (wrap64 ((mx (l2.length : Int) (l3.length : Int)) + (wrap64 (Int.tdiv (wrap64 ((wrap64 (a1 + a0)) - 1)) a0)))))) else (some (-1)))) else (some (-1)))) else (some (-1)))) else (some (-1))) = some r:=H
 have A5:=mk_ A50
 clear A50
 by_cases c6 : t616 = true
 ·subst c6
  have H1 : ((impl_within.f a1 0 60).bind fun t617 => (if t617 = true then ((impl_FatesValid.f l2).bind fun t618 => (if t618 = true then ((impl_FatesValid.f l3).bind fun t619 => (if t619 = true then (if a0 = 0 then (none) else (some (wrap64 ((mx (l2.length : Int) (l3.length : Int)) + (wrap64 (Int.tdiv (wrap64 ((wrap64 (a1 + a0)) - 1)) a0)))))) else (some (-1)))) else (some (-1)))) else (some (-1)))) = some r:=by rw [if_pos rfl] at H;exact H
  clear H
  have H:=H1
  clear H1
  replace H:=Option.bind_eq_some_iff.mp H
  obtain ⟨t617,A70,H⟩:=H
  replace H : (if t617 = true then ((impl_FatesValid.f l2).bind fun t618 => (if t618 = true then ((impl_FatesValid.f l3).bind fun t619 => (if t619 = true then (if a0 = 0 then (none) else (some (wrap64 ((mx (l2.length : Int) (l3.length : Int)) + (wrap64 (Int.tdiv (wrap64 ((wrap64 (a1 + a0)) - 1)) a0)))))) else (some (-1)))) else (some (-1)))) else (some (-1))) = some r:=H
  have A7:=mk_ A70
  clear A70
  by_cases c8 : t617 = true
  ·subst c8
   have H1 : ((impl_FatesValid.f l2).bind fun t618 => (if t618 = true then ((impl_FatesValid.f l3).bind fun t619 => (if t619 = true then (if a0 = 0 then (none) else (some (wrap64 ((mx (l2.length : Int) (l3.length : Int)) + (wrap64 (Int.tdiv (wrap64 ((wrap64 (a1 + a0)) - 1)) a0)))))) else (some (-1)))) else (some (-1)))) = some r:=by rw [if_pos rfl] at H;exact H
   clear H
   have H:=H1
   clear H1
   replace H:=Option.bind_eq_some_iff.mp H
   obtain ⟨t618,A90,H⟩:=H
   replace H : (if t618 = true then ((impl_FatesValid.f l3).bind fun t619 => (if t619 = true then (if a0 = 0 then (none) else (some (wrap64 ((mx (l2.length : Int) (l3.length : Int)) + (wrap64 (Int.tdiv (wrap64 ((wrap64 (a1 + a0)) - 1)) a0)))))) else (some (-1)))) else (some (-1))) = some r:=H
   have A9:=mk_ A90
   clear A90
   by_cases c10 : t618 = true
   ·subst c10
    have H1 : ((impl_FatesValid.f l3).bind fun t619 => (if t619 = true then (if a0 = 0 then (none) else (some (wrap64 ((mx (l2.length : Int) (l3.length : Int)) + (wrap64 (Int.tdiv (wrap64 ((wrap64 (a1 + a0)) - 1)) a0)))))) else (some (-1)))) = some r:=by rw [if_pos rfl] at H;exact H
    clear H
    have H:=H1
    clear H1
    replace H:=Option.bind_eq_some_iff.mp H
    obtain ⟨t619,A110,H⟩:=H
    replace H : (if t619 = true then (if a0 = 0 then (none) else (some (wrap64 ((mx (l2.length : Int) (l3.length : Int)) + (wrap64 (Int.tdiv (wrap64 ((wrap64 (a1 + a0)) - 1)) a0)))))) else (some (-1))) = some r:=H
    have A11:=mk_ A110
    clear A110
    by_cases c12 : t619 = true
    ·subst c12
     have H1 : (if a0 = 0 then (none) else (some (wrap64 ((mx (l2.length : Int) (l3.length : Int)) + (wrap64 (Int.tdiv (wrap64 ((wrap64 (a1 + a0)) - 1)) a0)))))) = some r:=by rw [if_pos rfl] at H;exact H
     clear H
     have H:=H1
     clear H1
     obtain ⟨ji13,hji13⟩ : ∃ j_ : Int,(mx (l2.length : Int) (l3.length : Int)) = j_:=⟨_,rfl⟩
     replace H : (if a0 = 0 then (none) else (some (wrap64 ((ji13) + (wrap64 (Int.tdiv (wrap64 ((wrap64 (a1 + a0)) - 1)) a0)))))) = some r:=by first|(rw [hji13] at H;exact H)|(simp only [hji13] at H ⊢;exact H)
     (try rw [hji13] at A5)
     (try rw [hji13] at A7)
     (try rw [hji13] at A9)
     (try rw [hji13] at A11)
     (try (have hji13l : 0 ≤ ji13:=by (rw [← hji13];unfold mx;(repeat' split) <;> omega)))
     (try (have hji13m : 0 ≤ ji13:=by omega))
     have hji13_ : (if (l2.length : Int) < (l3.length : Int) then (l3.length : Int) else (l2.length : Int)) = ji13:=hji13
     have hji13n : (if l2.length < l3.length then (l3.length : Int) else (l2.length : Int)) = ji13:=by rw [← hji13_];by_cases h_ : l2.length < l3.length <;> simp [h_]
     by_cases c14 : a0 = 0
     ·rw [if_pos c14] at H
      exact absurd H (by simp)
     ·rw [if_neg c14] at H
      have c14b0 : (a0 == 0) = false:=beq_eq_false_iff_ne.mpr c14
      have c14b1 : (a0 != 0) = true:=bne_iff_ne.mpr c14
      obtain rfl:=Option.some.inj H
      go_enter Try.func22,Try.ntmps22
      go_wp2_with (first|((with_reducible refine gate_callee (f:=42) rfl ?_);refine goesL_ (some 10) rfl rfl Try.func42 (by kernel_rfl) rfl #[.int .i64 a0,.int .i64 1,.int .i64 8] rfl qm_ ?_;(with_reducible refine (impl_within.calls a0 1 8 true _ A5.out).mono ?_);rintro e w' ⟨rfl,⟨nd,rfl⟩⟩;refine ⟨_,rfl,?_⟩)|(go_at_call 42;(with_reducible refine (impl_within.calls a1 0 60 true _ A7.out).mono ?_);rintro e w' ⟨rfl,⟨nd,rfl⟩⟩)|(go_at_call 43;(with_reducible refine (impl_FatesValid.calls _ _ l2 true _ ?side1 ?side2 A9.out).mono ?_);(case side1 => repeat (first|exact HR2.out|(with_reducible refine ca_ ?_ _)|(with_reducible refine cn_ ?_ _)|(with_reducible refine cd_ ?_)));(case side2 => exact HC2.out);rintro e w15 ⟨rfl,hb⟩;have n0_:=mk_ (st_ (qb_ HB) hb);clear HB;have HB:=n0_;clear n0_;(try clear hb);(try clear hb2);(try clear hk);(try clear hi))|(go_at_call 43;(with_reducible refine (impl_FatesValid.calls _ _ l3 true _ ?side1 ?side2 A11.out).mono ?_);(case side1 => exact qn_ HR3 HB);(case side2 => exact HC3.out);rintro e w16 ⟨rfl,hb⟩;have n0_:=mk_ (st_ (qb_ HB) hb);clear HB;have HB:=n0_;clear n0_;(try clear hb);(try clear hb2);(try clear hk);(try clear hi)))
      go_ret
      exact ⟨by first|rfl|(simp [errW_none,errW_some] <;> rfl)|(simp only [← hji13];first|rfl|(simp [errW_none,errW_some] <;> rfl))|(simp [*,errW_none,errW_some] <;> rfl),u0_ HB⟩
    ·replace c12:=Bool.eq_false_iff.mpr c12
     subst c12
     have H1 : (some (-1)) = some r:=by rw [if_neg (show ¬ (false = true) by decide)] at H;exact H
     clear H
     have H:=H1
     clear H1
     obtain rfl:=Option.some.inj H
     go_enter Try.func22,Try.ntmps22
     go_wp2_with (first|((with_reducible refine gate_callee (f:=42) rfl ?_);refine goesL_ (some 10) rfl rfl Try.func42 (by kernel_rfl) rfl #[.int .i64 a0,.int .i64 1,.int .i64 8] rfl qm_ ?_;(with_reducible refine (impl_within.calls a0 1 8 true _ A5.out).mono ?_);rintro e w' ⟨rfl,⟨nd,rfl⟩⟩;refine ⟨_,rfl,?_⟩)|(go_at_call 42;(with_reducible refine (impl_within.calls a1 0 60 true _ A7.out).mono ?_);rintro e w' ⟨rfl,⟨nd,rfl⟩⟩)|(go_at_call 43;(with_reducible refine (impl_FatesValid.calls _ _ l2 true _ ?side1 ?side2 A9.out).mono ?_);(case side1 => repeat (first|exact HR2.out|(with_reducible refine ca_ ?_ _)|(with_reducible refine cn_ ?_ _)|(with_reducible refine cd_ ?_)));(case side2 => exact HC2.out);rintro e w17 ⟨rfl,hb⟩;have n0_:=mk_ (st_ (qb_ HB) hb);clear HB;have HB:=n0_;clear n0_;(try clear hb);(try clear hb2);(try clear hk);(try clear hi))|(go_at_call 43;(with_reducible refine (impl_FatesValid.calls _ _ l3 false _ ?side1 ?side2 A11.out).mono ?_);(case side1 => exact qn_ HR3 HB);(case side2 => exact HC3.out);rintro e w18 ⟨rfl,hb⟩;have n0_:=mk_ (st_ (qb_ HB) hb);clear HB;have HB:=n0_;clear n0_;(try clear hb);(try clear hb2);(try clear hk);(try clear hi)))
     go_ret
     exact ⟨qe_,u0_ HB⟩
   ·replace c10:=Bool.eq_false_iff.mpr c10
    subst c10
    have H1 : (some (-1)) = some r:=by rw [if_neg (show ¬ (false = true) by decide)] at H;exact H
    clear H
    have H:=H1
    clear H1
    obtain rfl:=Option.some.inj H
    go_enter Try.func22,Try.ntmps22
    go_wp2_with (first|((with_reducible refine gate_callee (f:=42) rfl ?_);refine goesL_ (some 10) rfl rfl Try.func42 (by kernel_rfl) rfl #[.int .i64 a0,.int .i64 1,.int .i64 8] rfl qm_ ?_;(with_reducible refine (impl_within.calls a0 1 8 true _ A5.out).mono ?_);rintro e w' ⟨rfl,⟨nd,rfl⟩⟩;refine ⟨_,rfl,?_⟩)|(go_at_call 42;(with_reducible refine (impl_within.calls a1 0 60 true _ A7.out).mono ?_);rintro e w' ⟨rfl,⟨nd,rfl⟩⟩)|(go_at_call 43;(with_reducible refine (impl_FatesValid.calls _ _ l2 false _ ?side1 ?side2 A9.out).mono ?_);(case side1 => repeat (first|exact HR2.out|(with_reducible refine ca_ ?_ _)|(with_reducible refine cn_ ?_ _)|(with_reducible refine cd_ ?_)));(case side2 => exact HC2.out);rintro e w19 ⟨rfl,hb⟩;have n0_:=mk_ (st_ (qb_ HB) hb);clear HB;have HB:=n0_;clear n0_;(try clear hb);(try clear hb2);(try clear hk);(try clear hi)))
    go_ret
    exact ⟨qe_,u0_ HB⟩
  ·replace c8:=Bool.eq_false_iff.mpr c8
   subst c8
   have H1 : (some (-1)) = some r:=by rw [if_neg (show ¬ (false = true) by decide)] at H;exact H
   clear H
   have H:=H1
   clear H1
   obtain rfl:=Option.some.inj H
   go_enter Try.func22,Try.ntmps22
   go_wp2_with (first|((with_reducible refine gate_callee (f:=42) rfl ?_);refine goesL_ (some 10) rfl rfl Try.func42 (by kernel_rfl) rfl #[.int .i64 a0,.int .i64 1,.int .i64 8] rfl qm_ ?_;(with_reducible refine (impl_within.calls a0 1 8 true _ A5.out).mono ?_);rintro e w' ⟨rfl,⟨nd,rfl⟩⟩;refine ⟨_,rfl,?_⟩)|(go_at_call 42;(with_reducible refine (impl_within.calls a1 0 60 false _ A7.out).mono ?_);rintro e w' ⟨rfl,⟨nd,rfl⟩⟩))
   go_ret
   exact ⟨qe_,u0_ HB⟩
 ·replace c6:=Bool.eq_false_iff.mpr c6
  subst c6
  have H1 : (some (-1)) = some r:=by rw [if_neg (show ¬ (false = true) by decide)] at H;exact H
  clear H
  have H:=H1
  clear H1
  obtain rfl:=Option.some.inj H
  go_enter Try.func22,Try.ntmps22
  go_wp2_with (first|((with_reducible refine gate_callee (f:=42) rfl ?_);refine goesL_ (some 10) rfl rfl Try.func42 (by kernel_rfl) rfl #[.int .i64 a0,.int .i64 1,.int .i64 8] rfl qm_ ?_;(with_reducible refine (impl_within.calls a0 1 8 false _ A5.out).mono ?_);rintro e w' ⟨rfl,⟨nd,rfl⟩⟩;refine ⟨_,rfl,?_⟩))
  go_ret
  exact ⟨qe_,u0_ HB⟩

/-! ### spec_LinkBound: function 23 -/
def spec_LinkBound.f (k : Nat) (a0 : Int) (a1 : Int) (l2 : List Int) (l3 : List Int) : Option (Int):=(spec_l1In.f a0 1 8).bind fun t620 => (if t620 = true then ((spec_l1In.f a1 0 60).bind fun t621 => (if t621 = true then ((spec_FatesValid.f k l2).bind fun t622 => (if t622 = true then ((spec_FatesValid.f k l3).bind fun t623 => (if t623 = true then (if a0 = 0 then (none) else (some (wrap64 ((mx (l2.length : Int) (l3.length : Int)) + (wrap64 (Int.tdiv (wrap64 ((wrap64 (a1 + a0)) - 1)) a0)))))) else (some (-1)))) else (some (-1)))) else (some (-1)))) else (some (-1)))
theorem spec_LinkBound.mono : ∀ a0 a1 a2 a3 k,LeO (spec_LinkBound.f k a0 a1 a2 a3) (spec_LinkBound.f (k + 1) a0 a1 a2 a3):=by
 intro a0 a1 a2 a3 k
 unfold spec_LinkBound.f
 repeat' first
   | (with_reducible exact spec_FatesValid.mono _ _)
   | (with_reducible exact LeO.refl _)
   | (with_reducible exact LeO.none _)
   | (with_reducible refine LeO.ite ?_ ?_)
   | (with_reducible refine LeO.bind ?_ (fun _ => ?_))
   | exact spec_FatesValid.mono _ _
   | exact LeO.none _
   | refine LeO.ite ?_ ?_
   | refine LeO.bind ?_ (fun _ => ?_)
set_option maxHeartbeats 8000000 in
set_option maxRecDepth 100000 in
theorem spec_LinkBound.calls (k : Nat) (a0 : Int) (a1 : Int) (A2 : Option Addr) (c2 : Nat) (l2 : List Int) (A3 : Option Addr) (c3 : Nat) (l3 : List Int) (r : Int) (w : World) (hr2 : Kd.C (Kd.int .i64) w A2 l2.length l2) (hc2 : l2.length ≤ c2) (hr3 : Kd.C (Kd.int .i64) w A3 l3.length l3) (hc3 : l3.length ≤ c3) (h : spec_LinkBound.f k a0 a1 l2 l3 = some r) :
  Calls Try.prog 23 #[.int .i64 a0,.int .i64 a1,.slice A2 l2.length c2,.slice A3 l3.length c3] w fun e w' => e = .returned (.int .i64 r) ∧ Below w.heap.size w w':=by
 have HR2:=mk_ hr2
 have HC2:=mk_ hc2
 clear hr2 hc2
 have HR3:=mk_ hr3
 have HC3:=mk_ hc3
 clear hr3 hc3
 have HB:=mk_ (Below.refl w.heap.size w)
 have H : ((spec_l1In.f a0 1 8).bind fun t620 => (if t620 = true then ((spec_l1In.f a1 0 60).bind fun t621 => (if t621 = true then ((spec_FatesValid.f k l2).bind fun t622 => (if t622 = true then ((spec_FatesValid.f k l3).bind fun t623 => (if t623 = true then (if a0 = 0 then (none) else (some (wrap64 ((mx (l2.length : Int) (l3.length : Int)) + (wrap64 (Int.tdiv (wrap64 ((wrap64 (a1 + a0)) - 1)) a0)))))) else (some (-1)))) else (some (-1)))) else (some (-1)))) else (some (-1)))) = some r:=h
 clear h
 replace H:=Option.bind_eq_some_iff.mp H
 obtain ⟨t620,A50,H⟩:=H
 replace H : (if t620 = true then ((spec_l1In.f a1 0 60).bind fun t621 => (if t621 = true then ((spec_FatesValid.f k l2).bind fun t622 => (if t622 = true then ((spec_FatesValid.f k l3).bind fun t623 => (if t623 = true then (if a0 = 0 then (none) else (some (wrap64 ((mx (l2.length : Int) (l3.length : Int)) + (wrap64 (Int.tdiv (wrap64 ((wrap64 (a1 + a0)) - 1)) a0)))))) else (some (-1)))) else (some (-1)))) else (some (-1)))) else (some (-1))) = some r:=H
 have A5:=mk_ A50
 clear A50
 by_cases c6 : t620 = true
 ·subst c6
  have H1 : ((spec_l1In.f a1 0 60).bind fun t621 => (if t621 = true then ((spec_FatesValid.f k l2).bind fun t622 => (if t622 = true then ((spec_FatesValid.f k l3).bind fun t623 => (if t623 = true then (if a0 = 0 then (none) else (some (wrap64 ((mx (l2.length : Int) (l3.length : Int)) + (wrap64 (Int.tdiv (wrap64 ((wrap64 (a1 + a0)) - 1)) a0)))))) else (some (-1)))) else (some (-1)))) else (some (-1)))) = some r:=by rw [if_pos rfl] at H;exact H
  clear H
  have H:=H1
  clear H1
  replace H:=Option.bind_eq_some_iff.mp H
  obtain ⟨t621,A70,H⟩:=H
  replace H : (if t621 = true then ((spec_FatesValid.f k l2).bind fun t622 => (if t622 = true then ((spec_FatesValid.f k l3).bind fun t623 => (if t623 = true then (if a0 = 0 then (none) else (some (wrap64 ((mx (l2.length : Int) (l3.length : Int)) + (wrap64 (Int.tdiv (wrap64 ((wrap64 (a1 + a0)) - 1)) a0)))))) else (some (-1)))) else (some (-1)))) else (some (-1))) = some r:=H
  have A7:=mk_ A70
  clear A70
  by_cases c8 : t621 = true
  ·subst c8
   have H1 : ((spec_FatesValid.f k l2).bind fun t622 => (if t622 = true then ((spec_FatesValid.f k l3).bind fun t623 => (if t623 = true then (if a0 = 0 then (none) else (some (wrap64 ((mx (l2.length : Int) (l3.length : Int)) + (wrap64 (Int.tdiv (wrap64 ((wrap64 (a1 + a0)) - 1)) a0)))))) else (some (-1)))) else (some (-1)))) = some r:=by rw [if_pos rfl] at H;exact H
   clear H
   have H:=H1
   clear H1
   replace H:=Option.bind_eq_some_iff.mp H
   obtain ⟨t622,A90,H⟩:=H
   replace H : (if t622 = true then ((spec_FatesValid.f k l3).bind fun t623 => (if t623 = true then (if a0 = 0 then (none) else (some (wrap64 ((mx (l2.length : Int) (l3.length : Int)) + (wrap64 (Int.tdiv (wrap64 ((wrap64 (a1 + a0)) - 1)) a0)))))) else (some (-1)))) else (some (-1))) = some r:=H
   have A9:=mk_ A90
   clear A90
   by_cases c10 : t622 = true
   ·subst c10
    have H1 : ((spec_FatesValid.f k l3).bind fun t623 => (if t623 = true then (if a0 = 0 then (none) else (some (wrap64 ((mx (l2.length : Int) (l3.length : Int)) + (wrap64 (Int.tdiv (wrap64 ((wrap64 (a1 + a0)) - 1)) a0)))))) else (some (-1)))) = some r:=by rw [if_pos rfl] at H;exact H
    clear H
    have H:=H1
    clear H1
    replace H:=Option.bind_eq_some_iff.mp H
    obtain ⟨t623,A110,H⟩:=H
    replace H : (if t623 = true then (if a0 = 0 then (none) else (some (wrap64 ((mx (l2.length : Int) (l3.length : Int)) + (wrap64 (Int.tdiv (wrap64 ((wrap64 (a1 + a0)) - 1)) a0)))))) else (some (-1))) = some r:=H
    have A11:=mk_ A110
    clear A110
    by_cases c12 : t623 = true
    ·subst c12
     have H1 : (if a0 = 0 then (none) else (some (wrap64 ((mx (l2.length : Int) (l3.length : Int)) + (wrap64 (Int.tdiv (wrap64 ((wrap64 (a1 + a0)) - 1)) a0)))))) = some r:=by rw [if_pos rfl] at H;exact H
     clear H
     have H:=H1
     clear H1
     obtain ⟨ji13,hji13⟩ : ∃ j_ : Int,(mx (l2.length : Int) (l3.length : Int)) = j_:=⟨_,rfl⟩
     replace H : (if a0 = 0 then (none) else (some (wrap64 ((ji13) + (wrap64 (Int.tdiv (wrap64 ((wrap64 (a1 + a0)) - 1)) a0)))))) = some r:=by first|(rw [hji13] at H;exact H)|(simp only [hji13] at H ⊢;exact H)
     (try rw [hji13] at A5)
     (try rw [hji13] at A7)
     (try rw [hji13] at A9)
     (try rw [hji13] at A11)
     (try (have hji13l : 0 ≤ ji13:=by (rw [← hji13];unfold mx;(repeat' split) <;> omega)))
     (try (have hji13m : 0 ≤ ji13:=by omega))
     have hji13_ : (if (l2.length : Int) < (l3.length : Int) then (l3.length : Int) else (l2.length : Int)) = ji13:=hji13
     have hji13n : (if l2.length < l3.length then (l3.length : Int) else (l2.length : Int)) = ji13:=by rw [← hji13_];by_cases h_ : l2.length < l3.length <;> simp [h_]
     by_cases c14 : a0 = 0
     ·rw [if_pos c14] at H
      exact absurd H (by simp)
     ·rw [if_neg c14] at H
      have c14b0 : (a0 == 0) = false:=beq_eq_false_iff_ne.mpr c14
      have c14b1 : (a0 != 0) = true:=bne_iff_ne.mpr c14
      obtain rfl:=Option.some.inj H
      go_enter Try.func23,Try.ntmps23
      go_wp2_with (first|((with_reducible refine gate_callee (f:=36) rfl ?_);refine goesL_ (some 10) rfl rfl Try.func36 (by kernel_rfl) rfl #[.int .i64 a0,.int .i64 1,.int .i64 8] rfl qm_ ?_;(with_reducible refine (spec_l1In.calls a0 1 8 true _ A5.out).mono ?_);rintro e w' ⟨rfl,⟨nd,rfl⟩⟩;refine ⟨_,rfl,?_⟩)|(go_at_call 36;(with_reducible refine (spec_l1In.calls a1 0 60 true _ A7.out).mono ?_);rintro e w' ⟨rfl,⟨nd,rfl⟩⟩)|(go_at_call 44;(with_reducible refine (spec_FatesValid.calls k _ _ l2 true _ ?side1 ?side2 A9.out).mono ?_);(case side1 => repeat (first|exact HR2.out|(with_reducible refine ca_ ?_ _)|(with_reducible refine cn_ ?_ _)|(with_reducible refine cd_ ?_)));(case side2 => exact HC2.out);rintro e w' ⟨rfl,⟨nd,rfl⟩⟩)|(go_at_call 44;(with_reducible refine (spec_FatesValid.calls k _ _ l3 true _ ?side1 ?side2 A11.out).mono ?_);(case side1 => repeat (first|exact HR3.out|(with_reducible refine ca_ ?_ _)|(with_reducible refine cn_ ?_ _)|(with_reducible refine cd_ ?_)));(case side2 => exact HC3.out);rintro e w' ⟨rfl,⟨nd,rfl⟩⟩))
      go_ret
      exact ⟨by first|rfl|(simp [errW_none,errW_some] <;> rfl)|(simp only [← hji13];first|rfl|(simp [errW_none,errW_some] <;> rfl))|(simp [*,errW_none,errW_some] <;> rfl),u0_ HB⟩
    ·replace c12:=Bool.eq_false_iff.mpr c12
     subst c12
     have H1 : (some (-1)) = some r:=by rw [if_neg (show ¬ (false = true) by decide)] at H;exact H
     clear H
     have H:=H1
     clear H1
     obtain rfl:=Option.some.inj H
     go_enter Try.func23,Try.ntmps23
     go_wp2_with (first|((with_reducible refine gate_callee (f:=36) rfl ?_);refine goesL_ (some 10) rfl rfl Try.func36 (by kernel_rfl) rfl #[.int .i64 a0,.int .i64 1,.int .i64 8] rfl qm_ ?_;(with_reducible refine (spec_l1In.calls a0 1 8 true _ A5.out).mono ?_);rintro e w' ⟨rfl,⟨nd,rfl⟩⟩;refine ⟨_,rfl,?_⟩)|(go_at_call 36;(with_reducible refine (spec_l1In.calls a1 0 60 true _ A7.out).mono ?_);rintro e w' ⟨rfl,⟨nd,rfl⟩⟩)|(go_at_call 44;(with_reducible refine (spec_FatesValid.calls k _ _ l2 true _ ?side1 ?side2 A9.out).mono ?_);(case side1 => repeat (first|exact HR2.out|(with_reducible refine ca_ ?_ _)|(with_reducible refine cn_ ?_ _)|(with_reducible refine cd_ ?_)));(case side2 => exact HC2.out);rintro e w' ⟨rfl,⟨nd,rfl⟩⟩)|(go_at_call 44;(with_reducible refine (spec_FatesValid.calls k _ _ l3 false _ ?side1 ?side2 A11.out).mono ?_);(case side1 => repeat (first|exact HR3.out|(with_reducible refine ca_ ?_ _)|(with_reducible refine cn_ ?_ _)|(with_reducible refine cd_ ?_)));(case side2 => exact HC3.out);rintro e w' ⟨rfl,⟨nd,rfl⟩⟩))
     go_ret
     exact ⟨qe_,u0_ HB⟩
   ·replace c10:=Bool.eq_false_iff.mpr c10
    subst c10
    have H1 : (some (-1)) = some r:=by rw [if_neg (show ¬ (false = true) by decide)] at H;exact H
    clear H
    have H:=H1
    clear H1
    obtain rfl:=Option.some.inj H
    go_enter Try.func23,Try.ntmps23
    go_wp2_with (first|((with_reducible refine gate_callee (f:=36) rfl ?_);refine goesL_ (some 10) rfl rfl Try.func36 (by kernel_rfl) rfl #[.int .i64 a0,.int .i64 1,.int .i64 8] rfl qm_ ?_;(with_reducible refine (spec_l1In.calls a0 1 8 true _ A5.out).mono ?_);rintro e w' ⟨rfl,⟨nd,rfl⟩⟩;refine ⟨_,rfl,?_⟩)|(go_at_call 36;(with_reducible refine (spec_l1In.calls a1 0 60 true _ A7.out).mono ?_);rintro e w' ⟨rfl,⟨nd,rfl⟩⟩)|(go_at_call 44;(with_reducible refine (spec_FatesValid.calls k _ _ l2 false _ ?side1 ?side2 A9.out).mono ?_);(case side1 => repeat (first|exact HR2.out|(with_reducible refine ca_ ?_ _)|(with_reducible refine cn_ ?_ _)|(with_reducible refine cd_ ?_)));(case side2 => exact HC2.out);rintro e w' ⟨rfl,⟨nd,rfl⟩⟩))
    go_ret
    exact ⟨qe_,u0_ HB⟩
  ·replace c8:=Bool.eq_false_iff.mpr c8
   subst c8
   have H1 : (some (-1)) = some r:=by rw [if_neg (show ¬ (false = true) by decide)] at H;exact H
   clear H
   have H:=H1
   clear H1
   obtain rfl:=Option.some.inj H
   go_enter Try.func23,Try.ntmps23
   go_wp2_with (first|((with_reducible refine gate_callee (f:=36) rfl ?_);refine goesL_ (some 10) rfl rfl Try.func36 (by kernel_rfl) rfl #[.int .i64 a0,.int .i64 1,.int .i64 8] rfl qm_ ?_;(with_reducible refine (spec_l1In.calls a0 1 8 true _ A5.out).mono ?_);rintro e w' ⟨rfl,⟨nd,rfl⟩⟩;refine ⟨_,rfl,?_⟩)|(go_at_call 36;(with_reducible refine (spec_l1In.calls a1 0 60 false _ A7.out).mono ?_);rintro e w' ⟨rfl,⟨nd,rfl⟩⟩))
   go_ret
   exact ⟨qe_,u0_ HB⟩
 ·replace c6:=Bool.eq_false_iff.mpr c6
  subst c6
  have H1 : (some (-1)) = some r:=by rw [if_neg (show ¬ (false = true) by decide)] at H;exact H
  clear H
  have H:=H1
  clear H1
  obtain rfl:=Option.some.inj H
  go_enter Try.func23,Try.ntmps23
  go_wp2_with (first|((with_reducible refine gate_callee (f:=36) rfl ?_);refine goesL_ (some 10) rfl rfl Try.func36 (by kernel_rfl) rfl #[.int .i64 a0,.int .i64 1,.int .i64 8] rfl qm_ ?_;(with_reducible refine (spec_l1In.calls a0 1 8 false _ A5.out).mono ?_);rintro e w' ⟨rfl,⟨nd,rfl⟩⟩;refine ⟨_,rfl,?_⟩))
  go_ret
  exact ⟨qe_,u0_ HB⟩

/-! ### laws_FnLinkLive: function 7 -/
def laws_FnLinkLive.l0 : Nat → Int → Int → List (List Int) → Int → Int → Option (Bool)
 | 0,_,_,_,_,_ => none
 | k + 1,x12,x13,x65,x66,x67 => if x67 < x66 then (if 0 ≤ x67 then (if x67 < (x65.length : Int) then (if ((rd_L4 x65 x67).length : Int) > 597 then (some (x12 == (-1))) else (laws_FnLinkLive.l0 k x12 x13 x65 x66 (wrap64 (x67 + 1)))) else (none)) else (none)) else (if x13 > 400 then (some true) else (if x12 ≥ 0 then (some (decide (x12 ≤ x13))) else (some false)))
def laws_FnLinkLive.f (k : Nat) (l0 : List Int) : Option (Bool):=if (l0.length : Int) > 1048576 then (some true) else ((spec_DrawLinkBound.f k l0).bind fun bt624 => ((impl_LinkBound.f bt624.1 bt624.2.1 bt624.2.2.1 bt624.2.2.2).bind fun t632 => ((spec_LinkBound.f k bt624.1 bt624.2.1 bt624.2.2.1 bt624.2.2.2).bind fun t633 => (if t632 = t633 then ((spec_DrawLinkRounds.f k l0).bind fun bt634 => ((impl_LinkRounds.f bt634.1 bt634.2.1 bt634.2.2.1 bt634.2.2.2).bind fun t644 => ((spec_LinkRounds.f k bt634.1 bt634.2.1 bt634.2.2.1 bt634.2.2.2).bind fun t645 => (if t644 = t645 then ((impl_LinkBound.f bt634.1 (bt634.2.1.length : Int) bt634.2.2.1 bt634.2.2.2).bind fun t646 => (if t646 < 0 then (some true) else (laws_FnLinkLive.l0 k t644 t646 bt634.2.1 (bt634.2.1.length : Int) 0))) else (some false))))) else (some false)))))
theorem laws_FnLinkLive.mono_l : ∀ k,(∀ y0 y1 y2 y3 y4,LeO (laws_FnLinkLive.l0 k y0 y1 y2 y3 y4) (laws_FnLinkLive.l0 (k + 1) y0 y1 y2 y3 y4))
 | 0 => fun _ _ _ _ _ r h => by simp [laws_FnLinkLive.l0] at h
 | k + 1 => by
  have ih0:=laws_FnLinkLive.mono_l k
  ·intro y0 y1 y2 y3 y4
   unfold laws_FnLinkLive.l0
   repeat' first
   | (with_reducible exact ih0 _ _ _ _ _)
   | (with_reducible exact spec_DrawLinkBound.mono _ _)
   | (with_reducible exact spec_DrawLinkRounds.mono _ _)
   | (with_reducible exact spec_LinkBound.mono _ _ _ _ _)
   | (with_reducible exact spec_LinkRounds.mono _ _ _ _ _)
   | (with_reducible exact LeO.refl _)
   | (with_reducible exact LeO.none _)
   | (with_reducible refine LeO.ite ?_ ?_)
   | (with_reducible refine LeO.bind ?_ (fun _ => ?_))
   | exact ih0 _ _ _ _ _
   | exact spec_DrawLinkBound.mono _ _
   | exact spec_DrawLinkRounds.mono _ _
   | exact spec_LinkBound.mono _ _ _ _ _
   | exact spec_LinkRounds.mono _ _ _ _ _
   | exact LeO.none _
   | refine LeO.ite ?_ ?_
   | refine LeO.bind ?_ (fun _ => ?_)
theorem laws_FnLinkLive.mono : ∀ a0 k,LeO (laws_FnLinkLive.f k a0) (laws_FnLinkLive.f (k + 1) a0):=by
 intro a0 k
 have ih0:=laws_FnLinkLive.mono_l k
 unfold laws_FnLinkLive.f
 repeat' first
   | (with_reducible exact ih0 _ _ _ _ _)
   | (with_reducible exact spec_DrawLinkBound.mono _ _)
   | (with_reducible exact spec_DrawLinkRounds.mono _ _)
   | (with_reducible exact spec_LinkBound.mono _ _ _ _ _)
   | (with_reducible exact spec_LinkRounds.mono _ _ _ _ _)
   | (with_reducible exact LeO.refl _)
   | (with_reducible exact LeO.none _)
   | (with_reducible refine LeO.ite ?_ ?_)
   | (with_reducible refine LeO.bind ?_ (fun _ => ?_))
   | exact ih0 _ _ _ _ _
   | exact spec_DrawLinkBound.mono _ _
   | exact spec_DrawLinkRounds.mono _ _
   | exact spec_LinkBound.mono _ _ _ _ _
   | exact spec_LinkRounds.mono _ _ _ _ _
   | exact LeO.none _
   | refine LeO.ite ?_ ?_
   | refine LeO.bind ?_ (fun _ => ?_)
set_option maxHeartbeats 8000000 in
set_option maxRecDepth 100000 in
theorem laws_FnLinkLive.calls (k : Nat) (A0 : Option Addr) (c0 : Nat) (l0 : List Int) (r : Bool) (w : World) (hr0 : Kd.C (Kd.int .u8) w A0 l0.length l0) (hc0 : l0.length ≤ c0) (h : laws_FnLinkLive.f k l0 = some r) :
  Calls Try.prog 7 #[.slice A0 l0.length c0] w fun e w' => e = .returned (.bool r) ∧ Below w.heap.size w w':=by
 have HR0:=mk_ hr0
 have HC0:=mk_ hc0
 clear hr0 hc0
 have HB:=mk_ (Below.refl w.heap.size w)
 have H : (if (l0.length : Int) > 1048576 then (some true) else ((spec_DrawLinkBound.f k l0).bind fun bt624 => ((impl_LinkBound.f bt624.1 bt624.2.1 bt624.2.2.1 bt624.2.2.2).bind fun t632 => ((spec_LinkBound.f k bt624.1 bt624.2.1 bt624.2.2.1 bt624.2.2.2).bind fun t633 => (if t632 = t633 then ((spec_DrawLinkRounds.f k l0).bind fun bt634 => ((impl_LinkRounds.f bt634.1 bt634.2.1 bt634.2.2.1 bt634.2.2.2).bind fun t644 => ((spec_LinkRounds.f k bt634.1 bt634.2.1 bt634.2.2.1 bt634.2.2.2).bind fun t645 => (if t644 = t645 then ((impl_LinkBound.f bt634.1 (bt634.2.1.length : Int) bt634.2.2.1 bt634.2.2.2).bind fun t646 => (if t646 < 0 then (some true) else (laws_FnLinkLive.l0 k t644 t646 bt634.2.1 (bt634.2.1.length : Int) 0))) else (some false))))) else (some false)))))) = some r:=h
 clear h
 by_cases c2 : (l0.length : Int) > 1048576
 ·rw [if_pos c2] at H
  have c2b0 : decide (1048576 < (l0.length : Int)) = true:=decide_eq_true c2
  have c2b1 : decide (1048576 < l0.length) = true:=decide_eq_true (by omega)
  clear c2
  obtain rfl:=Option.some.inj H
  go_enter Try.func7,Try.ntmps7
  go_wp2
  go_ret
  exact ⟨qe_,u0_ HB⟩
 ·rw [if_neg c2] at H
  have c2b0 : decide (1048576 < (l0.length : Int)) = false:=decide_eq_false c2
  have c2b1 : decide (1048576 < l0.length) = false:=decide_eq_false (by omega)
  clear c2
  replace H:=Option.bind_eq_some_iff.mp H
  obtain ⟨⟨t624,t625,t626,t627⟩,A30,H⟩:=H
  replace H : ((impl_LinkBound.f t624 t625 t626 t627).bind fun t632 => ((spec_LinkBound.f k t624 t625 t626 t627).bind fun t633 => (if t632 = t633 then ((spec_DrawLinkRounds.f k l0).bind fun bt634 => ((impl_LinkRounds.f bt634.1 bt634.2.1 bt634.2.2.1 bt634.2.2.2).bind fun t644 => ((spec_LinkRounds.f k bt634.1 bt634.2.1 bt634.2.2.1 bt634.2.2.2).bind fun t645 => (if t644 = t645 then ((impl_LinkBound.f bt634.1 (bt634.2.1.length : Int) bt634.2.2.1 bt634.2.2.2).bind fun t646 => (if t646 < 0 then (some true) else (laws_FnLinkLive.l0 k t644 t646 bt634.2.1 (bt634.2.1.length : Int) 0))) else (some false))))) else (some false)))) = some r:=H
  have A3:=mk_ A30
  clear A30
  replace H:=Option.bind_eq_some_iff.mp H
  obtain ⟨t632,A40,H⟩:=H
  replace H : ((spec_LinkBound.f k t624 t625 t626 t627).bind fun t633 => (if t632 = t633 then ((spec_DrawLinkRounds.f k l0).bind fun bt634 => ((impl_LinkRounds.f bt634.1 bt634.2.1 bt634.2.2.1 bt634.2.2.2).bind fun t644 => ((spec_LinkRounds.f k bt634.1 bt634.2.1 bt634.2.2.1 bt634.2.2.2).bind fun t645 => (if t644 = t645 then ((impl_LinkBound.f bt634.1 (bt634.2.1.length : Int) bt634.2.2.1 bt634.2.2.2).bind fun t646 => (if t646 < 0 then (some true) else (laws_FnLinkLive.l0 k t644 t646 bt634.2.1 (bt634.2.1.length : Int) 0))) else (some false))))) else (some false))) = some r:=H
  have A4:=mk_ A40
  clear A40
  replace H:=Option.bind_eq_some_iff.mp H
  obtain ⟨t633,A50,H⟩:=H
  replace H : (if t632 = t633 then ((spec_DrawLinkRounds.f k l0).bind fun bt634 => ((impl_LinkRounds.f bt634.1 bt634.2.1 bt634.2.2.1 bt634.2.2.2).bind fun t644 => ((spec_LinkRounds.f k bt634.1 bt634.2.1 bt634.2.2.1 bt634.2.2.2).bind fun t645 => (if t644 = t645 then ((impl_LinkBound.f bt634.1 (bt634.2.1.length : Int) bt634.2.2.1 bt634.2.2.2).bind fun t646 => (if t646 < 0 then (some true) else (laws_FnLinkLive.l0 k t644 t646 bt634.2.1 (bt634.2.1.length : Int) 0))) else (some false))))) else (some false)) = some r:=H
  have A5:=mk_ A50
  clear A50
  by_cases c6 : t632 = t633
  ·rw [if_pos c6] at H
   have c6b0 : (t632 == t633) = true:=beq_iff_eq.mpr c6
   have c6b1 : (t632 != t633) = false:=bne_eq_false_iff_eq.mpr c6
   clear c6
   replace H:=Option.bind_eq_some_iff.mp H
   obtain ⟨⟨t634,t635,t636,t637⟩,A70,H⟩:=H
   replace H : ((impl_LinkRounds.f t634 t635 t636 t637).bind fun t644 => ((spec_LinkRounds.f k t634 t635 t636 t637).bind fun t645 => (if t644 = t645 then ((impl_LinkBound.f t634 (t635.length : Int) t636 t637).bind fun t646 => (if t646 < 0 then (some true) else (laws_FnLinkLive.l0 k t644 t646 t635 (t635.length : Int) 0))) else (some false)))) = some r:=H
   have A7:=mk_ A70
   clear A70
   replace H:=Option.bind_eq_some_iff.mp H
   obtain ⟨t644,A80,H⟩:=H
   replace H : ((spec_LinkRounds.f k t634 t635 t636 t637).bind fun t645 => (if t644 = t645 then ((impl_LinkBound.f t634 (t635.length : Int) t636 t637).bind fun t646 => (if t646 < 0 then (some true) else (laws_FnLinkLive.l0 k t644 t646 t635 (t635.length : Int) 0))) else (some false))) = some r:=H
   have A8:=mk_ A80
   clear A80
   replace H:=Option.bind_eq_some_iff.mp H
   obtain ⟨t645,A90,H⟩:=H
   replace H : (if t644 = t645 then ((impl_LinkBound.f t634 (t635.length : Int) t636 t637).bind fun t646 => (if t646 < 0 then (some true) else (laws_FnLinkLive.l0 k t644 t646 t635 (t635.length : Int) 0))) else (some false)) = some r:=H
   have A9:=mk_ A90
   clear A90
   by_cases c10 : t644 = t645
   ·rw [if_pos c10] at H
    have c10b0 : (t644 == t645) = true:=beq_iff_eq.mpr c10
    have c10b1 : (t644 != t645) = false:=bne_eq_false_iff_eq.mpr c10
    clear c10
    replace H:=Option.bind_eq_some_iff.mp H
    obtain ⟨t646,A110,H⟩:=H
    replace H : (if t646 < 0 then (some true) else (laws_FnLinkLive.l0 k t644 t646 t635 (t635.length : Int) 0)) = some r:=H
    have A11:=mk_ A110
    clear A110
    by_cases c12 : t646 < 0
    ·rw [if_pos c12] at H
     have c12b0 : decide (t646 < 0) = true:=decide_eq_true c12
     clear c12
     obtain rfl:=Option.some.inj H
     go_enter Try.func7,Try.ntmps7
     go_wp2_with (first|((with_reducible refine gate_callee (f:=21) rfl ?_);refine goesL_ (some 21) rfl rfl Try.func21 (by kernel_rfl) rfl #[.slice A0 l0.length c0] rfl qm_ ?_;(with_reducible refine (spec_DrawLinkBound.calls k _ _ l0 t624 t625 t626 t627 _ ?side1 ?side2 A3.out).mono ?_);(case side1 => repeat (first|exact HR0.out|(with_reducible refine ca_ ?_ _)|(with_reducible refine cn_ ?_ _)|(with_reducible refine cd_ ?_)));(case side2 => exact HC0.out);rintro e w13 ⟨v628,v630,rfl,ho0,ho1,hb⟩;refine ⟨_,rfl,?_⟩;have n0_:=mk_ (Kd.R_lower ho0 (bz_ (qb_ HB)));have n1_:=mk_ (Kd.R_lower ho1 (bz_ (qb_ HB)));have n2_:=mk_ (st_ (qb_ HB) hb);clear HB;have HO629:=n0_;have HO631:=n1_;have HB:=n2_;clear n0_ n1_ n2_;(try clear hb);(try clear hb2);(try clear hk);(try clear hi);(try clear ho0);(try clear ho1);obtain ⟨Ao14,co14,eo14⟩:=Kd.R_slice HO629.out;subst eo14;obtain ⟨Ao15,co15,eo15⟩:=Kd.R_slice HO631.out;subst eo15)|((with_reducible refine gate_callee (f:=22) rfl ?_);refine goesL_ (some 30) rfl rfl Try.func22 (by kernel_rfl) rfl #[.int .i64 t624,.int .i64 t625,.slice Ao14 t626.length co14,.slice Ao15 t627.length co15] rfl qm_ ?_;(with_reducible refine (impl_LinkBound.calls t624 t625 _ _ t626 _ _ t627 t632 _ ?side1 ?side2 ?side3 ?side4 A4.out).mono ?_);(case side1 => repeat (first|exact (rr_ HO629.out).2.2|(with_reducible refine ca_ ?_ _)|(with_reducible refine cn_ ?_ _)|(with_reducible refine cd_ ?_)));(case side2 => exact (rr_ HO629.out).2.1);(case side3 => repeat (first|exact (rr_ HO631.out).2.2|(with_reducible refine ca_ ?_ _)|(with_reducible refine cn_ ?_ _)|(with_reducible refine cd_ ?_)));(case side4 => exact (rr_ HO631.out).2.1);rintro e w16 ⟨rfl,hb⟩;refine ⟨_,rfl,?_⟩;have n0_:=mk_ (rb_ (qr_ HO629) hb);have n1_:=mk_ (rb_ (qr_ HO631) hb);have n2_:=mk_ (st_ (qb_ HB) hb);clear HO629 HO631 HB;have HO629:=n0_;have HO631:=n1_;have HB:=n2_;clear n0_ n1_ n2_;(try clear hb);(try clear hb2);(try clear hk);(try clear hi))|((with_reducible refine gate_callee (f:=23) rfl ?_);refine goesL_ (some 36) rfl rfl Try.func23 (by kernel_rfl) rfl #[.int .i64 t624,.int .i64 t625,.slice Ao14 t626.length co14,.slice Ao15 t627.length co15] rfl qm_ ?_;(with_reducible refine (spec_LinkBound.calls k t624 t625 _ _ t626 _ _ t627 t633 _ ?side1 ?side2 ?side3 ?side4 A5.out).mono ?_);(case side1 => repeat (first|exact (rr_ HO629.out).2.2|(with_reducible refine ca_ ?_ _)|(with_reducible refine cn_ ?_ _)|(with_reducible refine cd_ ?_)));(case side2 => exact (rr_ HO629.out).2.1);(case side3 => repeat (first|exact (rr_ HO631.out).2.2|(with_reducible refine ca_ ?_ _)|(with_reducible refine cn_ ?_ _)|(with_reducible refine cd_ ?_)));(case side4 => exact (rr_ HO631.out).2.1);rintro e w17 ⟨rfl,hb⟩;refine ⟨_,rfl,?_⟩;have n0_:=mk_ (rb_ (qr_ HO629) hb);have n1_:=mk_ (rb_ (qr_ HO631) hb);have n2_:=mk_ (st_ (qb_ HB) hb);clear HO629 HO631 HB;have HO629:=n0_;have HO631:=n1_;have HB:=n2_;clear n0_ n1_ n2_;(try clear hb);(try clear hb2);(try clear hk);(try clear hi))|((with_reducible refine gate_callee (f:=9) rfl ?_);refine goesL_ (some 40) rfl rfl Try.func9 (by kernel_rfl) rfl #[.slice A0 l0.length c0] rfl qm_ ?_;(with_reducible refine (spec_DrawLinkRounds.calls k _ _ l0 t634 t635 t636 t637 _ ?side1 ?side2 A7.out).mono ?_);(case side1 => exact qn_ HR0 HB);(case side2 => exact HC0.out);rintro e w18 ⟨v638,v640,v642,rfl,ho0,ho1,ho2,hb⟩;refine ⟨_,rfl,?_⟩;have n0_:=mk_ (rm_ (Kd.R_told (Kd.R_told (Kd.R_old (qr_ HO629) hb) (Kd.R_base ho1)) (Kd.R_base ho2)) (λ_ h=>h.1));have n1_:=mk_ (rm_ (Kd.R_told (Kd.R_told (Kd.R_old (qr_ HO631) hb) (Kd.R_base ho1)) (Kd.R_base ho2)) (λ_ h=>h.1));have n2_:=mk_ (Kd.S_lower ho0 (bz_ (qb_ HB)));have n3_:=mk_ (Kd.R_lower (Kd.R_new' (Kd.R_new' ho1 (Kd.R_lt (qr_ HO629))) (Kd.R_lt (qr_ HO631))) (bz_ (qb_ HB)));have n4_:=mk_ (Kd.R_lower (Kd.R_new' (Kd.R_new' ho2 (Kd.R_lt (qr_ HO629))) (Kd.R_lt (qr_ HO631))) (bz_ (qb_ HB)));have n5_:=mk_ (st_ (qb_ HB) hb);clear HO629 HO631 HB;have HO629:=n0_;have HO631:=n1_;have HO639:=n2_;have HO641:=n3_;have HO643:=n4_;have HB:=n5_;clear n0_ n1_ n2_ n3_ n4_ n5_;(try clear hb);(try clear hb2);(try clear hk);(try clear hi);(try clear ho0);(try clear ho1);(try clear ho2);obtain ⟨Ao19,co19,eo19⟩:=Kd.S_slice HO639.out;subst eo19;obtain ⟨Ao20,co20,eo20⟩:=Kd.R_slice HO641.out;subst eo20;obtain ⟨Ao21,co21,eo21⟩:=Kd.R_slice HO643.out;subst eo21)|((with_reducible refine gate_callee (f:=16) rfl ?_);refine goesL_ (some 49) rfl rfl Try.func16 (by kernel_rfl) rfl #[.int .i64 t634,.slice Ao19 t635.length co19,.slice Ao20 t636.length co20,.slice Ao21 t637.length co21] rfl qm_ ?_;(with_reducible refine (impl_LinkRounds.calls t634 _ _ t635 _ _ t636 _ _ t637 t644 _ ?side1 ?side2 ?side3 ?side4 ?side5 ?side6 A8.out).mono ?_);(case side1 => repeat (first|exact (Kd.S_reads' HO639.out).2.2|(with_reducible refine ca_ ?_ _)|(with_reducible refine cn_ ?_ _)|(with_reducible refine cd_ ?_)));(case side2 => exact (Kd.S_reads' HO639.out).2.1);(case side3 => repeat (first|exact (rr_ HO641.out).2.2|(with_reducible refine ca_ ?_ _)|(with_reducible refine cn_ ?_ _)|(with_reducible refine cd_ ?_)));(case side4 => exact (rr_ HO641.out).2.1);(case side5 => repeat (first|exact (rr_ HO643.out).2.2|(with_reducible refine ca_ ?_ _)|(with_reducible refine cn_ ?_ _)|(with_reducible refine cd_ ?_)));(case side6 => exact (rr_ HO643.out).2.1);rintro e w22 ⟨rfl,hb⟩;refine ⟨_,rfl,?_⟩;have n0_:=mk_ (rb_ (qr_ HO629) hb);have n1_:=mk_ (rb_ (qr_ HO631) hb);have n2_:=mk_ (Kd.S_below (by (with_reducible repeat (first|apply Kd.S_alloc|apply Kd.S_drewN|apply Kd.S_drew));exact HO639.out) hb);have n3_:=mk_ (rb_ (qr_ HO641) hb);have n4_:=mk_ (rb_ (qr_ HO643) hb);have n5_:=mk_ (st_ (qb_ HB) hb);clear HO629 HO631 HO639 HO641 HO643 HB;have HO629:=n0_;have HO631:=n1_;have HO639:=n2_;have HO641:=n3_;have HO643:=n4_;have HB:=n5_;clear n0_ n1_ n2_ n3_ n4_ n5_;(try clear hb);(try clear hb2);(try clear hk);(try clear hi))|((with_reducible refine gate_callee (f:=13) rfl ?_);refine goesL_ (some 55) rfl rfl Try.func13 (by kernel_rfl) rfl #[.int .i64 t634,.slice Ao19 t635.length co19,.slice Ao20 t636.length co20,.slice Ao21 t637.length co21] rfl qm_ ?_;(with_reducible refine (spec_LinkRounds.calls k t634 _ _ t635 _ _ t636 _ _ t637 t645 _ ?side1 ?side2 ?side3 ?side4 ?side5 ?side6 A9.out).mono ?_);(case side1 => repeat (first|exact (Kd.S_reads' HO639.out).2.2|(with_reducible refine ca_ ?_ _)|(with_reducible refine cn_ ?_ _)|(with_reducible refine cd_ ?_)));(case side2 => exact (Kd.S_reads' HO639.out).2.1);(case side3 => repeat (first|exact (rr_ HO641.out).2.2|(with_reducible refine ca_ ?_ _)|(with_reducible refine cn_ ?_ _)|(with_reducible refine cd_ ?_)));(case side4 => exact (rr_ HO641.out).2.1);(case side5 => repeat (first|exact (rr_ HO643.out).2.2|(with_reducible refine ca_ ?_ _)|(with_reducible refine cn_ ?_ _)|(with_reducible refine cd_ ?_)));(case side6 => exact (rr_ HO643.out).2.1);rintro e w23 ⟨rfl,hb⟩;refine ⟨_,rfl,?_⟩;have n0_:=mk_ (rb_ (qr_ HO629) hb);have n1_:=mk_ (rb_ (qr_ HO631) hb);have n2_:=mk_ (Kd.S_below (by (with_reducible repeat (first|apply Kd.S_alloc|apply Kd.S_drewN|apply Kd.S_drew));exact HO639.out) hb);have n3_:=mk_ (rb_ (qr_ HO641) hb);have n4_:=mk_ (rb_ (qr_ HO643) hb);have n5_:=mk_ (st_ (qb_ HB) hb);clear HO629 HO631 HO639 HO641 HO643 HB;have HO629:=n0_;have HO631:=n1_;have HO639:=n2_;have HO641:=n3_;have HO643:=n4_;have HB:=n5_;clear n0_ n1_ n2_ n3_ n4_ n5_;(try clear hb);(try clear hb2);(try clear hk);(try clear hi))|((with_reducible refine gate_callee (f:=22) rfl ?_);refine goesL_ (some 62) rfl rfl Try.func22 (by kernel_rfl) rfl #[.int .i64 t634,.int .i64 (t635.length : Int),.slice Ao20 t636.length co20,.slice Ao21 t637.length co21] rfl qm_ ?_;(with_reducible refine (impl_LinkBound.calls t634 (t635.length : Int) _ _ t636 _ _ t637 t646 _ ?side1 ?side2 ?side3 ?side4 A11.out).mono ?_);(case side1 => repeat (first|exact (rr_ HO641.out).2.2|(with_reducible refine ca_ ?_ _)|(with_reducible refine cn_ ?_ _)|(with_reducible refine cd_ ?_)));(case side2 => exact (rr_ HO641.out).2.1);(case side3 => repeat (first|exact (rr_ HO643.out).2.2|(with_reducible refine ca_ ?_ _)|(with_reducible refine cn_ ?_ _)|(with_reducible refine cd_ ?_)));(case side4 => exact (rr_ HO643.out).2.1);rintro e w24 ⟨rfl,hb⟩;refine ⟨_,rfl,?_⟩;have n0_:=mk_ (rb_ (qr_ HO629) hb);have n1_:=mk_ (rb_ (qr_ HO631) hb);have n2_:=mk_ (Kd.S_below (by (with_reducible repeat (first|apply Kd.S_alloc|apply Kd.S_drewN|apply Kd.S_drew));exact HO639.out) hb);have n3_:=mk_ (rb_ (qr_ HO641) hb);have n4_:=mk_ (rb_ (qr_ HO643) hb);have n5_:=mk_ (st_ (qb_ HB) hb);clear HO629 HO631 HO639 HO641 HO643 HB;have HO629:=n0_;have HO631:=n1_;have HO639:=n2_;have HO641:=n3_;have HO643:=n4_;have HB:=n5_;clear n0_ n1_ n2_ n3_ n4_ n5_;(try clear hb);(try clear hb2);(try clear hk);(try clear hi)))
     go_ret
     exact ⟨qe_,u0_ HB⟩
    ·rw [if_neg c12] at H
     have c12b0 : decide (t646 < 0) = false:=decide_eq_false c12
     clear c12
     have H':=mk_ H
     clear H
     go_enter Try.func7,Try.ntmps7
     go_wp2_with (first|((with_reducible refine gate_callee (f:=21) rfl ?_);refine goesL_ (some 21) rfl rfl Try.func21 (by kernel_rfl) rfl #[.slice A0 l0.length c0] rfl qm_ ?_;(with_reducible refine (spec_DrawLinkBound.calls k _ _ l0 t624 t625 t626 t627 _ ?side1 ?side2 A3.out).mono ?_);(case side1 => repeat (first|exact HR0.out|(with_reducible refine ca_ ?_ _)|(with_reducible refine cn_ ?_ _)|(with_reducible refine cd_ ?_)));(case side2 => exact HC0.out);rintro e w25 ⟨v628,v630,rfl,ho0,ho1,hb⟩;refine ⟨_,rfl,?_⟩;have n0_:=mk_ (Kd.R_lower ho0 (bz_ (qb_ HB)));have n1_:=mk_ (Kd.R_lower ho1 (bz_ (qb_ HB)));have n2_:=mk_ (st_ (qb_ HB) hb);clear HB;have HO629:=n0_;have HO631:=n1_;have HB:=n2_;clear n0_ n1_ n2_;(try clear hb);(try clear hb2);(try clear hk);(try clear hi);(try clear ho0);(try clear ho1);obtain ⟨Ao26,co26,eo26⟩:=Kd.R_slice HO629.out;subst eo26;obtain ⟨Ao27,co27,eo27⟩:=Kd.R_slice HO631.out;subst eo27)|((with_reducible refine gate_callee (f:=22) rfl ?_);refine goesL_ (some 30) rfl rfl Try.func22 (by kernel_rfl) rfl #[.int .i64 t624,.int .i64 t625,.slice Ao26 t626.length co26,.slice Ao27 t627.length co27] rfl qm_ ?_;(with_reducible refine (impl_LinkBound.calls t624 t625 _ _ t626 _ _ t627 t632 _ ?side1 ?side2 ?side3 ?side4 A4.out).mono ?_);(case side1 => repeat (first|exact (rr_ HO629.out).2.2|(with_reducible refine ca_ ?_ _)|(with_reducible refine cn_ ?_ _)|(with_reducible refine cd_ ?_)));(case side2 => exact (rr_ HO629.out).2.1);(case side3 => repeat (first|exact (rr_ HO631.out).2.2|(with_reducible refine ca_ ?_ _)|(with_reducible refine cn_ ?_ _)|(with_reducible refine cd_ ?_)));(case side4 => exact (rr_ HO631.out).2.1);rintro e w28 ⟨rfl,hb⟩;refine ⟨_,rfl,?_⟩;have n0_:=mk_ (rb_ (qr_ HO629) hb);have n1_:=mk_ (rb_ (qr_ HO631) hb);have n2_:=mk_ (st_ (qb_ HB) hb);clear HO629 HO631 HB;have HO629:=n0_;have HO631:=n1_;have HB:=n2_;clear n0_ n1_ n2_;(try clear hb);(try clear hb2);(try clear hk);(try clear hi))|((with_reducible refine gate_callee (f:=23) rfl ?_);refine goesL_ (some 36) rfl rfl Try.func23 (by kernel_rfl) rfl #[.int .i64 t624,.int .i64 t625,.slice Ao26 t626.length co26,.slice Ao27 t627.length co27] rfl qm_ ?_;(with_reducible refine (spec_LinkBound.calls k t624 t625 _ _ t626 _ _ t627 t633 _ ?side1 ?side2 ?side3 ?side4 A5.out).mono ?_);(case side1 => repeat (first|exact (rr_ HO629.out).2.2|(with_reducible refine ca_ ?_ _)|(with_reducible refine cn_ ?_ _)|(with_reducible refine cd_ ?_)));(case side2 => exact (rr_ HO629.out).2.1);(case side3 => repeat (first|exact (rr_ HO631.out).2.2|(with_reducible refine ca_ ?_ _)|(with_reducible refine cn_ ?_ _)|(with_reducible refine cd_ ?_)));(case side4 => exact (rr_ HO631.out).2.1);rintro e w29 ⟨rfl,hb⟩;refine ⟨_,rfl,?_⟩;have n0_:=mk_ (rb_ (qr_ HO629) hb);have n1_:=mk_ (rb_ (qr_ HO631) hb);have n2_:=mk_ (st_ (qb_ HB) hb);clear HO629 HO631 HB;have HO629:=n0_;have HO631:=n1_;have HB:=n2_;clear n0_ n1_ n2_;(try clear hb);(try clear hb2);(try clear hk);(try clear hi))|((with_reducible refine gate_callee (f:=9) rfl ?_);refine goesL_ (some 40) rfl rfl Try.func9 (by kernel_rfl) rfl #[.slice A0 l0.length c0] rfl qm_ ?_;(with_reducible refine (spec_DrawLinkRounds.calls k _ _ l0 t634 t635 t636 t637 _ ?side1 ?side2 A7.out).mono ?_);(case side1 => exact qn_ HR0 HB);(case side2 => exact HC0.out);rintro e w30 ⟨v638,v640,v642,rfl,ho0,ho1,ho2,hb⟩;refine ⟨_,rfl,?_⟩;have n0_:=mk_ (rm_ (Kd.R_told (Kd.R_told (Kd.R_old (qr_ HO629) hb) (Kd.R_base ho1)) (Kd.R_base ho2)) (λ_ h=>h.1));have n1_:=mk_ (rm_ (Kd.R_told (Kd.R_told (Kd.R_old (qr_ HO631) hb) (Kd.R_base ho1)) (Kd.R_base ho2)) (λ_ h=>h.1));have n2_:=mk_ (Kd.S_lower ho0 (bz_ (qb_ HB)));have n3_:=mk_ (Kd.R_lower (Kd.R_new' (Kd.R_new' ho1 (Kd.R_lt (qr_ HO629))) (Kd.R_lt (qr_ HO631))) (bz_ (qb_ HB)));have n4_:=mk_ (Kd.R_lower (Kd.R_new' (Kd.R_new' ho2 (Kd.R_lt (qr_ HO629))) (Kd.R_lt (qr_ HO631))) (bz_ (qb_ HB)));have n5_:=mk_ (st_ (qb_ HB) hb);clear HO629 HO631 HB;have HO629:=n0_;have HO631:=n1_;have HO639:=n2_;have HO641:=n3_;have HO643:=n4_;have HB:=n5_;clear n0_ n1_ n2_ n3_ n4_ n5_;(try clear hb);(try clear hb2);(try clear hk);(try clear hi);(try clear ho0);(try clear ho1);(try clear ho2);obtain ⟨Ao31,co31,eo31⟩:=Kd.S_slice HO639.out;subst eo31;obtain ⟨Ao32,co32,eo32⟩:=Kd.R_slice HO641.out;subst eo32;obtain ⟨Ao33,co33,eo33⟩:=Kd.R_slice HO643.out;subst eo33)|((with_reducible refine gate_callee (f:=16) rfl ?_);refine goesL_ (some 49) rfl rfl Try.func16 (by kernel_rfl) rfl #[.int .i64 t634,.slice Ao31 t635.length co31,.slice Ao32 t636.length co32,.slice Ao33 t637.length co33] rfl qm_ ?_;(with_reducible refine (impl_LinkRounds.calls t634 _ _ t635 _ _ t636 _ _ t637 t644 _ ?side1 ?side2 ?side3 ?side4 ?side5 ?side6 A8.out).mono ?_);(case side1 => repeat (first|exact (Kd.S_reads' HO639.out).2.2|(with_reducible refine ca_ ?_ _)|(with_reducible refine cn_ ?_ _)|(with_reducible refine cd_ ?_)));(case side2 => exact (Kd.S_reads' HO639.out).2.1);(case side3 => repeat (first|exact (rr_ HO641.out).2.2|(with_reducible refine ca_ ?_ _)|(with_reducible refine cn_ ?_ _)|(with_reducible refine cd_ ?_)));(case side4 => exact (rr_ HO641.out).2.1);(case side5 => repeat (first|exact (rr_ HO643.out).2.2|(with_reducible refine ca_ ?_ _)|(with_reducible refine cn_ ?_ _)|(with_reducible refine cd_ ?_)));(case side6 => exact (rr_ HO643.out).2.1);rintro e w34 ⟨rfl,hb⟩;refine ⟨_,rfl,?_⟩;have n0_:=mk_ (rb_ (qr_ HO629) hb);have n1_:=mk_ (rb_ (qr_ HO631) hb);have n2_:=mk_ (Kd.S_below (by (with_reducible repeat (first|apply Kd.S_alloc|apply Kd.S_drewN|apply Kd.S_drew));exact HO639.out) hb);have n3_:=mk_ (rb_ (qr_ HO641) hb);have n4_:=mk_ (rb_ (qr_ HO643) hb);have n5_:=mk_ (st_ (qb_ HB) hb);clear HO629 HO631 HO639 HO641 HO643 HB;have HO629:=n0_;have HO631:=n1_;have HO639:=n2_;have HO641:=n3_;have HO643:=n4_;have HB:=n5_;clear n0_ n1_ n2_ n3_ n4_ n5_;(try clear hb);(try clear hb2);(try clear hk);(try clear hi))|((with_reducible refine gate_callee (f:=13) rfl ?_);refine goesL_ (some 55) rfl rfl Try.func13 (by kernel_rfl) rfl #[.int .i64 t634,.slice Ao31 t635.length co31,.slice Ao32 t636.length co32,.slice Ao33 t637.length co33] rfl qm_ ?_;(with_reducible refine (spec_LinkRounds.calls k t634 _ _ t635 _ _ t636 _ _ t637 t645 _ ?side1 ?side2 ?side3 ?side4 ?side5 ?side6 A9.out).mono ?_);(case side1 => repeat (first|exact (Kd.S_reads' HO639.out).2.2|(with_reducible refine ca_ ?_ _)|(with_reducible refine cn_ ?_ _)|(with_reducible refine cd_ ?_)));(case side2 => exact (Kd.S_reads' HO639.out).2.1);(case side3 => repeat (first|exact (rr_ HO641.out).2.2|(with_reducible refine ca_ ?_ _)|(with_reducible refine cn_ ?_ _)|(with_reducible refine cd_ ?_)));(case side4 => exact (rr_ HO641.out).2.1);(case side5 => repeat (first|exact (rr_ HO643.out).2.2|(with_reducible refine ca_ ?_ _)|(with_reducible refine cn_ ?_ _)|(with_reducible refine cd_ ?_)));(case side6 => exact (rr_ HO643.out).2.1);rintro e w35 ⟨rfl,hb⟩;refine ⟨_,rfl,?_⟩;have n0_:=mk_ (rb_ (qr_ HO629) hb);have n1_:=mk_ (rb_ (qr_ HO631) hb);have n2_:=mk_ (Kd.S_below (by (with_reducible repeat (first|apply Kd.S_alloc|apply Kd.S_drewN|apply Kd.S_drew));exact HO639.out) hb);have n3_:=mk_ (rb_ (qr_ HO641) hb);have n4_:=mk_ (rb_ (qr_ HO643) hb);have n5_:=mk_ (st_ (qb_ HB) hb);clear HO629 HO631 HO639 HO641 HO643 HB;have HO629:=n0_;have HO631:=n1_;have HO639:=n2_;have HO641:=n3_;have HO643:=n4_;have HB:=n5_;clear n0_ n1_ n2_ n3_ n4_ n5_;(try clear hb);(try clear hb2);(try clear hk);(try clear hi))|((with_reducible refine gate_callee (f:=22) rfl ?_);refine goesL_ (some 62) rfl rfl Try.func22 (by kernel_rfl) rfl #[.int .i64 t634,.int .i64 (t635.length : Int),.slice Ao32 t636.length co32,.slice Ao33 t637.length co33] rfl qm_ ?_;(with_reducible refine (impl_LinkBound.calls t634 (t635.length : Int) _ _ t636 _ _ t637 t646 _ ?side1 ?side2 ?side3 ?side4 A11.out).mono ?_);(case side1 => repeat (first|exact (rr_ HO641.out).2.2|(with_reducible refine ca_ ?_ _)|(with_reducible refine cn_ ?_ _)|(with_reducible refine cd_ ?_)));(case side2 => exact (rr_ HO641.out).2.1);(case side3 => repeat (first|exact (rr_ HO643.out).2.2|(with_reducible refine ca_ ?_ _)|(with_reducible refine cn_ ?_ _)|(with_reducible refine cd_ ?_)));(case side4 => exact (rr_ HO643.out).2.1);rintro e w36 ⟨rfl,hb⟩;refine ⟨_,rfl,?_⟩;have n0_:=mk_ (rb_ (qr_ HO629) hb);have n1_:=mk_ (rb_ (qr_ HO631) hb);have n2_:=mk_ (Kd.S_below (by (with_reducible repeat (first|apply Kd.S_alloc|apply Kd.S_drewN|apply Kd.S_drew));exact HO639.out) hb);have n3_:=mk_ (rb_ (qr_ HO641) hb);have n4_:=mk_ (rb_ (qr_ HO643) hb);have n5_:=mk_ (st_ (qb_ HB) hb);clear HO629 HO631 HO639 HO641 HO643 HB;have HO629:=n0_;have HO631:=n1_;have HO639:=n2_;have HO641:=n3_;have HO643:=n4_;have HB:=n5_;clear n0_ n1_ n2_ n3_ n4_ n5_;(try clear hb);(try clear hb2);(try clear hk);(try clear hi)))
     go_loopg [67] k (fun kq v67 w' => ∃ (x67_1 : Int),v67 = .int .i64 x67_1 ∧ Aside0 (laws_FnLinkLive.l0 kq t644 t646 t635 (t635.length : Int) x67_1 = some r) ∧ Aside0 (kq ≤ k) ∧ Aside0 (Kd.S (Kd.slice 5 (Kd.int .u8)) 22 w' w.heap.size (fun _ => True) (.slice Ao31 t635.length co31) t635) ∧ Aside0 (Below w.heap.size w w'))
     case atStart => exact ⟨(0),qf_,H',⟨Nat.le_refl _⟩,⟨by (with_reducible repeat (first|apply Kd.S_alloc|apply Kd.S_drewN|apply Kd.S_drew));exact HO639.out⟩,⟨u0_ HB⟩⟩
     case round =>
      clear H'
      try clear c1
      try clear c2
      try clear c2b0
      try clear c2b1
      try clear p2
      try clear c6
      try clear c6b0
      try clear c6b1
      try clear c7
      try clear c9
      try clear c10
      try clear c10b0
      try clear c10b1
      try clear c12
      try clear c12b0
      try clear c13
      try clear c16
      try clear c21
      try clear c22
      try clear c23
      obtain ⟨x67_1,rfl,HA,HK1,HO_65,HB⟩:=hrel
      cases gk with
      | zero => exact absurd HA.out (by simp [laws_FnLinkLive.l0])
      | succ k1 =>
       have H:=HA.out
       clear HA
       simp only [laws_FnLinkLive.l0] at H
       by_cases c37 : x67_1 < (t635.length : Int)
       ·rw [if_pos c37] at H
        have c37b0 : decide (x67_1 < (t635.length : Int)) = true:=decide_eq_true c37
        clear c37
        by_cases c38 : 0 ≤ x67_1
        ·rw [if_pos c38] at H
         have c38b0 : decide (0 ≤ x67_1) = true:=decide_eq_true c38
         clear c38
         by_cases c39 : x67_1 < (t635.length : Int)
         ·rw [if_pos c39] at H
          have c39b0 : decide (x67_1 < (t635.length : Int)) = true:=decide_eq_true c39
          clear c39
          by_cases c40 : ((rd_L4 t635 x67_1).length : Int) > 597
          ·rw [if_pos c40] at H
           have c40b0 : decide (597 < ((rd_L4 t635 x67_1).length : Int)) = true:=decide_eq_true c40
           have c40b1 : decide (597 < (rd_L4 t635 x67_1).length) = true:=decide_eq_true (by omega)
           clear c40
           obtain rfl:=Option.some.inj H
           have p647 : 0 ≤ (x67_1 : Int):=od_ qa_
           have q647 : x67_1 < (t635.length : Int):=od_ qa_
           obtain ⟨ad647,A647_0,c647_0,e647,hx647_0,hl647_0,hi647_0⟩:=at_L4 (Kd.S_reads' HO_65.out).2.2 x67_1 p647 q647
           cases e647
           obtain ⟨ce647,hce647,hMe647,hcc647⟩:=Kd.S_get HO_65.out [] x67_1 p647 (by first|exact q647|exact od_ qa_|(have e_:=(Kd.S_reads' HO_65.out).1;omega))
           obtain ⟨ve647_0,rfl,ge647_0⟩:=hMe647
           have hv647_0:=hcc647 0 _ rfl
           rw [Nat.add_zero,show ((Kd.slice 5 (Kd.int .u8))).sz = 1 from rfl,Nat.mul_one] at hv647_0
           replace hv647_0:=Option.some.inj (hv647_0.symm.trans hx647_0)
           rw [hv647_0] at ge647_0
           have HL647_0:=mk_ (show Kd.R (Kd.int .u8) 5 _ _ _ _ (rd_L4 t635 x67_1) from ge647_0)
           clear hv647_0 ge647_0
           clear hcc647 hce647
           have HR647_0:=mk_ hi647_0
           have HC647_0:=mk_ hl647_0
           clear hi647_0 hl647_0
           replace p647:=eq_true p647
           replace q647:=eq_true q647
           go_wp2
           go_ret
           exact ⟨qe_,u0_ HB⟩
          ·rw [if_neg c40] at H
           have c40b0 : decide (597 < ((rd_L4 t635 x67_1).length : Int)) = false:=decide_eq_false c40
           have c40b1 : decide (597 < (rd_L4 t635 x67_1).length) = false:=decide_eq_false (by omega)
           clear c40
           have H':=mk_ H
           clear H
           have p647 : 0 ≤ (x67_1 : Int):=od_ qa_
           have q647 : x67_1 < (t635.length : Int):=od_ qa_
           obtain ⟨ad647,A647_0,c647_0,e647,hx647_0,hl647_0,hi647_0⟩:=at_L4 (Kd.S_reads' HO_65.out).2.2 x67_1 p647 q647
           cases e647
           obtain ⟨ce647,hce647,hMe647,hcc647⟩:=Kd.S_get HO_65.out [] x67_1 p647 (by first|exact q647|exact od_ qa_|(have e_:=(Kd.S_reads' HO_65.out).1;omega))
           obtain ⟨ve647_0,rfl,ge647_0⟩:=hMe647
           have hv647_0:=hcc647 0 _ rfl
           rw [Nat.add_zero,show ((Kd.slice 5 (Kd.int .u8))).sz = 1 from rfl,Nat.mul_one] at hv647_0
           replace hv647_0:=Option.some.inj (hv647_0.symm.trans hx647_0)
           rw [hv647_0] at ge647_0
           have HL647_0:=mk_ (show Kd.R (Kd.int .u8) 5 _ _ _ _ (rd_L4 t635 x67_1) from ge647_0)
           clear hv647_0 ge647_0
           clear hcc647 hce647
           have HR647_0:=mk_ hi647_0
           have HC647_0:=mk_ hl647_0
           clear hi647_0 hl647_0
           replace p647:=eq_true p647
           replace q647:=eq_true q647
           go_wp2
           go_roundg k1
           case measure => have:=HK1.out;omega
           case rel => exact ⟨(wrap64 (x67_1 + 1)),qf_,H',⟨by have:=HK1.out;omega⟩,⟨by (with_reducible repeat (first|apply Kd.S_alloc|apply Kd.S_drewN|apply Kd.S_drew));exact HO_65.out⟩,⟨u0_ HB⟩⟩
         ·rw [if_neg c39] at H
          exact absurd H (by simp)
        ·rw [if_neg c38] at H
         exact absurd H (by simp)
       ·rw [if_neg c37] at H
        have c37b0 : decide (x67_1 < (t635.length : Int)) = false:=decide_eq_false c37
        clear c37
        by_cases c41 : t646 > 400
        ·rw [if_pos c41] at H
         have c41b0 : decide (400 < t646) = true:=decide_eq_true c41
         clear c41
         obtain rfl:=Option.some.inj H
         go_wp2
         go_ret
         exact ⟨qe_,u0_ HB⟩
        ·rw [if_neg c41] at H
         have c41b0 : decide (400 < t646) = false:=decide_eq_false c41
         clear c41
         by_cases c42 : t644 ≥ 0
         ·rw [if_pos c42] at H
          have c42b0 : decide (0 ≤ t644) = true:=decide_eq_true c42
          clear c42
          obtain rfl:=Option.some.inj H
          go_wp2
          go_ret
          exact ⟨qe_,u0_ HB⟩
         ·rw [if_neg c42] at H
          have c42b0 : decide (0 ≤ t644) = false:=decide_eq_false c42
          clear c42
          obtain rfl:=Option.some.inj H
          go_wp2
          go_ret
          exact ⟨qe_,u0_ HB⟩
   ·rw [if_neg c10] at H
    have c10b0 : (t644 == t645) = false:=beq_eq_false_iff_ne.mpr c10
    have c10b1 : (t644 != t645) = true:=bne_iff_ne.mpr c10
    obtain rfl:=Option.some.inj H
    go_enter Try.func7,Try.ntmps7
    go_wp2_with (first|((with_reducible refine gate_callee (f:=21) rfl ?_);refine goesL_ (some 21) rfl rfl Try.func21 (by kernel_rfl) rfl #[.slice A0 l0.length c0] rfl qm_ ?_;(with_reducible refine (spec_DrawLinkBound.calls k _ _ l0 t624 t625 t626 t627 _ ?side1 ?side2 A3.out).mono ?_);(case side1 => repeat (first|exact HR0.out|(with_reducible refine ca_ ?_ _)|(with_reducible refine cn_ ?_ _)|(with_reducible refine cd_ ?_)));(case side2 => exact HC0.out);rintro e w43 ⟨v628,v630,rfl,ho0,ho1,hb⟩;refine ⟨_,rfl,?_⟩;have n0_:=mk_ (Kd.R_lower ho0 (bz_ (qb_ HB)));have n1_:=mk_ (Kd.R_lower ho1 (bz_ (qb_ HB)));have n2_:=mk_ (st_ (qb_ HB) hb);clear HB;have HO629:=n0_;have HO631:=n1_;have HB:=n2_;clear n0_ n1_ n2_;(try clear hb);(try clear hb2);(try clear hk);(try clear hi);(try clear ho0);(try clear ho1);obtain ⟨Ao44,co44,eo44⟩:=Kd.R_slice HO629.out;subst eo44;obtain ⟨Ao45,co45,eo45⟩:=Kd.R_slice HO631.out;subst eo45)|((with_reducible refine gate_callee (f:=22) rfl ?_);refine goesL_ (some 30) rfl rfl Try.func22 (by kernel_rfl) rfl #[.int .i64 t624,.int .i64 t625,.slice Ao44 t626.length co44,.slice Ao45 t627.length co45] rfl qm_ ?_;(with_reducible refine (impl_LinkBound.calls t624 t625 _ _ t626 _ _ t627 t632 _ ?side1 ?side2 ?side3 ?side4 A4.out).mono ?_);(case side1 => repeat (first|exact (rr_ HO629.out).2.2|(with_reducible refine ca_ ?_ _)|(with_reducible refine cn_ ?_ _)|(with_reducible refine cd_ ?_)));(case side2 => exact (rr_ HO629.out).2.1);(case side3 => repeat (first|exact (rr_ HO631.out).2.2|(with_reducible refine ca_ ?_ _)|(with_reducible refine cn_ ?_ _)|(with_reducible refine cd_ ?_)));(case side4 => exact (rr_ HO631.out).2.1);rintro e w46 ⟨rfl,hb⟩;refine ⟨_,rfl,?_⟩;have n0_:=mk_ (rb_ (qr_ HO629) hb);have n1_:=mk_ (rb_ (qr_ HO631) hb);have n2_:=mk_ (st_ (qb_ HB) hb);clear HO629 HO631 HB;have HO629:=n0_;have HO631:=n1_;have HB:=n2_;clear n0_ n1_ n2_;(try clear hb);(try clear hb2);(try clear hk);(try clear hi))|((with_reducible refine gate_callee (f:=23) rfl ?_);refine goesL_ (some 36) rfl rfl Try.func23 (by kernel_rfl) rfl #[.int .i64 t624,.int .i64 t625,.slice Ao44 t626.length co44,.slice Ao45 t627.length co45] rfl qm_ ?_;(with_reducible refine (spec_LinkBound.calls k t624 t625 _ _ t626 _ _ t627 t633 _ ?side1 ?side2 ?side3 ?side4 A5.out).mono ?_);(case side1 => repeat (first|exact (rr_ HO629.out).2.2|(with_reducible refine ca_ ?_ _)|(with_reducible refine cn_ ?_ _)|(with_reducible refine cd_ ?_)));(case side2 => exact (rr_ HO629.out).2.1);(case side3 => repeat (first|exact (rr_ HO631.out).2.2|(with_reducible refine ca_ ?_ _)|(with_reducible refine cn_ ?_ _)|(with_reducible refine cd_ ?_)));(case side4 => exact (rr_ HO631.out).2.1);rintro e w47 ⟨rfl,hb⟩;refine ⟨_,rfl,?_⟩;have n0_:=mk_ (rb_ (qr_ HO629) hb);have n1_:=mk_ (rb_ (qr_ HO631) hb);have n2_:=mk_ (st_ (qb_ HB) hb);clear HO629 HO631 HB;have HO629:=n0_;have HO631:=n1_;have HB:=n2_;clear n0_ n1_ n2_;(try clear hb);(try clear hb2);(try clear hk);(try clear hi))|((with_reducible refine gate_callee (f:=9) rfl ?_);refine goesL_ (some 40) rfl rfl Try.func9 (by kernel_rfl) rfl #[.slice A0 l0.length c0] rfl qm_ ?_;(with_reducible refine (spec_DrawLinkRounds.calls k _ _ l0 t634 t635 t636 t637 _ ?side1 ?side2 A7.out).mono ?_);(case side1 => exact qn_ HR0 HB);(case side2 => exact HC0.out);rintro e w48 ⟨v638,v640,v642,rfl,ho0,ho1,ho2,hb⟩;refine ⟨_,rfl,?_⟩;have n0_:=mk_ (rm_ (Kd.R_told (Kd.R_told (Kd.R_old (qr_ HO629) hb) (Kd.R_base ho1)) (Kd.R_base ho2)) (λ_ h=>h.1));have n1_:=mk_ (rm_ (Kd.R_told (Kd.R_told (Kd.R_old (qr_ HO631) hb) (Kd.R_base ho1)) (Kd.R_base ho2)) (λ_ h=>h.1));have n2_:=mk_ (Kd.S_lower ho0 (bz_ (qb_ HB)));have n3_:=mk_ (Kd.R_lower (Kd.R_new' (Kd.R_new' ho1 (Kd.R_lt (qr_ HO629))) (Kd.R_lt (qr_ HO631))) (bz_ (qb_ HB)));have n4_:=mk_ (Kd.R_lower (Kd.R_new' (Kd.R_new' ho2 (Kd.R_lt (qr_ HO629))) (Kd.R_lt (qr_ HO631))) (bz_ (qb_ HB)));have n5_:=mk_ (st_ (qb_ HB) hb);clear HO629 HO631 HB;have HO629:=n0_;have HO631:=n1_;have HO639:=n2_;have HO641:=n3_;have HO643:=n4_;have HB:=n5_;clear n0_ n1_ n2_ n3_ n4_ n5_;(try clear hb);(try clear hb2);(try clear hk);(try clear hi);(try clear ho0);(try clear ho1);(try clear ho2);obtain ⟨Ao49,co49,eo49⟩:=Kd.S_slice HO639.out;subst eo49;obtain ⟨Ao50,co50,eo50⟩:=Kd.R_slice HO641.out;subst eo50;obtain ⟨Ao51,co51,eo51⟩:=Kd.R_slice HO643.out;subst eo51)|((with_reducible refine gate_callee (f:=16) rfl ?_);refine goesL_ (some 49) rfl rfl Try.func16 (by kernel_rfl) rfl #[.int .i64 t634,.slice Ao49 t635.length co49,.slice Ao50 t636.length co50,.slice Ao51 t637.length co51] rfl qm_ ?_;(with_reducible refine (impl_LinkRounds.calls t634 _ _ t635 _ _ t636 _ _ t637 t644 _ ?side1 ?side2 ?side3 ?side4 ?side5 ?side6 A8.out).mono ?_);(case side1 => repeat (first|exact (Kd.S_reads' HO639.out).2.2|(with_reducible refine ca_ ?_ _)|(with_reducible refine cn_ ?_ _)|(with_reducible refine cd_ ?_)));(case side2 => exact (Kd.S_reads' HO639.out).2.1);(case side3 => repeat (first|exact (rr_ HO641.out).2.2|(with_reducible refine ca_ ?_ _)|(with_reducible refine cn_ ?_ _)|(with_reducible refine cd_ ?_)));(case side4 => exact (rr_ HO641.out).2.1);(case side5 => repeat (first|exact (rr_ HO643.out).2.2|(with_reducible refine ca_ ?_ _)|(with_reducible refine cn_ ?_ _)|(with_reducible refine cd_ ?_)));(case side6 => exact (rr_ HO643.out).2.1);rintro e w52 ⟨rfl,hb⟩;refine ⟨_,rfl,?_⟩;have n0_:=mk_ (rb_ (qr_ HO629) hb);have n1_:=mk_ (rb_ (qr_ HO631) hb);have n2_:=mk_ (Kd.S_below (by (with_reducible repeat (first|apply Kd.S_alloc|apply Kd.S_drewN|apply Kd.S_drew));exact HO639.out) hb);have n3_:=mk_ (rb_ (qr_ HO641) hb);have n4_:=mk_ (rb_ (qr_ HO643) hb);have n5_:=mk_ (st_ (qb_ HB) hb);clear HO629 HO631 HO639 HO641 HO643 HB;have HO629:=n0_;have HO631:=n1_;have HO639:=n2_;have HO641:=n3_;have HO643:=n4_;have HB:=n5_;clear n0_ n1_ n2_ n3_ n4_ n5_;(try clear hb);(try clear hb2);(try clear hk);(try clear hi))|((with_reducible refine gate_callee (f:=13) rfl ?_);refine goesL_ (some 55) rfl rfl Try.func13 (by kernel_rfl) rfl #[.int .i64 t634,.slice Ao49 t635.length co49,.slice Ao50 t636.length co50,.slice Ao51 t637.length co51] rfl qm_ ?_;(with_reducible refine (spec_LinkRounds.calls k t634 _ _ t635 _ _ t636 _ _ t637 t645 _ ?side1 ?side2 ?side3 ?side4 ?side5 ?side6 A9.out).mono ?_);(case side1 => repeat (first|exact (Kd.S_reads' HO639.out).2.2|(with_reducible refine ca_ ?_ _)|(with_reducible refine cn_ ?_ _)|(with_reducible refine cd_ ?_)));(case side2 => exact (Kd.S_reads' HO639.out).2.1);(case side3 => repeat (first|exact (rr_ HO641.out).2.2|(with_reducible refine ca_ ?_ _)|(with_reducible refine cn_ ?_ _)|(with_reducible refine cd_ ?_)));(case side4 => exact (rr_ HO641.out).2.1);(case side5 => repeat (first|exact (rr_ HO643.out).2.2|(with_reducible refine ca_ ?_ _)|(with_reducible refine cn_ ?_ _)|(with_reducible refine cd_ ?_)));(case side6 => exact (rr_ HO643.out).2.1);rintro e w53 ⟨rfl,hb⟩;refine ⟨_,rfl,?_⟩;have n0_:=mk_ (rb_ (qr_ HO629) hb);have n1_:=mk_ (rb_ (qr_ HO631) hb);have n2_:=mk_ (Kd.S_below (by (with_reducible repeat (first|apply Kd.S_alloc|apply Kd.S_drewN|apply Kd.S_drew));exact HO639.out) hb);have n3_:=mk_ (rb_ (qr_ HO641) hb);have n4_:=mk_ (rb_ (qr_ HO643) hb);have n5_:=mk_ (st_ (qb_ HB) hb);clear HO629 HO631 HO639 HO641 HO643 HB;have HO629:=n0_;have HO631:=n1_;have HO639:=n2_;have HO641:=n3_;have HO643:=n4_;have HB:=n5_;clear n0_ n1_ n2_ n3_ n4_ n5_;(try clear hb);(try clear hb2);(try clear hk);(try clear hi)))
    go_ret
    exact ⟨qe_,u0_ HB⟩
  ·rw [if_neg c6] at H
   have c6b0 : (t632 == t633) = false:=beq_eq_false_iff_ne.mpr c6
   have c6b1 : (t632 != t633) = true:=bne_iff_ne.mpr c6
   obtain rfl:=Option.some.inj H
   go_enter Try.func7,Try.ntmps7
   go_wp2_with (first|((with_reducible refine gate_callee (f:=21) rfl ?_);refine goesL_ (some 21) rfl rfl Try.func21 (by kernel_rfl) rfl #[.slice A0 l0.length c0] rfl qm_ ?_;(with_reducible refine (spec_DrawLinkBound.calls k _ _ l0 t624 t625 t626 t627 _ ?side1 ?side2 A3.out).mono ?_);(case side1 => repeat (first|exact HR0.out|(with_reducible refine ca_ ?_ _)|(with_reducible refine cn_ ?_ _)|(with_reducible refine cd_ ?_)));(case side2 => exact HC0.out);rintro e w54 ⟨v628,v630,rfl,ho0,ho1,hb⟩;refine ⟨_,rfl,?_⟩;have n0_:=mk_ (Kd.R_lower ho0 (bz_ (qb_ HB)));have n1_:=mk_ (Kd.R_lower ho1 (bz_ (qb_ HB)));have n2_:=mk_ (st_ (qb_ HB) hb);clear HB;have HO629:=n0_;have HO631:=n1_;have HB:=n2_;clear n0_ n1_ n2_;(try clear hb);(try clear hb2);(try clear hk);(try clear hi);(try clear ho0);(try clear ho1);obtain ⟨Ao55,co55,eo55⟩:=Kd.R_slice HO629.out;subst eo55;obtain ⟨Ao56,co56,eo56⟩:=Kd.R_slice HO631.out;subst eo56)|((with_reducible refine gate_callee (f:=22) rfl ?_);refine goesL_ (some 30) rfl rfl Try.func22 (by kernel_rfl) rfl #[.int .i64 t624,.int .i64 t625,.slice Ao55 t626.length co55,.slice Ao56 t627.length co56] rfl qm_ ?_;(with_reducible refine (impl_LinkBound.calls t624 t625 _ _ t626 _ _ t627 t632 _ ?side1 ?side2 ?side3 ?side4 A4.out).mono ?_);(case side1 => repeat (first|exact (rr_ HO629.out).2.2|(with_reducible refine ca_ ?_ _)|(with_reducible refine cn_ ?_ _)|(with_reducible refine cd_ ?_)));(case side2 => exact (rr_ HO629.out).2.1);(case side3 => repeat (first|exact (rr_ HO631.out).2.2|(with_reducible refine ca_ ?_ _)|(with_reducible refine cn_ ?_ _)|(with_reducible refine cd_ ?_)));(case side4 => exact (rr_ HO631.out).2.1);rintro e w57 ⟨rfl,hb⟩;refine ⟨_,rfl,?_⟩;have n0_:=mk_ (rb_ (qr_ HO629) hb);have n1_:=mk_ (rb_ (qr_ HO631) hb);have n2_:=mk_ (st_ (qb_ HB) hb);clear HO629 HO631 HB;have HO629:=n0_;have HO631:=n1_;have HB:=n2_;clear n0_ n1_ n2_;(try clear hb);(try clear hb2);(try clear hk);(try clear hi))|((with_reducible refine gate_callee (f:=23) rfl ?_);refine goesL_ (some 36) rfl rfl Try.func23 (by kernel_rfl) rfl #[.int .i64 t624,.int .i64 t625,.slice Ao55 t626.length co55,.slice Ao56 t627.length co56] rfl qm_ ?_;(with_reducible refine (spec_LinkBound.calls k t624 t625 _ _ t626 _ _ t627 t633 _ ?side1 ?side2 ?side3 ?side4 A5.out).mono ?_);(case side1 => repeat (first|exact (rr_ HO629.out).2.2|(with_reducible refine ca_ ?_ _)|(with_reducible refine cn_ ?_ _)|(with_reducible refine cd_ ?_)));(case side2 => exact (rr_ HO629.out).2.1);(case side3 => repeat (first|exact (rr_ HO631.out).2.2|(with_reducible refine ca_ ?_ _)|(with_reducible refine cn_ ?_ _)|(with_reducible refine cd_ ?_)));(case side4 => exact (rr_ HO631.out).2.1);rintro e w58 ⟨rfl,hb⟩;refine ⟨_,rfl,?_⟩;have n0_:=mk_ (rb_ (qr_ HO629) hb);have n1_:=mk_ (rb_ (qr_ HO631) hb);have n2_:=mk_ (st_ (qb_ HB) hb);clear HO629 HO631 HB;have HO629:=n0_;have HO631:=n1_;have HB:=n2_;clear n0_ n1_ n2_;(try clear hb);(try clear hb2);(try clear hk);(try clear hi)))
   go_ret
   exact ⟨qe_,u0_ HB⟩

/-- THE ONE PURE STATEMENT of laws_FnLinkLive: yours. -/
def laws_FnLinkLive.Pure : Prop:=∀ (l0 : List Int),l0.length ≤ maxLen → l0.length * 1 ≤ 140737488351232 → (∀ x ∈ l0,(Lit.int .u8 x).wf = true) → ∃ k,laws_FnLinkLive.f k l0 = some true
theorem laws_FnLinkLive.walk (P : laws_FnLinkLive.Pure) (a0 : Option Addr) (len0 cap0 : Nat) (z0 : List Int) (w : World) (w0 : (a0 = none ∧ len0 = 0 ∧ cap0 = 0 ∧ z0 = []) ∨ ∃ x,a0 = some x ∧ len0 ≤ cap0 ∧ cap0 ≤ maxLen ∧ z0.length = cap0 ∧ (∀ i,i < z0.length → w.cell? (x.add i) = some (.int .u8 (z0.getD i 0))) ∧ ∀ n ∈ z0,(Lit.int .u8 n).wf = true) (y0 : len0 * 1 ≤ 140737488351232) :
  Calls Try.prog 7 #[.slice a0 len0 cap0] w fun e w' => e = .returned (.bool true) ∧ Below w.heap.size w w':=by
 obtain ⟨l0,rfl,hr0,hm0,hw0,hc0⟩:=ReadsInt.ofRowC w0
 obtain ⟨k,h⟩:=P l0 hm0 y0 hw0
 refine (laws_FnLinkLive.calls k _ _ l0 true w (Kd.C_of_reads (d:=(0 : Int)) (h1:=fun _ => rfl) hr0) hc0 h).mono ?_
 rintro e w' ⟨rfl,hd⟩
 exact ⟨rfl,hd⟩

end Go.Proofs.Ytdpnloibbimblaa.PAll
