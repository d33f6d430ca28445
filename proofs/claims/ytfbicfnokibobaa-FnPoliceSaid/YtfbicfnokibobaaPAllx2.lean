/- Proved here: contracts of functions of the given program, or lemmas on them, for the laws of this seat. Written by xprint.py, a program of this session, on the ground of the kit's print; parts by hand: wip/x/ext. -/
import Derived.Test.YtfbicfnokibobaaPAllx0
import Derived.Test.YtfbicfnokibobaaPAllx1
namespace Go.Proofs.Ytfbicfnokibobaa.PAll
open Go.RowKit Go.Proofs.YtfbicfnokibobaaW.PrintWords Go.Proofs.YtfbicfnokibobaaW.PrintLast Go.Proofs.YtfbicfnokibobaaW.PrintMore
attribute [local go_sem] max2_int min2_int max_two min_two max_three min_three max_four min_four   -- for this text's walks alone
set_option linter.unusedVariables false
set_option linter.unusedSimpArgs false

/-! ### spec_l14Fits: function 40 -/
def spec_l14Fits.f (k : Nat) (a0 : Int) (a1 : Int) (l2 : List (S35)) : Option (Bool):=(spec_l1In.f a0 1 20).bind fun t190 => (if t190 = true then ((spec_l1In.f a1 1 100).bind fun t191 => (if t191 = true then ((spec_PulsesValid.f k l2).bind fun t192 => (some t192)) else (some false))) else (some false))
theorem spec_l14Fits.mono : ∀ a0 a1 a2 k,LeO (spec_l14Fits.f k a0 a1 a2) (spec_l14Fits.f (k + 1) a0 a1 a2):=by
 intro a0 a1 a2 k
 unfold spec_l14Fits.f
 repeat' first
   | (with_reducible exact spec_PulsesValid.mono _ _)
   | (with_reducible exact LeO.refl _)
   | (with_reducible exact LeO.none _)
   | (with_reducible refine LeO.ite ?_ ?_)
   | (with_reducible refine LeO.bind ?_ (fun _ => ?_))
   | exact spec_PulsesValid.mono _ _
   | exact LeO.none _
   | refine LeO.ite ?_ ?_
   | refine LeO.bind ?_ (fun _ => ?_)
set_option maxHeartbeats 8000000 in
set_option maxRecDepth 100000 in
theorem spec_l14Fits.calls (k : Nat) (a0 : Int) (a1 : Int) (A2 : Option Addr) (c2 : Nat) (l2 : List (S35)) (r : Bool) (w : World) (hr2 : Kd.C k35 w A2 l2.length l2) (hc2 : l2.length ≤ c2) (h : spec_l14Fits.f k a0 a1 l2 = some r) :
  Calls Try.prog 40 #[.int .i64 a0,.int .i64 a1,.slice A2 l2.length c2] w fun e w' => e = .returned (.bool r) ∧ Below w.heap.size w w':=by
 have HR2:=mk_ hr2
 have HC2:=mk_ hc2
 clear hr2 hc2
 have HB:=mk_ (Below.refl w.heap.size w)
 have H : ((spec_l1In.f a0 1 20).bind fun t190 => (if t190 = true then ((spec_l1In.f a1 1 100).bind fun t191 => (if t191 = true then ((spec_PulsesValid.f k l2).bind fun t192 => (some t192)) else (some false))) else (some false))) = some r:=h
 clear h
 replace H:=Option.bind_eq_some_iff.mp H
 obtain ⟨t190,A40,H⟩:=H
 replace H : (if t190 = true then ((spec_l1In.f a1 1 100).bind fun t191 => (if t191 = true then ((spec_PulsesValid.f k l2).bind fun t192 => (some t192)) else (some false))) else (some false)) = some r:=H
 have A4:=mk_ A40
 clear A40
 by_cases c5 : t190 = true
 ·subst c5
  have H1 : ((spec_l1In.f a1 1 100).bind fun t191 => (if t191 = true then ((spec_PulsesValid.f k l2).bind fun t192 => (some t192)) else (some false))) = some r:=by rw [if_pos rfl] at H;exact H
  clear H
  have H:=H1
  clear H1
  replace H:=Option.bind_eq_some_iff.mp H
  obtain ⟨t191,A60,H⟩:=H
  replace H : (if t191 = true then ((spec_PulsesValid.f k l2).bind fun t192 => (some t192)) else (some false)) = some r:=H
  have A6:=mk_ A60
  clear A60
  by_cases c7 : t191 = true
  ·subst c7
   have H1 : ((spec_PulsesValid.f k l2).bind fun t192 => (some t192)) = some r:=by rw [if_pos rfl] at H;exact H
   clear H
   have H:=H1
   clear H1
   replace H:=Option.bind_eq_some_iff.mp H
   obtain ⟨t192,A80,H⟩:=H
   replace H : (some t192) = some r:=H
   have A8:=mk_ A80
   clear A80
   obtain rfl:=Option.some.inj H
   go_enter Try.func40,Try.ntmps40
   go_wp2_with (first|((with_reducible refine gate_callee (f:=41) rfl ?_);refine goesL_ (some 8) rfl rfl Try.func41 (by kernel_rfl) rfl #[.int .i64 a0,.int .i64 1,.int .i64 20] rfl qm_ ?_;(with_reducible refine (spec_l1In.calls a0 1 20 true _ A4.out).mono ?_);rintro e w' ⟨rfl,⟨nd,rfl⟩⟩;refine ⟨_,rfl,?_⟩)|(go_at_call 41;(with_reducible refine (spec_l1In.calls a1 1 100 true _ A6.out).mono ?_);rintro e w' ⟨rfl,⟨nd,rfl⟩⟩)|(go_at_call 34;(with_reducible refine (spec_PulsesValid.calls k _ _ l2 t192 _ ?side1 ?side2 A8.out).mono ?_);(case side1 => repeat (first|exact HR2.out|(with_reducible refine ca_ ?_ _)|(with_reducible refine cn_ ?_ _)|(with_reducible refine cd_ ?_)));(case side2 => exact HC2.out);rintro e w9 ⟨rfl,hb⟩;have n0_:=mk_ (st_ (qb_ HB) hb);clear HB;have HB:=n0_;clear n0_;(try clear hb);(try clear hb2);(try clear hk);(try clear hi)))
   go_ret
   exact ⟨qe_,u3_ HB⟩
  ·replace c7:=Bool.eq_false_iff.mpr c7
   subst c7
   have H1 : (some false) = some r:=by rw [if_neg (show ¬ (false = true) by decide)] at H;exact H
   clear H
   have H:=H1
   clear H1
   obtain rfl:=Option.some.inj H
   go_enter Try.func40,Try.ntmps40
   go_wp2_with (first|((with_reducible refine gate_callee (f:=41) rfl ?_);refine goesL_ (some 8) rfl rfl Try.func41 (by kernel_rfl) rfl #[.int .i64 a0,.int .i64 1,.int .i64 20] rfl qm_ ?_;(with_reducible refine (spec_l1In.calls a0 1 20 true _ A4.out).mono ?_);rintro e w' ⟨rfl,⟨nd,rfl⟩⟩;refine ⟨_,rfl,?_⟩)|(go_at_call 41;(with_reducible refine (spec_l1In.calls a1 1 100 false _ A6.out).mono ?_);rintro e w' ⟨rfl,⟨nd,rfl⟩⟩))
   go_ret
   exact ⟨qe_,u3_ HB⟩
 ·replace c5:=Bool.eq_false_iff.mpr c5
  subst c5
  have H1 : (some false) = some r:=by rw [if_neg (show ¬ (false = true) by decide)] at H;exact H
  clear H
  have H:=H1
  clear H1
  obtain rfl:=Option.some.inj H
  go_enter Try.func40,Try.ntmps40
  go_wp2_with (first|((with_reducible refine gate_callee (f:=41) rfl ?_);refine goesL_ (some 8) rfl rfl Try.func41 (by kernel_rfl) rfl #[.int .i64 a0,.int .i64 1,.int .i64 20] rfl qm_ ?_;(with_reducible refine (spec_l1In.calls a0 1 20 false _ A4.out).mono ?_);rintro e w' ⟨rfl,⟨nd,rfl⟩⟩;refine ⟨_,rfl,?_⟩))
  go_ret
  exact ⟨qe_,u3_ HB⟩

/-! ### spec_PolicePulses: function 21 -/
def spec_PolicePulses.l0 : Nat → Int → Int → List (S35) → List Bool → Int → Int → Int → Option (List Bool)
 | 0,_,_,_,_,_,_,_ => none
 | k + 1,x0,x1,x2,x7,x8,x9,x10 => if x10 < (x2.length : Int) then (if 0 ≤ x10 then (if (mn x1 (wrap64 (x8 + (wrap64 (x0 * (wrap64 (((rd_T35 x2 x10).f0) - x9))))))) ≥ ((rd_T35 x2 x10).f1) then (if x7.length < 140737488355328 then (spec_PolicePulses.l0 k x0 x1 x2 (x7 ++ [decide ((mn x1 (wrap64 (x8 + (wrap64 (x0 * (wrap64 (((rd_T35 x2 x10).f0) - x9))))))) ≥ ((rd_T35 x2 x10).f1))]) (wrap64 ((mn x1 (wrap64 (x8 + (wrap64 (x0 * (wrap64 (((rd_T35 x2 x10).f0) - x9))))))) - ((rd_T35 x2 x10).f1))) ((rd_T35 x2 x10).f0) (wrap64 (x10 + 1))) else (none)) else (if x7.length < 140737488355328 then (spec_PolicePulses.l0 k x0 x1 x2 (x7 ++ [decide ((mn x1 (wrap64 (x8 + (wrap64 (x0 * (wrap64 (((rd_T35 x2 x10).f0) - x9))))))) ≥ ((rd_T35 x2 x10).f1))]) (mn x1 (wrap64 (x8 + (wrap64 (x0 * (wrap64 (((rd_T35 x2 x10).f0) - x9))))))) ((rd_T35 x2 x10).f0) (wrap64 (x10 + 1))) else (none))) else (none)) else (some x7)
def spec_PolicePulses.f (k : Nat) (a0 : Int) (a1 : Int) (l2 : List (S35)) : Option (List Bool):=(some (([] : List Bool) : List Bool)).bind fun y193 => ((spec_l14Fits.f k a0 a1 l2).bind fun t196 => (if t196 = true then (spec_PolicePulses.l0 k a0 a1 l2 y193 a1 0 0) else (some y193)))
theorem spec_PolicePulses.mono_l : ∀ k,(∀ y0 y1 y2 y3 y4 y5 y6,LeO (spec_PolicePulses.l0 k y0 y1 y2 y3 y4 y5 y6) (spec_PolicePulses.l0 (k + 1) y0 y1 y2 y3 y4 y5 y6))
 | 0 => fun _ _ _ _ _ _ _ r h => by simp [spec_PolicePulses.l0] at h
 | k + 1 => by
  have ih0:=spec_PolicePulses.mono_l k
  ·intro y0 y1 y2 y3 y4 y5 y6
   unfold spec_PolicePulses.l0
   repeat' first
   | (with_reducible exact ih0 _ _ _ _ _ _ _)
   | (with_reducible exact spec_l14Fits.mono _ _ _ _)
   | (with_reducible exact LeO.refl _)
   | (with_reducible exact LeO.none _)
   | (with_reducible refine LeO.ite ?_ ?_)
   | (with_reducible refine LeO.bind ?_ (fun _ => ?_))
   | exact ih0 _ _ _ _ _ _ _
   | exact spec_l14Fits.mono _ _ _ _
   | exact LeO.none _
   | refine LeO.ite ?_ ?_
   | refine LeO.bind ?_ (fun _ => ?_)
theorem spec_PolicePulses.mono : ∀ a0 a1 a2 k,LeO (spec_PolicePulses.f k a0 a1 a2) (spec_PolicePulses.f (k + 1) a0 a1 a2):=by
 intro a0 a1 a2 k
 have ih0:=spec_PolicePulses.mono_l k
 unfold spec_PolicePulses.f
 repeat' first
   | (with_reducible exact ih0 _ _ _ _ _ _ _)
   | (with_reducible exact spec_l14Fits.mono _ _ _ _)
   | (with_reducible exact LeO.refl _)
   | (with_reducible exact LeO.none _)
   | (with_reducible refine LeO.ite ?_ ?_)
   | (with_reducible refine LeO.bind ?_ (fun _ => ?_))
   | exact ih0 _ _ _ _ _ _ _
   | exact spec_l14Fits.mono _ _ _ _
   | exact LeO.none _
   | refine LeO.ite ?_ ?_
   | refine LeO.bind ?_ (fun _ => ?_)
set_option maxHeartbeats 8000000 in
set_option maxRecDepth 100000 in
theorem spec_PolicePulses.calls (k : Nat) (a0 : Int) (a1 : Int) (A2 : Option Addr) (c2 : Nat) (l2 : List (S35)) (r : List Bool) (w : World) (hr2 : Kd.C k35 w A2 l2.length l2) (hc2 : l2.length ≤ c2) (h : spec_PolicePulses.f k a0 a1 l2 = some r) :
  Calls Try.prog 21 #[.int .i64 a0,.int .i64 a1,.slice A2 l2.length c2] w fun e w' => ∃ v0_ : Value,e = .returned (v0_) ∧ Kd.R Kd.bool 4 w' w.heap.size (fun _ => True) v0_ r ∧ Below w.heap.size w w':=by
 have HR2:=mk_ hr2
 have HC2:=mk_ hc2
 clear hr2 hc2
 have HB:=mk_ (Below.refl w.heap.size w)
 have H : ((some (([] : List Bool) : List Bool)).bind fun y193 => ((spec_l14Fits.f k a0 a1 l2).bind fun t196 => (if t196 = true then (spec_PolicePulses.l0 k a0 a1 l2 y193 a1 0 0) else (some y193)))) = some r:=h
 clear h
 obtain ⟨y193,hy193⟩ : ∃ y_ : List Bool,y_ = (([] : List Bool)):=⟨_,rfl⟩
 replace H : ((spec_l14Fits.f k a0 a1 l2).bind fun t196 => (if t196 = true then (spec_PolicePulses.l0 k a0 a1 l2 y193 a1 0 0) else (some y193))) = some r:=by first|(rw [hy193];with_reducible exact H)|(have H2_:=(Option.bind_some _ _).symm.trans H;rw [hy193];with_reducible exact H2_)|(have H2_:=(Option.bind_some _ _).symm.trans H;with_reducible exact H2_)|with_reducible exact H|(rw [hy193];exact H)|exact H
 have Ny193:=mk_ hy193
 clear hy193
 replace H:=Option.bind_eq_some_iff.mp H
 obtain ⟨t196,A40,H⟩:=H
 replace H : (if t196 = true then (spec_PolicePulses.l0 k a0 a1 l2 y193 a1 0 0) else (some y193)) = some r:=H
 have A4:=mk_ A40
 clear A40
 by_cases c5 : t196 = true
 ·subst c5
  have H1 : (spec_PolicePulses.l0 k a0 a1 l2 y193 a1 0 0) = some r:=by rw [if_pos rfl] at H;exact H
  clear H
  have H:=H1
  clear H1
  have H':=mk_ H
  clear H
  go_enter Try.func21,Try.ntmps21
  go_wp2_with (first|((with_reducible refine gate_dst (N:=12) rfl ?_);refine Kd.R_lit Kd.bool _ 4 ?hg (N:=12) ?hd (xs:=([] : List Bool)) (inner:=[]) (ok:=fun _ => True) (okp:=fun _ => True) ?hr ?hp (fun _ hk => hk) trivial (Below.refl _ _) (Nat.le_refl _) (by simp) ?_;(case hd => rfl);(case hg => rfl);(case hr => first|(go_simp;done)|(go_simp;rfl));(case hp => exact (Reps.none _ _));intro v194 w6 ho7 hb hg_ hnew_;clear hg_ hnew_;(first|rw [← Ny193.out] at ho7|(simp only [Int.reduceToNat] at ho7;rw [← Ny193.out] at ho7));have n0_:=mk_ (Kd.R_lower ho7 (bz_ (qb_ HB)));have n1_:=mk_ (st_ (qb_ HB) hb);clear HB;have HO195:=n0_;have HB:=n1_;clear n0_ n1_ hb ho7)|((with_reducible refine gate_callee (f:=40) rfl ?_);refine goesL_ (some 16) rfl rfl Try.func40 (by kernel_rfl) rfl #[.int .i64 a0,.int .i64 a1,.slice A2 l2.length c2] rfl qm_ ?_;(with_reducible refine (spec_l14Fits.calls k a0 a1 _ _ l2 true _ ?side1 ?side2 A4.out).mono ?_);(case side1 => exact qn_ HR2 HB);(case side2 => exact HC2.out);rintro e w8 ⟨rfl,hb⟩;refine ⟨_,rfl,?_⟩;have n0_:=mk_ (rb_ (qr_ HO195) hb);have n1_:=mk_ (st_ (qb_ HB) hb);clear HO195 HB;have HO195:=n0_;have HB:=n1_;clear n0_ n1_;(try clear hb);(try clear hb2);(try clear hk);(try clear hi)))
  go_loopg [7,8,9,10] k (fun kq v7 v8 v9 v10 w' => ∃ (x7_1 : List Bool) (x8_1 : Int) (x9_1 : Int) (x10_1 : Int),v8 = .int .i64 x8_1 ∧ v9 = .int .i64 x9_1 ∧ v10 = .int .i64 x10_1 ∧ Aside0 (spec_PolicePulses.l0 kq a0 a1 l2 x7_1 x8_1 x9_1 x10_1 = some r) ∧ Aside0 (kq ≤ k) ∧ Aside0 (Kd.R Kd.bool 4 w' w.heap.size (fun _ => True) v7 x7_1) ∧ Aside0 (Below w.heap.size w w'))
  case atStart => exact ⟨(y193),(a1),(0),(0),qf_,qf_,qf_,H',⟨Nat.le_refl _⟩,⟨qr_ HO195⟩,⟨u3_ HB⟩⟩
  case round =>
   clear H'
   try clear c2
   try clear p2
   try clear c4
   try clear c5
   obtain ⟨x7_1,x8_1,x9_1,x10_1,rfl,rfl,rfl,HA,HK1,HO_7,HB⟩:=hrel
   cases gk with
   | zero => exact absurd HA.out (by simp [spec_PolicePulses.l0])
   | succ k1 =>
    have H:=HA.out
    clear HA
    simp only [spec_PolicePulses.l0] at H
    by_cases c9 : x10_1 < (l2.length : Int)
    ·rw [if_pos c9] at H
     have c9b0 : decide (x10_1 < (l2.length : Int)) = true:=decide_eq_true c9
     clear c9
     by_cases c10 : 0 ≤ x10_1
     ·rw [if_pos c10] at H
      have c10b0 : decide (0 ≤ x10_1) = true:=decide_eq_true c10
      clear c10
      obtain ⟨ji11,hji11⟩ : ∃ j_ : Int,(mn a1 (wrap64 (x8_1 + (wrap64 (a0 * (wrap64 (((rd_T35 l2 x10_1).f0) - x9_1))))))) = j_:=⟨_,rfl⟩
      replace H : (if (ji11) ≥ ((rd_T35 l2 x10_1).f1) then (if x7_1.length < 140737488355328 then (spec_PolicePulses.l0 k1 a0 a1 l2 (x7_1 ++ [decide ((ji11) ≥ ((rd_T35 l2 x10_1).f1))]) (wrap64 ((ji11) - ((rd_T35 l2 x10_1).f1))) ((rd_T35 l2 x10_1).f0) (wrap64 (x10_1 + 1))) else (none)) else (if x7_1.length < 140737488355328 then (spec_PolicePulses.l0 k1 a0 a1 l2 (x7_1 ++ [decide ((ji11) ≥ ((rd_T35 l2 x10_1).f1))]) ji11 ((rd_T35 l2 x10_1).f0) (wrap64 (x10_1 + 1))) else (none))) = some r:=by first|(rw [hji11] at H;exact H)|(simp only [hji11] at H ⊢;exact H)
      have hji11_ : (if (wrap64 (x8_1 + (wrap64 (a0 * (wrap64 (((rd_T35 l2 x10_1).f0) - x9_1)))))) < a1 then (wrap64 (x8_1 + (wrap64 (a0 * (wrap64 (((rd_T35 l2 x10_1).f0) - x9_1)))))) else a1) = ji11:=hji11
      by_cases c12 : (ji11) ≥ ((rd_T35 l2 x10_1).f1)
      ·rw [if_pos c12] at H
       have c12b0 : decide (((rd_T35 l2 x10_1).f1) ≤ (ji11)) = true:=decide_eq_true c12
       clear c12
       by_cases c13 : x7_1.length < 140737488355328
       ·rw [if_pos c13] at H
        have LMc13:=mk_ c13
        clear c13
        obtain ⟨y201,hy201⟩ : ∃ y_ : List Bool,y_ = (x7_1 ++ [decide ((ji11) ≥ ((rd_T35 l2 x10_1).f1))]):=⟨_,rfl⟩
        replace H : (spec_PolicePulses.l0 k1 a0 a1 l2 y201 (wrap64 ((ji11) - ((rd_T35 l2 x10_1).f1))) ((rd_T35 l2 x10_1).f0) (wrap64 (x10_1 + 1))) = some r:=by first|(rw [hy201];with_reducible exact H)|(have H2_:=(Option.bind_some _ _).symm.trans H;rw [hy201];with_reducible exact H2_)|(have H2_:=(Option.bind_some _ _).symm.trans H;with_reducible exact H2_)|with_reducible exact H|(rw [hy201];exact H)|exact H
        have Ny201 : Aside0 (y201 = x7_1 ++ [true]):=⟨by rw [hy201,show decide ((ji11) ≥ ((rd_T35 l2 x10_1).f1)) = true from c12b0]⟩
        clear hy201
        have H':=mk_ H
        clear H
        have p197 : 0 ≤ (x10_1 : Int):=od_ qa_
        have q197 : x10_1 < (l2.length : Int):=od_ qa_
        obtain ⟨ad197,e197,hx197_0,hx197_1⟩:=at_T35 HR2.out x10_1 p197 q197
        cases e197
        replace hx197_0:=(HB.out.cell (wl_ w _ hx197_0)).trans hx197_0
        replace hx197_1:=(HB.out.cell (wl_ w _ hx197_1)).trans hx197_1
        replace p197:=eq_true p197
        replace q197:=eq_true q197
        have p198 : 0 ≤ (x10_1 : Int):=od_ qa_
        have q198 : x10_1 < (l2.length : Int):=od_ qa_
        obtain ⟨ad198,e198,hx198_0,hx198_1⟩:=at_T35 HR2.out x10_1 p198 q198
        obtain rfl : ad197 = ad198:=(by injection e198)
        replace hx198_0:=(HB.out.cell (wl_ w _ hx198_0)).trans hx198_0
        replace hx198_1:=(HB.out.cell (wl_ w _ hx198_1)).trans hx198_1
        replace p198:=eq_true p198
        replace q198:=eq_true q198
        have p199 : 0 ≤ (x10_1 : Int):=od_ qa_
        have q199 : x10_1 < (l2.length : Int):=od_ qa_
        obtain ⟨ad199,e199,hx199_0,hx199_1⟩:=at_T35 HR2.out x10_1 p199 q199
        obtain rfl : ad197 = ad199:=(by injection e199)
        replace hx199_0:=(HB.out.cell (wl_ w _ hx199_0)).trans hx199_0
        replace hx199_1:=(HB.out.cell (wl_ w _ hx199_1)).trans hx199_1
        replace p199:=eq_true p199
        replace q199:=eq_true q199
        have p200 : 0 ≤ (x10_1 : Int):=od_ qa_
        have q200 : x10_1 < (l2.length : Int):=od_ qa_
        obtain ⟨ad200,e200,hx200_0,hx200_1⟩:=at_T35 HR2.out x10_1 p200 q200
        obtain rfl : ad197 = ad200:=(by injection e200)
        replace hx200_0:=(HB.out.cell (wl_ w _ hx200_0)).trans hx200_0
        replace hx200_1:=(HB.out.cell (wl_ w _ hx200_1)).trans hx200_1
        replace p200:=eq_true p200
        replace q200:=eq_true q200
        go_wp2_with (first|((with_reducible refine gate_builtin (b:=.append) (xs:=#[.tmp 59,.tmp 61]) rfl ?_);at_builtin;refine Kd.R_append Kd.bool (w0:=w) w.heap.size rfl (.tmp 59) (.tmp 61) 32 4 (.bool false) 1 rfl Try.underlying32 info4 rfl (by decide) (by omega) u7 x7_1 true [.bool true] (fun _ => True) (fun _ => False) rfl rfl ?aP (fun _ hk => hk.elim) ?aF ?aO ?aB ?aS ?aL ?_;(case aP => exact rfl);(case aB => exact (qb_ HB));(case aF => exact (fun _ _ => trivial));(case aO => exact (qr_ HO_7));(case aS => exact (bz_ (qb_ HB)));(case aL => have:=LMc13.out;omega);intro v202 w14 ho hb hg hat;rw [← Ny201.out] at ho;have n0_:=mk_ (hb);have n1_:=mk_ (ho);clear HB HO_7;have HB:=n0_;have HO203:=n1_;clear n0_ n1_ ho hb hg hat))
        go_roundg k1
        case measure => have:=HK1.out;omega
        case rel => exact ⟨(y201),(wrap64 ((ji11) - ((rd_T35 l2 x10_1).f1))),((rd_T35 l2 x10_1).f0),(wrap64 (x10_1 + 1)),(by first|rfl|(simp;done)|(simp only [← hji11] <;> (first|rfl|simp))|(simp [*];done)),qf_,qf_,H',⟨by have:=HK1.out;omega⟩,⟨qr_ HO203⟩,⟨u3_ HB⟩⟩
       ·rw [if_neg c13] at H
        exact absurd H (by simp)
      ·rw [if_neg c12] at H
       have c12b0 : decide (((rd_T35 l2 x10_1).f1) ≤ (ji11)) = false:=decide_eq_false c12
       clear c12
       by_cases c15 : x7_1.length < 140737488355328
       ·rw [if_pos c15] at H
        have LMc15:=mk_ c15
        clear c15
        obtain ⟨y204,hy204⟩ : ∃ y_ : List Bool,y_ = (x7_1 ++ [decide ((ji11) ≥ ((rd_T35 l2 x10_1).f1))]):=⟨_,rfl⟩
        replace H : (spec_PolicePulses.l0 k1 a0 a1 l2 y204 ji11 ((rd_T35 l2 x10_1).f0) (wrap64 (x10_1 + 1))) = some r:=by first|(rw [hy204];with_reducible exact H)|(have H2_:=(Option.bind_some _ _).symm.trans H;rw [hy204];with_reducible exact H2_)|(have H2_:=(Option.bind_some _ _).symm.trans H;with_reducible exact H2_)|with_reducible exact H|(rw [hy204];exact H)|exact H
        have Ny204 : Aside0 (y204 = x7_1 ++ [false]):=⟨by rw [hy204,show decide ((ji11) ≥ ((rd_T35 l2 x10_1).f1)) = false from c12b0]⟩
        clear hy204
        have H':=mk_ H
        clear H
        have p197 : 0 ≤ (x10_1 : Int):=od_ qa_
        have q197 : x10_1 < (l2.length : Int):=od_ qa_
        obtain ⟨ad197,e197,hx197_0,hx197_1⟩:=at_T35 HR2.out x10_1 p197 q197
        cases e197
        replace hx197_0:=(HB.out.cell (wl_ w _ hx197_0)).trans hx197_0
        replace hx197_1:=(HB.out.cell (wl_ w _ hx197_1)).trans hx197_1
        replace p197:=eq_true p197
        replace q197:=eq_true q197
        have p198 : 0 ≤ (x10_1 : Int):=od_ qa_
        have q198 : x10_1 < (l2.length : Int):=od_ qa_
        obtain ⟨ad198,e198,hx198_0,hx198_1⟩:=at_T35 HR2.out x10_1 p198 q198
        obtain rfl : ad197 = ad198:=(by injection e198)
        replace hx198_0:=(HB.out.cell (wl_ w _ hx198_0)).trans hx198_0
        replace hx198_1:=(HB.out.cell (wl_ w _ hx198_1)).trans hx198_1
        replace p198:=eq_true p198
        replace q198:=eq_true q198
        have p199 : 0 ≤ (x10_1 : Int):=od_ qa_
        have q199 : x10_1 < (l2.length : Int):=od_ qa_
        obtain ⟨ad199,e199,hx199_0,hx199_1⟩:=at_T35 HR2.out x10_1 p199 q199
        obtain rfl : ad197 = ad199:=(by injection e199)
        replace hx199_0:=(HB.out.cell (wl_ w _ hx199_0)).trans hx199_0
        replace hx199_1:=(HB.out.cell (wl_ w _ hx199_1)).trans hx199_1
        replace p199:=eq_true p199
        replace q199:=eq_true q199
        go_wp2_with (first|((with_reducible refine gate_builtin (b:=.append) (xs:=#[.tmp 59,.tmp 61]) rfl ?_);at_builtin;refine Kd.R_append Kd.bool (w0:=w) w.heap.size rfl (.tmp 59) (.tmp 61) 32 4 (.bool false) 1 rfl Try.underlying32 info4 rfl (by decide) (by omega) u7 x7_1 false [.bool false] (fun _ => True) (fun _ => False) rfl rfl ?aP (fun _ hk => hk.elim) ?aF ?aO ?aB ?aS ?aL ?_;(case aP => exact rfl);(case aB => exact (qb_ HB));(case aF => exact (fun _ _ => trivial));(case aO => exact (qr_ HO_7));(case aS => exact (bz_ (qb_ HB)));(case aL => have:=LMc15.out;omega);intro v205 w16 ho hb hg hat;rw [← Ny204.out] at ho;have n0_:=mk_ (hb);have n1_:=mk_ (ho);clear HB HO_7;have HB:=n0_;have HO206:=n1_;clear n0_ n1_ ho hb hg hat))
        go_roundg k1
        case measure => have:=HK1.out;omega
        case rel => exact ⟨(y204),(ji11),((rd_T35 l2 x10_1).f0),(wrap64 (x10_1 + 1)),(by first|rfl|(simp;done)|(simp only [← hji11] <;> (first|rfl|simp))|(simp [*];done)),qf_,qf_,H',⟨by have:=HK1.out;omega⟩,⟨qr_ HO206⟩,⟨u3_ HB⟩⟩
       ·rw [if_neg c15] at H
        exact absurd H (by simp)
     ·rw [if_neg c10] at H
      exact absurd H (by simp)
    ·rw [if_neg c9] at H
     have c9b0 : decide (x10_1 < (l2.length : Int)) = false:=decide_eq_false c9
     clear c9
     obtain rfl:=Option.some.inj H
     go_wp2
     go_ret
     exact ⟨_,qe_,qr_ HO_7,u3_ HB⟩
 ·replace c5:=Bool.eq_false_iff.mpr c5
  subst c5
  have H1 : (some y193) = some r:=by rw [if_neg (show ¬ (false = true) by decide)] at H;exact H
  clear H
  have H:=H1
  clear H1
  obtain rfl:=Option.some.inj H
  go_enter Try.func21,Try.ntmps21
  go_wp2_with (first|((with_reducible refine gate_dst (N:=12) rfl ?_);refine Kd.R_lit Kd.bool _ 4 ?hg (N:=12) ?hd (xs:=([] : List Bool)) (inner:=[]) (ok:=fun _ => True) (okp:=fun _ => True) ?hr ?hp (fun _ hk => hk) trivial (Below.refl _ _) (Nat.le_refl _) (by simp) ?_;(case hd => rfl);(case hg => rfl);(case hr => first|(go_simp;done)|(go_simp;rfl));(case hp => exact (Reps.none _ _));intro v194 w17 ho18 hb hg_ hnew_;clear hg_ hnew_;(first|rw [← Ny193.out] at ho18|(simp only [Int.reduceToNat] at ho18;rw [← Ny193.out] at ho18));have n0_:=mk_ (Kd.R_lower ho18 (bz_ (qb_ HB)));have n1_:=mk_ (st_ (qb_ HB) hb);clear HB;have HO195:=n0_;have HB:=n1_;clear n0_ n1_ hb ho18)|((with_reducible refine gate_callee (f:=40) rfl ?_);refine goesL_ (some 16) rfl rfl Try.func40 (by kernel_rfl) rfl #[.int .i64 a0,.int .i64 a1,.slice A2 l2.length c2] rfl qm_ ?_;(with_reducible refine (spec_l14Fits.calls k a0 a1 _ _ l2 false _ ?side1 ?side2 A4.out).mono ?_);(case side1 => exact qn_ HR2 HB);(case side2 => exact HC2.out);rintro e w19 ⟨rfl,hb⟩;refine ⟨_,rfl,?_⟩;have n0_:=mk_ (rb_ (qr_ HO195) hb);have n1_:=mk_ (st_ (qb_ HB) hb);clear HO195 HB;have HO195:=n0_;have HB:=n1_;clear n0_ n1_;(try clear hb);(try clear hb2);(try clear hk);(try clear hi)))
  go_ret
  exact ⟨_,qe_,qr_ HO195,u3_ HB⟩

/-! ### slices_Index_bool_bool: function 54 -/
def slices_Index_bool_bool.l0 : Nat → List Bool → Bool → Int → Int → Option (Int)
 | 0,_,_,_,_ => none
 | k + 1,x0,x1,x7,x8 => if x8 < x7 then (if 0 ≤ x8 then (if x8 < (x0.length : Int) then (if (x1 == (rdOf false x0 x8)) = true then (some x8) else (slices_Index_bool_bool.l0 k x0 x1 x7 (wrap64 (x8 + 1)))) else (none)) else (none)) else (some (-1))
def slices_Index_bool_bool.f (k : Nat) (l0 : List Bool) (a1 : Bool) : Option (Int):=slices_Index_bool_bool.l0 k l0 a1 (l0.length : Int) 0
theorem slices_Index_bool_bool.mono_l : ∀ k,(∀ y0 y1 y2 y3,LeO (slices_Index_bool_bool.l0 k y0 y1 y2 y3) (slices_Index_bool_bool.l0 (k + 1) y0 y1 y2 y3))
 | 0 => fun _ _ _ _ r h => by simp [slices_Index_bool_bool.l0] at h
 | k + 1 => by
  have ih0:=slices_Index_bool_bool.mono_l k
  ·intro y0 y1 y2 y3
   unfold slices_Index_bool_bool.l0
   repeat' first
   | (with_reducible exact ih0 _ _ _ _)
   | (with_reducible exact LeO.refl _)
   | (with_reducible exact LeO.none _)
   | (with_reducible refine LeO.ite ?_ ?_)
   | (with_reducible refine LeO.bind ?_ (fun _ => ?_))
   | exact ih0 _ _ _ _
   | exact LeO.none _
   | refine LeO.ite ?_ ?_
   | refine LeO.bind ?_ (fun _ => ?_)
theorem slices_Index_bool_bool.mono : ∀ a0 a1 k,LeO (slices_Index_bool_bool.f k a0 a1) (slices_Index_bool_bool.f (k + 1) a0 a1):=by
 intro a0 a1 k
 have ih0:=slices_Index_bool_bool.mono_l k
 unfold slices_Index_bool_bool.f
 repeat' first
   | (with_reducible exact ih0 _ _ _ _)
   | (with_reducible exact LeO.refl _)
   | (with_reducible exact LeO.none _)
   | (with_reducible refine LeO.ite ?_ ?_)
   | (with_reducible refine LeO.bind ?_ (fun _ => ?_))
   | exact ih0 _ _ _ _
   | exact LeO.none _
   | refine LeO.ite ?_ ?_
   | refine LeO.bind ?_ (fun _ => ?_)
set_option maxHeartbeats 8000000 in
set_option maxRecDepth 100000 in
theorem slices_Index_bool_bool.calls (k : Nat) (A0 : Option Addr) (c0 : Nat) (l0 : List Bool) (a1 : Bool) (r : Int) (w : World) (hr0 : Kd.C Kd.bool w A0 l0.length l0) (hc0 : l0.length ≤ c0) (h : slices_Index_bool_bool.f k l0 a1 = some r) :
  Calls Try.prog 54 #[.slice A0 l0.length c0,.bool a1] w fun e w' => e = .returned (.int .i64 r) ∧ Drawn0 w w':=by
 have HR0:=mk_ hr0
 have HC0:=mk_ hc0
 clear hr0 hc0
 have H : (slices_Index_bool_bool.l0 k l0 a1 (l0.length : Int) 0) = some r:=h
 clear h
 have H':=mk_ H
 clear H
 go_enter Try.func54,Try.ntmps54
 go_wp2
 go_loopg [8] k (fun kq v8 w' => ∃ (x8_1 : Int),v8 = .int .i64 x8_1 ∧ Aside0 (slices_Index_bool_bool.l0 kq l0 a1 (l0.length : Int) x8_1 = some r) ∧ Aside0 (kq ≤ k) ∧ Drawn0 w w')
 case atStart => exact ⟨(0),qf_,H',⟨Nat.le_refl _⟩,by repeat (first|exact Drawn0.refl _|apply Drawn0.step)⟩
 case round =>
  clear H'
  try clear p2
  obtain ⟨x8_1,rfl,HA,HK1,⟨m1,rfl⟩⟩:=hrel
  cases gk with
  | zero => exact absurd HA.out (by simp [slices_Index_bool_bool.l0])
  | succ k1 =>
   have H:=HA.out
   clear HA
   simp only [slices_Index_bool_bool.l0] at H
   by_cases c3 : x8_1 < (l0.length : Int)
   ·rw [if_pos c3] at H
    have c3b0 : decide (x8_1 < (l0.length : Int)) = true:=decide_eq_true c3
    clear c3
    by_cases c4 : 0 ≤ x8_1
    ·rw [if_pos c4] at H
     have c4b0 : decide (0 ≤ x8_1) = true:=decide_eq_true c4
     clear c4
     by_cases c5 : x8_1 < (l0.length : Int)
     ·rw [if_pos c5] at H
      have c5b0 : decide (x8_1 < (l0.length : Int)) = true:=decide_eq_true c5
      clear c5
      by_cases c6 : (a1 == (rdOf false l0 x8_1)) = true
      ·rw [if_pos c6] at H
       have c6b0 : (a1 == (rdOf false l0 x8_1)) = true:=c6
       (try (have c6b1 : decide (a1 = (rdOf false l0 x8_1)) = true:=by simpa using c6))
       (try (have c6b2 : (a1 == (rdOf false l0 x8_1)) = true:=by simpa using c6))
       clear c6
       obtain rfl:=Option.some.inj H
       have p207 : 0 ≤ (x8_1 : Int):=od_ qa_
       have q207 : x8_1 < (l0.length : Int):=od_ qa_
       obtain ⟨ad207,e207,hx207_0⟩:=Kd.at_bool HR0.out x8_1 p207 q207
       cases e207
       replace p207:=eq_true p207
       replace q207:=eq_true q207
       go_wp2
       go_ret
       exact ⟨by first|rfl|(simp;done)|(simp [*];done),by repeat (first|exact Drawn0.refl _|apply Drawn0.step)⟩
      ·rw [if_neg c6] at H
       have c6b0 : (a1 == (rdOf false l0 x8_1)) = false:=by simpa using c6
       (try (have c6b1 : decide (a1 = (rdOf false l0 x8_1)) = false:=by simpa using c6))
       (try (have c6b2 : (a1 == (rdOf false l0 x8_1)) = false:=by simpa using c6))
       (try (have c6b3 : ¬ (a1 = (rdOf false l0 x8_1)):=by simpa using c6))
       clear c6
       have H':=mk_ H
       clear H
       have p207 : 0 ≤ (x8_1 : Int):=od_ qa_
       have q207 : x8_1 < (l0.length : Int):=od_ qa_
       obtain ⟨ad207,e207,hx207_0⟩:=Kd.at_bool HR0.out x8_1 p207 q207
       cases e207
       replace p207:=eq_true p207
       replace q207:=eq_true q207
       go_wp2
       go_roundg k1
       case measure => have:=HK1.out;omega
       case rel => exact ⟨(wrap64 (x8_1 + 1)),qf_,H',⟨by have:=HK1.out;omega⟩,by repeat (first|exact Drawn0.refl _|apply Drawn0.step)⟩
     ·rw [if_neg c5] at H
      exact absurd H (by simp)
    ·rw [if_neg c4] at H
     exact absurd H (by simp)
   ·rw [if_neg c3] at H
    have c3b0 : decide (x8_1 < (l0.length : Int)) = false:=decide_eq_false c3
    clear c3
    obtain rfl:=Option.some.inj H
    go_wp2
    go_ret
    exact ⟨by first|rfl|(simp;done)|(simp [*];done),by repeat (first|exact Drawn0.refl _|apply Drawn0.step)⟩

/-! ### slices_Contains_bool_bool: function 51 -/
def slices_Contains_bool_bool.f (k : Nat) (l0 : List Bool) (a1 : Bool) : Option (Bool):=(slices_Index_bool_bool.f k l0 a1).bind fun t208 => (some (decide (t208 ≥ 0)))
theorem slices_Contains_bool_bool.mono : ∀ a0 a1 k,LeO (slices_Contains_bool_bool.f k a0 a1) (slices_Contains_bool_bool.f (k + 1) a0 a1):=by
 intro a0 a1 k
 unfold slices_Contains_bool_bool.f
 repeat' first
   | (with_reducible exact slices_Index_bool_bool.mono _ _ _)
   | (with_reducible exact LeO.refl _)
   | (with_reducible exact LeO.none _)
   | (with_reducible refine LeO.ite ?_ ?_)
   | (with_reducible refine LeO.bind ?_ (fun _ => ?_))
   | exact slices_Index_bool_bool.mono _ _ _
   | exact LeO.none _
   | refine LeO.ite ?_ ?_
   | refine LeO.bind ?_ (fun _ => ?_)
set_option maxHeartbeats 8000000 in
set_option maxRecDepth 100000 in
theorem slices_Contains_bool_bool.calls (k : Nat) (A0 : Option Addr) (c0 : Nat) (l0 : List Bool) (a1 : Bool) (r : Bool) (w : World) (hr0 : Kd.C Kd.bool w A0 l0.length l0) (hc0 : l0.length ≤ c0) (h : slices_Contains_bool_bool.f k l0 a1 = some r) :
  Calls Try.prog 51 #[.slice A0 l0.length c0,.bool a1] w fun e w' => e = .returned (.bool r) ∧ Drawn0 w w':=by
 have HR0:=mk_ hr0
 have HC0:=mk_ hc0
 clear hr0 hc0
 have H : ((slices_Index_bool_bool.f k l0 a1).bind fun t208 => (some (decide (t208 ≥ 0)))) = some r:=h
 clear h
 replace H:=Option.bind_eq_some_iff.mp H
 obtain ⟨t208,A30,H⟩:=H
 replace H : (some (decide (t208 ≥ 0))) = some r:=H
 have A3:=mk_ A30
 clear A30
 obtain rfl:=Option.some.inj H
 go_enter Try.func51,Try.ntmps51
 go_wp2_with (first|((with_reducible refine gate_callee (f:=54) rfl ?_);refine goesL_ (some 7) rfl rfl Try.func54 (by kernel_rfl) rfl #[.slice A0 l0.length c0,.bool a1] rfl qm_ ?_;(with_reducible refine (slices_Index_bool_bool.calls k _ _ l0 a1 t208 _ ?side1 ?side2 A3.out).mono ?_);(case side1 => repeat (first|exact HR0.out|(with_reducible refine ca_ ?_ _)|(with_reducible refine cn_ ?_ _)|(with_reducible refine cd_ ?_)));(case side2 => exact HC0.out);rintro e w' ⟨rfl,⟨nd,rfl⟩⟩;refine ⟨_,rfl,?_⟩))
 go_ret
 exact ⟨by first|rfl|(simp;done)|(simp [*];done),by repeat (first|exact Drawn0.refl _|apply Drawn0.step)⟩

/-! ### impl_Conforms: function 22 (by hand) -/
theorem indexB_at (l : List Bool) (hl : l.length ≤ 9223372036854775807) (d : Nat) : ∀ (k i : Nat),i + d = l.length → d < k → ∃ r,slices_Index_bool_bool.l0 k l false l.length (i : Int) = some r ∧ (decide (r ≥ 0) = !(l.drop i).all id):=by
 induction d with
 | zero =>
  intro k i h2 hk
  obtain ⟨k,rfl⟩ : ∃ m,k = m + 1:=⟨k - 1,by omega⟩
  have e1 : l.drop i = []:=by rw [show i = l.length by omega,List.drop_length]
  refine ⟨-1,?_,?_⟩
  ·simp only [slices_Index_bool_bool.l0]
   rw [if_neg (by omega)]
  ·rw [e1];rfl
 | succ d ih =>
  intro k i h2 hk
  obtain ⟨k,rfl⟩ : ∃ m,k = m + 1:=⟨k - 1,by omega⟩
  have r1 : rdOf false l (i : Int) = l[i]:=by simp [rdOf,List.getD_eq_getElem?_getD,show i < l.length by omega]
  rw [List.drop_eq_getElem_cons (show i < l.length by omega),List.all_cons]
  simp only [slices_Index_bool_bool.l0]
  rw [if_pos (by omega),if_pos (by omega),if_pos (by omega),r1,wrap_succ (show i < l.length by omega) (by omega)]
  cases hc : l[i] with
  | false =>
   rw [if_pos (by decide)]
   exact ⟨(i : Int),rfl,by simp⟩
  | true =>
   rw [if_neg (by decide)]
   obtain ⟨r,hr,h⟩:=ih k (i + 1) (by omega) (by omega)
   exact ⟨r,hr,h⟩
theorem containsB_eq (l : List Bool) (hl : l.length ≤ 9223372036854775807) : slices_Contains_bool_bool.f (l.length + 1) l false = some (!l.all id):=by
 obtain ⟨r,hr,h⟩:=indexB_at l hl l.length (l.length + 1) 0 (by omega) (by omega)
 unfold slices_Contains_bool_bool.f slices_Index_bool_bool.f
 have hr' : slices_Index_bool_bool.l0 (l.length + 1) l false l.length 0 = some r:=hr
 rw [hr']
 simp only [Option.bind_some]
 rw [h,List.drop_zero]
def confF (r b : Int) (l : List S35) : Bool:=fitsB r b l && (polF r b l).all id
def impl_Conforms.f (a0 : Int) (a1 : Int) (l2 : List (S35)) : Option (Bool) :=
 some (confF a0 a1 l2)
set_option maxHeartbeats 4000000 in
set_option maxRecDepth 100000 in
theorem impl_Conforms.calls (a0 : Int) (a1 : Int) (A2 : Option Addr) (c2 : Nat) (l2 : List (S35)) (r : Bool) (w : World) (hr2 : Kd.C k35 w A2 l2.length l2) (hc2 : l2.length ≤ c2) (h : impl_Conforms.f a0 a1 l2 = some r) :
  Calls Try.prog 22 #[.int .i64 a0,.int .i64 a1,.slice A2 l2.length c2] w fun e w' => e = .returned (.bool r) ∧ Below w.heap.size w w':=by
 obtain rfl:=Option.some.inj h
 have hnb:=x_newBucket a0 a1 A2 c2 l2 w hr2 hc2
 have HP:=mk_ (fun (W : World) (hW : Below w.heap.size w W) => impl_PolicePulses.calls a0 a1 A2 c2 l2 _ W (cb_ hr2 hW) hc2 rfl)
 have HF : Aside0 (confF a0 a1 l2 = (fitsB a0 a1 l2 && (polF a0 a1 l2).all id)):=⟨rfl⟩
 clear h hr2 hc2
 generalize confF a0 a1 l2 = z at HF ⊢
 generalize polF a0 a1 l2 = ps at HF HP
 generalize fitsB a0 a1 l2 = f at HF hnb
 cases f with
 | false =>
  have HZ : Aside0 (z = false):=⟨by rw [HF.out];rfl⟩
  go_enter Try.func22,Try.ntmps22
  go_wp2_with fail
  refine hnb.mono ?_
  rintro e w1 ⟨g,rfl,hg1,hge,hb1⟩
  clear hg1
  go_wp2
  go_ret
  exact ⟨by rw [HZ.out];rfl,hb1⟩
 | true =>
  have HZ : Aside0 (z = ps.all id):=⟨by rw [HF.out];rfl⟩
  go_enter Try.func22,Try.ntmps22
  go_wp2_with fail
  refine hnb.mono ?_
  rintro e w1 ⟨g,rfl,hg1,hge,hb1⟩
  have hp:=HP.out w1 hb1
  clear hg1
  go_wp2_with fail
  refine hp.mono ?_
  rintro e w2 ⟨v,rfl,hR,hb2⟩
  obtain ⟨A,c,rfl,hc,hC⟩:=Kd.R_reads hR
  have hct:=slices_Contains_bool_bool.calls (ps.length + 1) A c ps false _ w2 hC hc (containsB_eq ps (Kd.C_max hC))
  generalize ps.all id = y at HZ hct
  have HX:=mk_ (st_ hb1 hb2)
  clear hR hb2 hC hp hnb
  go_wp2_with fail
  refine hct.mono ?_
  rintro e w3 ⟨rfl,hd3⟩
  go_wp2_with fail
  go_ret
  exact ⟨by rw [HZ.out];cases y <;> rfl,st_ HX.out hd3.below⟩

/-! ### laws_FnPolice: function 4 -/
mutual
def laws_FnPolice.l0 : Nat → Int → Int → List (S35) → List Bool → List Bool → List (S35) → List Bool → Int → Int → Option (Bool)
 | 0,_,_,_,_,_,_,_,_,_ => none
 | k + 1,x3,x4,x5,x6,x7,x8,x35,x36,x37 => if x37 < x36 then (if 0 ≤ x37 then (if x37 < (x35.length : Int) then ((some (([] : List (S35)) : List (S35))).bind fun y225 => (if y225.length + x8.length < 8796093022208 then ((some (y225 ++ x8 : List (S35))).bind fun y228 => (if x37 < (x5.length : Int) then ((some (([(⟨(rd_T35 x5 x37).f0,(rd_T35 x5 x37).f1⟩ : S35)] : List (S35)) : List (S35))).bind fun y232 => (if y228.length + y232.length < 8796093022208 then ((some (y228 ++ y232 : List (S35))).bind fun y235 => (if x37 < (x7.length : Int) then (if ((rdOf false x35 x37) != (rdOf false x7 x37)) = true then (laws_FnPolice.j1 k x3 x4 x5 x6 x7 x8 (rdOf false x35 x37) y235 x35 x36 x37 true) else ((impl_Conforms.f x3 x4 y235).bind fun t239 => (laws_FnPolice.j1 k x3 x4 x5 x6 x7 x8 (rdOf false x35 x37) y235 x35 x36 x37 (t239 != (rdOf false x35 x37))))) else (none))) else (none))) else (none))) else (none))) else (none)) else (none)) else (if (x6.length : Int) = 0 then (some true) else ((impl_Conforms.f x3 x4 x8).bind fun t223 => (some t223)))
def laws_FnPolice.j1 : Nat → Int → Int → List (S35) → List Bool → List Bool → List (S35) → Bool → List (S35) → List Bool → Int → Int → Bool → Option (Bool)
 | 0,_,_,_,_,_,_,_,_,_,_,_,_ => none
 | k + 1,x3,x4,x5,x6,x7,x8,x10,x11,x35,x36,x37,x64 => if x64 = true then (some false) else (if x10 = true then (laws_FnPolice.l0 k x3 x4 x5 x6 x7 x11 x35 x36 (wrap64 (x37 + 1))) else (laws_FnPolice.l0 k x3 x4 x5 x6 x7 x8 x35 x36 (wrap64 (x37 + 1))))
end
def laws_FnPolice.f (k : Nat) (l0 : List Int) : Option (Bool):=if (l0.length : Int) > 1048576 then (some true) else ((spec_DrawPolicePulses.f k l0).bind fun bt209 => ((impl_PolicePulses.f bt209.1 bt209.2.1 bt209.2.2).bind fun t214 => ((spec_PolicePulses.f k bt209.1 bt209.2.1 bt209.2.2).bind fun t217 => (if (t214.length : Int) = (t217.length : Int) then (laws_FnPolice.l0 k bt209.1 bt209.2.1 bt209.2.2 t214 t217 (([] : List (S35))) t214 (t214.length : Int) 0) else (some false)))))
theorem laws_FnPolice.mono_l : ∀ k,(∀ y0 y1 y2 y3 y4 y5 y6 y7 y8,LeO (laws_FnPolice.l0 k y0 y1 y2 y3 y4 y5 y6 y7 y8) (laws_FnPolice.l0 (k + 1) y0 y1 y2 y3 y4 y5 y6 y7 y8)) ∧ (∀ y0 y1 y2 y3 y4 y5 y6 y7 y8 y9 y10 y11,LeO (laws_FnPolice.j1 k y0 y1 y2 y3 y4 y5 y6 y7 y8 y9 y10 y11) (laws_FnPolice.j1 (k + 1) y0 y1 y2 y3 y4 y5 y6 y7 y8 y9 y10 y11))
 | 0 => ⟨fun _ _ _ _ _ _ _ _ _ r h => by simp [laws_FnPolice.l0] at h,fun _ _ _ _ _ _ _ _ _ _ _ _ r h => by simp [laws_FnPolice.j1] at h⟩
 | k + 1 => by
  obtain ⟨ih0,ih1⟩:=laws_FnPolice.mono_l k
  refine ⟨?_,?_⟩
  ·intro y0 y1 y2 y3 y4 y5 y6 y7 y8
   unfold laws_FnPolice.l0
   repeat' first
   | (with_reducible exact ih0 _ _ _ _ _ _ _ _ _)
   | (with_reducible exact ih1 _ _ _ _ _ _ _ _ _ _ _ _)
   | (with_reducible exact spec_DrawPolicePulses.mono _ _)
   | (with_reducible exact spec_PolicePulses.mono _ _ _ _)
   | (with_reducible exact LeO.refl _)
   | (with_reducible exact LeO.none _)
   | (with_reducible refine LeO.ite ?_ ?_)
   | (with_reducible refine LeO.bind ?_ (fun _ => ?_))
   | exact ih0 _ _ _ _ _ _ _ _ _
   | exact ih1 _ _ _ _ _ _ _ _ _ _ _ _
   | exact spec_DrawPolicePulses.mono _ _
   | exact spec_PolicePulses.mono _ _ _ _
   | exact LeO.none _
   | refine LeO.ite ?_ ?_
   | refine LeO.bind ?_ (fun _ => ?_)
  ·intro y0 y1 y2 y3 y4 y5 y6 y7 y8 y9 y10 y11
   unfold laws_FnPolice.j1
   repeat' first
   | (with_reducible exact ih0 _ _ _ _ _ _ _ _ _)
   | (with_reducible exact ih1 _ _ _ _ _ _ _ _ _ _ _ _)
   | (with_reducible exact spec_DrawPolicePulses.mono _ _)
   | (with_reducible exact spec_PolicePulses.mono _ _ _ _)
   | (with_reducible exact LeO.refl _)
   | (with_reducible exact LeO.none _)
   | (with_reducible refine LeO.ite ?_ ?_)
   | (with_reducible refine LeO.bind ?_ (fun _ => ?_))
   | exact ih0 _ _ _ _ _ _ _ _ _
   | exact ih1 _ _ _ _ _ _ _ _ _ _ _ _
   | exact spec_DrawPolicePulses.mono _ _
   | exact spec_PolicePulses.mono _ _ _ _
   | exact LeO.none _
   | refine LeO.ite ?_ ?_
   | refine LeO.bind ?_ (fun _ => ?_)
theorem laws_FnPolice.mono : ∀ a0 k,LeO (laws_FnPolice.f k a0) (laws_FnPolice.f (k + 1) a0):=by
 intro a0 k
 obtain ⟨ih0,ih1⟩:=laws_FnPolice.mono_l k
 unfold laws_FnPolice.f
 repeat' first
   | (with_reducible exact ih0 _ _ _ _ _ _ _ _ _)
   | (with_reducible exact ih1 _ _ _ _ _ _ _ _ _ _ _ _)
   | (with_reducible exact spec_DrawPolicePulses.mono _ _)
   | (with_reducible exact spec_PolicePulses.mono _ _ _ _)
   | (with_reducible exact LeO.refl _)
   | (with_reducible exact LeO.none _)
   | (with_reducible refine LeO.ite ?_ ?_)
   | (with_reducible refine LeO.bind ?_ (fun _ => ?_))
   | exact ih0 _ _ _ _ _ _ _ _ _
   | exact ih1 _ _ _ _ _ _ _ _ _ _ _ _
   | exact spec_DrawPolicePulses.mono _ _
   | exact spec_PolicePulses.mono _ _ _ _
   | exact LeO.none _
   | refine LeO.ite ?_ ?_
   | refine LeO.bind ?_ (fun _ => ?_)
def laws_FnPolice.T12 : Bool × List (List Nat × List Nat):=(true,[([],[]),([],[]),([0,1],[0,1]),([],[]),([],[]),([3,4],[3,4]),([5],[5]),([6],[6]),([2,7,2],[2,7]),([8,8,0,1,2,3,4,5,6,7,8],[8])])
def laws_FnPolice.B12 : List Nat:=[0,0,3,0,0,24,56,120,255,511]
theorem laws_FnPolice.tab12 : rtab .any (opsOf Try.f4 12) = laws_FnPolice.T12:=by kernel_rfl
theorem laws_FnPolice.bits12 : waitsOk laws_FnPolice.T12.2 laws_FnPolice.B12 = true:=by kernel_rfl
set_option maxHeartbeats 8000000 in
set_option maxRecDepth 100000 in
theorem laws_FnPolice.calls (k : Nat) (A0 : Option Addr) (c0 : Nat) (l0 : List Int) (r : Bool) (w : World) (hr0 : Kd.C (Kd.int .u8) w A0 l0.length l0) (hc0 : l0.length ≤ c0) (h : laws_FnPolice.f k l0 = some r) :
  Calls Try.prog 4 #[.slice A0 l0.length c0] w fun e w' => e = .returned (.bool r) ∧ Below w.heap.size w w':=by
 have hu35:=Try.underlying35
 have HR0:=mk_ hr0
 have HC0:=mk_ hc0
 clear hr0 hc0
 have HB:=mk_ (Below.refl w.heap.size w)
 have H : (if (l0.length : Int) > 1048576 then (some true) else ((spec_DrawPolicePulses.f k l0).bind fun bt209 => ((impl_PolicePulses.f bt209.1 bt209.2.1 bt209.2.2).bind fun t214 => ((spec_PolicePulses.f k bt209.1 bt209.2.1 bt209.2.2).bind fun t217 => (if (t214.length : Int) = (t217.length : Int) then (laws_FnPolice.l0 k bt209.1 bt209.2.1 bt209.2.2 t214 t217 (([] : List (S35))) t214 (t214.length : Int) 0) else (some false)))))) = some r:=h
 clear h
 by_cases c2 : (l0.length : Int) > 1048576
 ·rw [if_pos c2] at H
  have c2b0 : decide (1048576 < (l0.length : Int)) = true:=decide_eq_true c2
  have c2b1 : decide (1048576 < l0.length) = true:=decide_eq_true (by omega)
  clear c2
  obtain rfl:=Option.some.inj H
  go_enter Try.func4,Try.ntmps4
  go_wp2
  go_ret
  exact ⟨qe_,u3_ HB⟩
 ·rw [if_neg c2] at H
  have c2b0 : decide (1048576 < (l0.length : Int)) = false:=decide_eq_false c2
  have c2b1 : decide (1048576 < l0.length) = false:=decide_eq_false (by omega)
  clear c2
  replace H:=Option.bind_eq_some_iff.mp H
  obtain ⟨⟨t209,t210,t211⟩,A30,H⟩:=H
  replace H : ((impl_PolicePulses.f t209 t210 t211).bind fun t214 => ((spec_PolicePulses.f k t209 t210 t211).bind fun t217 => (if (t214.length : Int) = (t217.length : Int) then (laws_FnPolice.l0 k t209 t210 t211 t214 t217 (([] : List (S35))) t214 (t214.length : Int) 0) else (some false)))) = some r:=H
  have A3:=mk_ A30
  clear A30
  replace H:=Option.bind_eq_some_iff.mp H
  obtain ⟨t214,A40,H⟩:=H
  replace H : ((spec_PolicePulses.f k t209 t210 t211).bind fun t217 => (if (t214.length : Int) = (t217.length : Int) then (laws_FnPolice.l0 k t209 t210 t211 t214 t217 (([] : List (S35))) t214 (t214.length : Int) 0) else (some false))) = some r:=H
  have A4:=mk_ A40
  clear A40
  replace H:=Option.bind_eq_some_iff.mp H
  obtain ⟨t217,A50,H⟩:=H
  replace H : (if (t214.length : Int) = (t217.length : Int) then (laws_FnPolice.l0 k t209 t210 t211 t214 t217 (([] : List (S35))) t214 (t214.length : Int) 0) else (some false)) = some r:=H
  have A5:=mk_ A50
  clear A50
  by_cases c6 : (t214.length : Int) = (t217.length : Int)
  ·rw [if_pos c6] at H
   have c6b0 : ((t214.length : Int) == (t217.length : Int)) = true:=beq_iff_eq.mpr c6
   have c6b1 : ((t214.length : Int) != (t217.length : Int)) = false:=bne_eq_false_iff_eq.mpr c6
   have c6b2 : (t214.length == t217.length) = true:=by first|simpa using c6|(simp at c6 ⊢;omega)
   clear c6
   obtain ⟨y220,hy220⟩ : ∃ y_ : List (S35),y_ = (([] : List (S35))):=⟨_,rfl⟩
   replace H : (laws_FnPolice.l0 k t209 t210 t211 t214 t217 y220 t214 (t214.length : Int) 0) = some r:=by first|(rw [hy220];with_reducible exact H)|(have H2_:=(Option.bind_some _ _).symm.trans H;rw [hy220];with_reducible exact H2_)|(have H2_:=(Option.bind_some _ _).symm.trans H;with_reducible exact H2_)|with_reducible exact H|(rw [hy220];exact H)|exact H
   have Ny220:=mk_ hy220
   clear hy220
   have H':=mk_ H
   clear H
   go_enter Try.func4,Try.ntmps4
   go_wp2_with (first|((with_reducible refine gate_callee (f:=19) rfl ?_);refine goesL_ (some 17) rfl rfl Try.func19 (by kernel_rfl) rfl #[.slice A0 l0.length c0] rfl qm_ ?_;(with_reducible refine (spec_DrawPolicePulses.calls k _ _ l0 t209 t210 t211 _ ?side1 ?side2 A3.out).mono ?_);(case side1 => repeat (first|exact HR0.out|(with_reducible refine ca_ ?_ _)|(with_reducible refine cn_ ?_ _)|(with_reducible refine cd_ ?_)));(case side2 => exact HC0.out);rintro e w7 ⟨v212,rfl,ho0,hb⟩;refine ⟨_,rfl,?_⟩;have n0_:=mk_ (Kd.R_lower ho0 (bz_ (qb_ HB)));have n1_:=mk_ (st_ (qb_ HB) hb);clear HB;have HO213:=n0_;have HB:=n1_;clear n0_ n1_;(try clear hb);(try clear hb2);(try clear hk);(try clear hi);(try clear ho0);obtain ⟨Ao8,co8,eo8⟩:=Kd.R_slice HO213.out;subst eo8)|((with_reducible refine gate_callee (f:=20) rfl ?_);refine goesL_ (some 24) rfl rfl Try.func20 (by kernel_rfl) rfl #[.int .i64 t209,.int .i64 t210,.slice Ao8 t211.length co8] rfl qm_ ?_;(with_reducible refine (impl_PolicePulses.calls t209 t210 _ _ t211 t214 _ ?side1 ?side2 A4.out).mono ?_);(case side1 => repeat (first|exact (rr_ HO213.out).2.2|(with_reducible refine ca_ ?_ _)|(with_reducible refine cn_ ?_ _)|(with_reducible refine cd_ ?_)));(case side2 => exact (rr_ HO213.out).2.1);rintro e w9 ⟨v215,rfl,ho0,hb⟩;refine ⟨_,rfl,?_⟩;have n0_:=mk_ (rb_ (qr_ HO213) hb);have n1_:=mk_ (Kd.R_lower ho0 (bz_ (qb_ HB)));have n2_:=mk_ (st_ (qb_ HB) hb);clear HO213 HB;have HO213:=n0_;have HO216:=n1_;have HB:=n2_;clear n0_ n1_ n2_;(try clear hb);(try clear hb2);(try clear hk);(try clear hi);(try clear ho0))|((with_reducible refine gate_callee (f:=21) rfl ?_);refine goesL_ (some 28) rfl rfl Try.func21 (by kernel_rfl) rfl #[.int .i64 t209,.int .i64 t210,.slice Ao8 t211.length co8] rfl qm_ ?_;(with_reducible refine (spec_PolicePulses.calls k t209 t210 _ _ t211 t217 _ ?side1 ?side2 A5.out).mono ?_);(case side1 => repeat (first|exact (rr_ HO213.out).2.2|(with_reducible refine ca_ ?_ _)|(with_reducible refine cn_ ?_ _)|(with_reducible refine cd_ ?_)));(case side2 => exact (rr_ HO213.out).2.1);rintro e w10 ⟨v218,rfl,ho0,hb⟩;refine ⟨_,rfl,?_⟩;have n0_:=mk_ (rb_ (qr_ HO213) hb);have n1_:=mk_ (re_ (qr_ HO216) (Kd.R_base ho0) hb);have n2_:=mk_ (Kd.R_lower (Kd.R_new' ho0 (Kd.R_lt (qr_ HO216))) (bz_ (qb_ HB)));have n3_:=mk_ (st_ (qb_ HB) hb);clear HO213 HO216 HB;have HO213:=n0_;have HO216:=n1_;have HO219:=n2_;have HB:=n3_;clear n0_ n1_ n2_ n3_;(try clear hb);(try clear hb2);(try clear hk);(try clear hi);(try clear ho0);obtain ⟨Ao11,co11,eo11⟩:=Kd.R_slice HO216.out;subst eo11;obtain ⟨Ao12,co12,eo12⟩:=Kd.R_slice HO219.out;subst eo12)|((with_reducible refine gate_dst (N:=34) rfl ?_);refine Kd.R_lit k35 _ 35 ?hg (N:=34) ?hd (xs:=([] : List (S35))) (inner:=[]) (ok:=fun _ => True) (okp:=fun _ => True) ?hr ?hp (fun _ hk => hk) trivial (Below.refl _ _) (Nat.le_refl _) (by simp) ?_;(case hd => rfl);(case hg => rfl);(case hr => first|(go_simp;done)|(go_simp;rfl));(case hp => exact (Reps.none _ _));intro v221 w13 ho14 hb hg_ hnew_;clear hg_ hnew_;(first|rw [← Ny220.out] at ho14|(simp only [Int.reduceToNat] at ho14;rw [← Ny220.out] at ho14));have n0_:=mk_ (re_ (qr_ HO213) (Kd.R_base ho14) hb);have n1_:=mk_ (rb_ (qr_ HO216) hb);have n2_:=mk_ (rb_ (qr_ HO219) hb);have n3_:=mk_ (Kd.R_lower (Kd.R_new' ho14 (Kd.R_lt (qr_ HO213))) (bz_ (qb_ HB)));have n4_:=mk_ (st_ (qb_ HB) hb);clear HO213 HO216 HO219 HB;have HO213:=n0_;have HO216:=n1_;have HO219:=n2_;have HO222:=n3_;have HB:=n4_;clear n0_ n1_ n2_ n3_ n4_ hb ho14))
   go_loopg [8,37] k (fun kq v8 v37 w' => ∃ (x8_1 : List (S35)) (x37_1 : Int),v37 = .int .i64 x37_1 ∧ Aside0 (laws_FnPolice.l0 kq t209 t210 t211 t214 t217 x8_1 t214 (t214.length : Int) x37_1 = some r) ∧ Aside0 (kq ≤ k) ∧ Aside0 (Kd.R k35 35 w' w.heap.size (fun k_ => some k_ ≠ (v8 : Value).ownBlock) (.slice Ao8 t211.length co8) t211) ∧ Aside0 (Kd.R Kd.bool 4 w' w.heap.size (fun k_ => some k_ ≠ ((.slice Ao12 t217.length co12) : Value).ownBlock) (.slice Ao11 t214.length co11) t214) ∧ Aside0 (Kd.R Kd.bool 4 w' w.heap.size (fun k_ => some k_ ≠ ((.slice Ao11 t214.length co11) : Value).ownBlock ∧ some k_ ≠ ((.slice Ao11 t214.length co11) : Value).ownBlock) (.slice Ao12 t217.length co12) t217) ∧ Aside0 (Kd.R k35 35 w' w.heap.size (fun k_ => some k_ ≠ ((.slice Ao8 t211.length co8) : Value).ownBlock) v8 x8_1) ∧ Aside0 (Kd.R Kd.bool 4 w' w.heap.size (fun k_ => some k_ ≠ ((.slice Ao12 t217.length co12) : Value).ownBlock) (.slice Ao11 t214.length co11) t214) ∧ Aside0 (Below w.heap.size w w'))
   case atStart => exact ⟨(y220),(0),qf_,H',⟨Nat.le_refl _⟩,⟨by (with_reducible repeat (first|apply ra_|apply rn_|apply rd_));exact rm_ HO213.out (λ_ h=>h.2)⟩,⟨by (with_reducible repeat (first|apply ra_|apply rn_|apply rd_));exact rm_ HO216.out (λ_ h=>h.2)⟩,⟨by (with_reducible repeat (first|apply ra_|apply rn_|apply rd_));exact rm_ HO219.out (fun _ hk => ⟨hk.2,hk.2⟩)⟩,⟨by (with_reducible repeat (first|apply ra_|apply rn_|apply rd_));exact rm_ HO222.out (λ_ h=>h.2)⟩,⟨by (with_reducible repeat (first|apply ra_|apply rn_|apply rd_));exact rm_ HO216.out (λ_ h=>h.2)⟩,⟨u3_ HB⟩⟩
   case round =>
    clear H'
    try clear c1
    try clear c2
    try clear c2b0
    try clear c2b1
    try clear p2
    try clear c4
    try clear c6
    try clear c6b0
    try clear c6b1
    try clear c6b2
    obtain ⟨x8_1,x37_1,rfl,HA,HK1,HO_5,HO_6,HO_7,HO_8,HO_35,HB⟩:=hrel
    cases gk with
    | zero => exact absurd HA.out (by simp [laws_FnPolice.l0])
    | succ k1 =>
     have H:=HA.out
     clear HA
     simp only [laws_FnPolice.l0] at H
     by_cases c15 : x37_1 < (t214.length : Int)
     ·rw [if_pos c15] at H
      have c15b0 : decide (x37_1 < (t214.length : Int)) = true:=decide_eq_true c15
      clear c15
      by_cases c16 : 0 ≤ x37_1
      ·rw [if_pos c16] at H
       have c16b0 : decide (0 ≤ x37_1) = true:=decide_eq_true c16
       clear c16
       by_cases c17 : x37_1 < (t214.length : Int)
       ·rw [if_pos c17] at H
        have c17b0 : decide (x37_1 < (t214.length : Int)) = true:=decide_eq_true c17
        clear c17
        obtain ⟨y225,hy225⟩ : ∃ y_ : List (S35),y_ = (([] : List (S35))):=⟨_,rfl⟩
        replace H : (if y225.length + x8_1.length < 8796093022208 then ((some (y225 ++ x8_1 : List (S35))).bind fun y228 => (if x37_1 < (t211.length : Int) then ((some (([(⟨(rd_T35 t211 x37_1).f0,(rd_T35 t211 x37_1).f1⟩ : S35)] : List (S35)) : List (S35))).bind fun y232 => (if y228.length + y232.length < 8796093022208 then ((some (y228 ++ y232 : List (S35))).bind fun y235 => (if x37_1 < (t217.length : Int) then (if ((rdOf false t214 x37_1) != (rdOf false t217 x37_1)) = true then (laws_FnPolice.j1 k1 t209 t210 t211 t214 t217 x8_1 (rdOf false t214 x37_1) y235 t214 (t214.length : Int) x37_1 true) else ((impl_Conforms.f t209 t210 y235).bind fun t239 => (laws_FnPolice.j1 k1 t209 t210 t211 t214 t217 x8_1 (rdOf false t214 x37_1) y235 t214 (t214.length : Int) x37_1 (t239 != (rdOf false t214 x37_1))))) else (none))) else (none))) else (none))) else (none)) = some r:=by first|(rw [hy225];with_reducible exact H)|(have H2_:=(Option.bind_some _ _).symm.trans H;rw [hy225];with_reducible exact H2_)|(have H2_:=(Option.bind_some _ _).symm.trans H;with_reducible exact H2_)|with_reducible exact H|(rw [hy225];exact H)|exact H
        have Ny225:=mk_ hy225
        clear hy225
        by_cases c18 : y225.length + x8_1.length < 8796093022208
        ·rw [if_pos c18] at H
         have LMc18:=mk_ c18
         clear c18
         obtain ⟨y228,hy228⟩ : ∃ y_ : List (S35),y_ = (y225 ++ x8_1):=⟨_,rfl⟩
         replace H : (if x37_1 < (t211.length : Int) then ((some (([(⟨(rd_T35 t211 x37_1).f0,(rd_T35 t211 x37_1).f1⟩ : S35)] : List (S35)) : List (S35))).bind fun y232 => (if y228.length + y232.length < 8796093022208 then ((some (y228 ++ y232 : List (S35))).bind fun y235 => (if x37_1 < (t217.length : Int) then (if ((rdOf false t214 x37_1) != (rdOf false t217 x37_1)) = true then (laws_FnPolice.j1 k1 t209 t210 t211 t214 t217 x8_1 (rdOf false t214 x37_1) y235 t214 (t214.length : Int) x37_1 true) else ((impl_Conforms.f t209 t210 y235).bind fun t239 => (laws_FnPolice.j1 k1 t209 t210 t211 t214 t217 x8_1 (rdOf false t214 x37_1) y235 t214 (t214.length : Int) x37_1 (t239 != (rdOf false t214 x37_1))))) else (none))) else (none))) else (none)) = some r:=by first|(rw [hy228];with_reducible exact H)|(have H2_:=(Option.bind_some _ _).symm.trans H;rw [hy228];with_reducible exact H2_)|(have H2_:=(Option.bind_some _ _).symm.trans H;with_reducible exact H2_)|with_reducible exact H|(rw [hy228];exact H)|exact H
         have Ny228:=mk_ hy228
         clear hy228
         by_cases c19 : x37_1 < (t211.length : Int)
         ·rw [if_pos c19] at H
          have c19b0 : decide (x37_1 < (t211.length : Int)) = true:=decide_eq_true c19
          clear c19
          obtain ⟨y232,hy232⟩ : ∃ y_ : List (S35),y_ = (([(⟨(rd_T35 t211 x37_1).f0,(rd_T35 t211 x37_1).f1⟩ : S35)] : List (S35))):=⟨_,rfl⟩
          replace H : (if y228.length + y232.length < 8796093022208 then ((some (y228 ++ y232 : List (S35))).bind fun y235 => (if x37_1 < (t217.length : Int) then (if ((rdOf false t214 x37_1) != (rdOf false t217 x37_1)) = true then (laws_FnPolice.j1 k1 t209 t210 t211 t214 t217 x8_1 (rdOf false t214 x37_1) y235 t214 (t214.length : Int) x37_1 true) else ((impl_Conforms.f t209 t210 y235).bind fun t239 => (laws_FnPolice.j1 k1 t209 t210 t211 t214 t217 x8_1 (rdOf false t214 x37_1) y235 t214 (t214.length : Int) x37_1 (t239 != (rdOf false t214 x37_1))))) else (none))) else (none)) = some r:=by first|(rw [hy232];with_reducible exact H)|(have H2_:=(Option.bind_some _ _).symm.trans H;rw [hy232];with_reducible exact H2_)|(have H2_:=(Option.bind_some _ _).symm.trans H;with_reducible exact H2_)|with_reducible exact H|(rw [hy232];exact H)|exact H
          have Ny232:=mk_ hy232
          clear hy232
          by_cases c20 : y228.length + y232.length < 8796093022208
          ·rw [if_pos c20] at H
           have LMc20:=mk_ c20
           clear c20
           obtain ⟨y235,hy235⟩ : ∃ y_ : List (S35),y_ = (y228 ++ y232):=⟨_,rfl⟩
           replace H : (if x37_1 < (t217.length : Int) then (if ((rdOf false t214 x37_1) != (rdOf false t217 x37_1)) = true then (laws_FnPolice.j1 k1 t209 t210 t211 t214 t217 x8_1 (rdOf false t214 x37_1) y235 t214 (t214.length : Int) x37_1 true) else ((impl_Conforms.f t209 t210 y235).bind fun t239 => (laws_FnPolice.j1 k1 t209 t210 t211 t214 t217 x8_1 (rdOf false t214 x37_1) y235 t214 (t214.length : Int) x37_1 (t239 != (rdOf false t214 x37_1))))) else (none)) = some r:=by first|(rw [hy235];with_reducible exact H)|(have H2_:=(Option.bind_some _ _).symm.trans H;rw [hy235];with_reducible exact H2_)|(have H2_:=(Option.bind_some _ _).symm.trans H;with_reducible exact H2_)|with_reducible exact H|(rw [hy235];exact H)|exact H
           have Ny235:=mk_ hy235
           clear hy235
           have HC21:=mk_ H
           clear H
           have p224 : 0 ≤ (x37_1 : Int):=od_ qa_
           have q224 : x37_1 < (t214.length : Int):=od_ qa_
           obtain ⟨ad224,e224,hx224_0⟩:=Kd.at_bool (rr_ HO_35.out).2.2 x37_1 p224 q224
           cases e224
           replace p224:=eq_true p224
           replace q224:=eq_true q224
           obtain ⟨Ao22,co22,eo22⟩:=Kd.R_slice HO_8.out
           subst eo22
           try go_wp2
           have n0_:=mk_ (rd_ HO_5.out)
           have n1_:=mk_ (rd_ HO_6.out)
           have n2_:=mk_ (rd_ HO_7.out)
           have n3_:=mk_ (rd_ HO_8.out)
           have n4_:=mk_ (rd_ HO_35.out)
           have n5_:=mk_ (bd_ HB.out)
           clear HO_5
           clear HO_6
           clear HO_7
           clear HO_8
           clear HO_35
           clear HB
           have HO_5:=n0_
           have HO_6:=n1_
           have HO_7:=n2_
           have HO_8:=n3_
           have HO_35:=n4_
           have HB:=n5_
           clear n0_ n1_ n2_ n3_ n4_ n5_
           have p231 : 0 ≤ (x37_1 : Int):=od_ qa_
           have q231 : x37_1 < (t211.length : Int):=od_ qa_
           obtain ⟨ad231,e231,hx231_0,hx231_1⟩:=at_T35 (rr_ HO_5.out).2.2 x37_1 p231 q231
           cases e231
           replace p231:=eq_true p231
           replace q231:=eq_true q231
           refine start_ (n:=10) (S:=fun w' => w'.cell? (ad231.add ((x37_1).toNat * 2)) = some (.int .i64 ((rd_T35 t211 x37_1).f0)) ∧ w'.cell? ⟨(ad231.add ((x37_1).toNat * 2)).block,(ad231.add ((x37_1).toNat * 2)).off + 1,none⟩ = some (.int .i64 ((rd_T35 t211 x37_1).f1))) (ds:=[]) #[false,false,false,false,false,false,false,false,false,false] (by kernel_rfl) rfl rfl ⟨hx231_0,hx231_1⟩ (fun hHeld => ?_);refine with_tabW laws_FnPolice.tab12 laws_FnPolice.bits12 (fun HT_ HW_ => ?_)
           generalize wr.drew = w23 at HO_5 HO_6 HO_7 HO_8 HO_35 HB hx231_0 hx231_1 hHeld ⊢
           refine pure_ (i:=1) (N:=some 43) (v:=?_) (a':=?_) #[false,true,false,false,false,false,false,false,false,false] rfl rfl (any_of HT_.out (by kernel_rfl)) (fun _ _ _ h => h) (Or.inl ⟨by rfl,?_⟩) ?_ ?_
           rotate_left
           ·intro w'
            go_simp
            with_reducible rfl
           rotate_left
           ·simp only [Act.put,sx_,sy_,sz_,i64_w,i32_w]
            rfl
           refine pure_ (i:=3) (N:=some 45) (v:=?_) (a':=?_) #[false,true,false,true,false,false,false,false,false,false] rfl rfl (any_of HT_.out (by kernel_rfl)) (fun _ _ _ h => h) (Or.inl ⟨by rfl,?_⟩) ?_ ?_
           rotate_left
           ·intro w'
            go_simp
            with_reducible rfl
           rotate_left
           ·simp only [Act.put,sx_,sy_,sz_,i64_w,i32_w]
            rfl
           refine pure_ (i:=4) (N:=some 46) (v:=?_) (a':=?_) #[false,true,false,true,true,false,false,false,false,false] rfl rfl (any_of HT_.out (by kernel_rfl)) (fun _ _ _ h => h) (Or.inl ⟨by rfl,?_⟩) ?_ ?_
           rotate_left
           ·intro w'
            go_simp
            with_reducible rfl
           rotate_left
           ·simp only [Act.put,sx_,sy_,sz_,i64_w,i32_w]
            rfl
           refine pure_ (i:=5) (N:=some 47) (v:=?_) (a':=?_) #[false,true,false,true,true,true,false,false,false,false] rfl rfl (any_of HT_.out (by kernel_rfl)) (fun _ _ _ h => h) (Or.inl ⟨by rfl,?_⟩) ?_ ?_
           rotate_left
           ·intro w'
            go_simp
            with_reducible rfl
           rotate_left
           ·simp only [Act.put,sx_,sy_,sz_,i64_w,i32_w]
            rfl
           refine take_ (i:=6) (N:=some 48) (v:=?_) (a':=?_) #[false,true,false,true,true,true,true,false,false,false] rfl rfl (take_ofW HT_.out HW_.out (by kernel_rfl)) (fun _ _ _ h => h) (Or.inl ⟨by rfl,?_⟩) hHeld ?_ ?_
           rotate_left
           ·rintro w' ⟨s0,s1⟩
            go_simp
            with_reducible rfl
           rotate_left
           ·simp only [Act.put,sx_,sy_,sz_,i64_w,i32_w]
            rfl
           refine join_ (σ:=Value × Value × Value) 2 #[true,true,true,true,true,true,true,true,false,false] (fun s_ => [(42,s_.1),(44,s_.2.1),(49,s_.2.2)]) (fun s_ w' => (w'.cell? (ad231.add ((x37_1).toNat * 2)) = some (.int .i64 ((rd_T35 t211 x37_1).f0)) ∧ w'.cell? ⟨(ad231.add ((x37_1).toNat * 2)).block,(ad231.add ((x37_1).toNat * 2)).off + 1,none⟩ = some (.int .i64 ((rd_T35 t211 x37_1).f1))) ∧ (Kd.R k35 35 w' w.heap.size (fun k_ => some k_ ≠ (s_.2.2 : Value).ownBlock ∧ some k_ ≠ (.slice (some ad231) t211.length co8 : Value).ownBlock ∧ some k_ ≠ (.slice Ao22 x8_1.length co22 : Value).ownBlock) s_.2.1 y228) ∧ (Kd.R k35 35 w' w.heap.size (fun k_ => some k_ ≠ (s_.2.1 : Value).ownBlock ∧ some k_ ≠ (.slice (some ad231) t211.length co8 : Value).ownBlock ∧ some k_ ≠ (.slice Ao22 x8_1.length co22 : Value).ownBlock) s_.2.2 y232) ∧ (Kd.R Kd.bool 4 w' w.heap.size (fun k_ => some k_ ≠ (.slice Ao12 t217.length co12 : Value).ownBlock) (.slice (some ad224) t214.length co11) t214) ∧ (Kd.R k35 35 w' w.heap.size (fun k_ => some k_ ≠ (s_.2.1 : Value).ownBlock ∧ some k_ ≠ (s_.2.2 : Value).ownBlock ∧ some k_ ≠ (.slice Ao22 x8_1.length co22 : Value).ownBlock) (.slice (some ad231) t211.length co8) t211) ∧ (Kd.R Kd.bool 4 w' w.heap.size (fun k_ => some k_ ≠ (.slice Ao12 t217.length co12 : Value).ownBlock) (.slice (some ad224) t214.length co11) t214) ∧ (Kd.R Kd.bool 4 w' w.heap.size (fun k_ => some k_ ≠ (.slice (some ad224) t214.length co11 : Value).ownBlock ∧ some k_ ≠ (.slice (some ad224) t214.length co11 : Value).ownBlock) (.slice Ao12 t217.length co12) t217) ∧ (Kd.R k35 35 w' w.heap.size (fun k_ => some k_ ≠ (s_.2.1 : Value).ownBlock ∧ some k_ ≠ (s_.2.2 : Value).ownBlock ∧ some k_ ≠ (.slice (some ad231) t211.length co8 : Value).ownBlock) (.slice Ao22 x8_1.length co22) x8_1) ∧ (Below w.heap.size w w')) ?_ ?_
           rotate_left
           ·intro hCont
            refine two_ (i:=0) (j:=7) (Ni:=some 42) (Nj:=some 49) #[true,true,false,true,true,true,true,false,false,false] #[false,true,false,true,true,true,true,true,false,false] rfl rfl rfl rfl (two_of HT_.out (by kernel_rfl)) (by decide) (by decide) (fun K hK => ?_) (fun K hK => ?_)
            ·skip
             refine Kd.R_lit_step k35 _ 35 ?hg (N:=42) ?hd (xs:=([] : List (S35))) (inner:=[]) (ok:=fun _ => True) (okp:=fun _ => True) ?hr ?hp (fun _ hk => hk) trivial (Below.refl _ _) (Nat.le_refl _) (by simp) ?_;(case hd => rfl);(case hg => rfl);(case hr => first|(go_simp;done)|(go_simp;rfl));(case hp => exact (Reps.none _ _))
             intro v226 w24 ho25 hb hg_ hnew_
             have HS0_:=(hb.cell (wl_ _ _ (hHeld.1))).trans (hHeld.1)
             have HS1_:=(hb.cell (wl_ _ _ (hHeld.2))).trans (hHeld.2)
             clear hg_ hnew_
             (first|rw [← Ny225.out] at ho25|(simp only [Int.reduceToNat] at ho25;rw [← Ny225.out] at ho25))
             have n0_:=mk_ (re_ (qr_ HO_5) (Kd.R_base ho25) hb)
             have n1_:=mk_ (rb_ (qr_ HO_6) hb)
             have n2_:=mk_ (rb_ (qr_ HO_7) hb)
             have n3_:=mk_ (re_ (qr_ HO_8) (Kd.R_base ho25) hb)
             have n4_:=mk_ (rb_ (qr_ HO_35) hb)
             have n5_:=mk_ (Kd.R_lower (Kd.R_new' (Kd.R_new' ho25 (Kd.R_lt (qr_ HO_5))) (Kd.R_lt (qr_ HO_8))) (bz_ (qb_ HB)))
             have n6_:=mk_ (st_ (qb_ HB) hb)
             clear HO_5
             clear HO_6
             clear HO_7
             clear HO_8
             clear HO_35
             clear HB
             have HO_5:=n0_
             have HO_6:=n1_
             have HO_7:=n2_
             have HO_8:=n3_
             have HO_35:=n4_
             have HO227:=n5_
             have HB:=n6_
             clear n0_ n1_ n2_ n3_ n4_ n5_ n6_
             clear hb ho25
             refine hK.out _ _ ⟨HS0_,HS1_⟩ (fun hHeld => ?_)
             clear hK K
             refine norm_ (a':=?_) ?_ ?_
             rotate_left
             ·show Act.put _ (some 42) _ = _
              simp only [Act.put,sx_,sy_,sz_,i64_w,i32_w]
              rfl
             refine two_ (i:=2) (j:=7) (Ni:=some 44) (Nj:=some 49) #[true,true,true,true,true,true,true,false,false,false] #[true,true,false,true,true,true,true,true,false,false] rfl rfl rfl rfl (two_of HT_.out (by kernel_rfl)) (by decide) (by decide) (fun K hK => ?_) (fun K hK => ?_)
             ·skip
              refine Kd.R_append_rows_step k35 (w0:=w) w.heap.size (by rfl) (.tmp 42) (.tmp 43) 25 35 (.agg #[(.int .i64 0),(.int .i64 0)]) 16 rfl Try.underlying25 info35 rfl (by decide) (by omega) v226 y225 x8_1 _ _ _ (fun k_ => some k_ ≠ (.slice (some ad231) t211.length co8 : Value).ownBlock ∧ some k_ ≠ (.slice Ao22 x8_1.length co22 : Value).ownBlock) (fun _ => False) rfl rfl ?aO ?aR (fun _ _ h => h) (fun _ h => h.elim) ?aF ?aB ?aS ?aL ?_
              (case aR => repeat (first|exact (rr_ HO_8.out).2.2|(with_reducible refine ca_ ?_ _)|(with_reducible refine cn_ ?_ _)|(with_reducible refine cd_ ?_)))
              (case aB => exact (qb_ HB))
              (case aF => exact (fun k_ hk => ⟨Kd.fresh' (Kd.R_lt (qr_ HO_5)) k_ hk,Kd.fresh' (Kd.R_lt (qr_ HO_8)) k_ hk⟩))
              (case aO => exact (by (with_reducible repeat (first|apply ra_|apply rn_|apply rd_));exact rm_ HO227.out (fun _ hk => ⟨hk.1.2,hk.2⟩)))
              (case aS => exact (bz_ (qb_ HB)))
              (case aL => have:=LMc18.out;omega)
              intro v229 w26 ho hb hg hat
              have HS0_:=cell_grown hg (hHeld.1) (by (first|rw [add_block]|(show some (Addr.add _ _).block ≠ _;rw [add_block])|skip);intro e_;have h_:=HO227.out.1 _ e_.symm;first|exact (h_.2) rfl|exact (h_.1.2) rfl|exact (h_.1.1.2) rfl|exact (h_.1.1.1.2) rfl|exact (h_.1.1.1.1.2) rfl|exact (h_.1.1.1.1.1.2) rfl|exact (h_) rfl|exact (h_.1) rfl|exact (h_.1.1) rfl|exact (h_.1.1.1) rfl|exact (h_.1.1.1.1) rfl|exact (h_.1.1.1.1.1) rfl|exact (h_.1.1.1.1.1.1) rfl|exact (h_.2.1) rfl|exact (h_.1.2.1) rfl|exact (h_.1.1.2.1) rfl|exact (h_.2.2) rfl|exact (h_.1.2.2) rfl|exact (h_.1.1.2.2) rfl)
              have HS1_:=cell_grown hg (hHeld.2) (by (first|rw [add_block]|(show some (Addr.add _ _).block ≠ _;rw [add_block])|skip);intro e_;have h_:=HO227.out.1 _ e_.symm;first|exact (h_.2) rfl|exact (h_.1.2) rfl|exact (h_.1.1.2) rfl|exact (h_.1.1.1.2) rfl|exact (h_.1.1.1.1.2) rfl|exact (h_.1.1.1.1.1.2) rfl|exact (h_) rfl|exact (h_.1) rfl|exact (h_.1.1) rfl|exact (h_.1.1.1) rfl|exact (h_.1.1.1.1) rfl|exact (h_.1.1.1.1.1) rfl|exact (h_.1.1.1.1.1.1) rfl|exact (h_.2.1) rfl|exact (h_.1.2.1) rfl|exact (h_.1.1.2.1) rfl|exact (h_.2.2) rfl|exact (h_.1.2.2) rfl|exact (h_.1.1.2.2) rfl)
              rw [← Ny228.out] at ho
              have n0_:=mk_ (Kd.R_after (ok:=(fun k_ => some k_ ≠ (.slice Ao22 x8_1.length co22 : Value).ownBlock)) (qr_ HO_5) hg hat)
              have n1_:=mk_ (Kd.R_over' (qr_ HO_6) (Kd.R_typed (qr_ HO227)) (by decide) hg)
              have n2_:=mk_ (Kd.R_over' (qr_ HO_7) (Kd.R_typed (qr_ HO227)) (by decide) hg)
              have n3_:=mk_ (Kd.R_after (ok:=(fun k_ => some k_ ≠ (.slice (some ad231) t211.length co8 : Value).ownBlock)) (qr_ HO_8) hg hat)
              have n4_:=mk_ (Kd.R_over' (qr_ HO_35) (Kd.R_typed (qr_ HO227)) (by decide) hg)
              have n5_:=mk_ (hb)
              have n6_:=mk_ (ho)
              clear HO_5
              clear HO_6
              clear HO_7
              clear HO_8
              clear HO_35
              clear HB
              clear HO227
              have HO_5:=n0_
              have HO_6:=n1_
              have HO_7:=n2_
              have HO_8:=n3_
              have HO_35:=n4_
              have HB:=n5_
              have HO230:=n6_
              clear n0_ n1_ n2_ n3_ n4_ n5_ n6_
              clear ho hb hg hat
              refine hK.out _ _ ⟨HS0_,HS1_⟩ (fun hHeld => ?_)
              clear hK K
              refine norm_ (a':=?_) ?_ ?_
              rotate_left
              ·show Act.put _ (some 44) _ = _
               simp only [Act.put,sx_,sy_,sz_,i64_w,i32_w]
               rfl
              refine one_ (i:=7) (N:=some 49) #[true,true,true,true,true,true,true,true,false,false] rfl rfl (one_of HT_.out (by kernel_rfl)) (by decide) (fun K hK => ?_)
              refine Kd.R_lit_step k35 _ 35 ?hg (N:=49) ?hd (xs:=([(⟨(rd_T35 t211 x37_1).f0,(rd_T35 t211 x37_1).f1⟩ : S35)] : List (S35))) (inner:=[.int .i64 ((rd_T35 t211 x37_1).f0),.int .i64 ((rd_T35 t211 x37_1).f1)]) (ok:=fun _ => True) (okp:=fun _ => True) ?hr ?hp (fun _ hk => hk) trivial (Below.refl _ _) (Nat.le_refl _) (by simp) ?_;(case hd => rfl);(case hg => rfl);(case hr => first|(go_simp;done)|(go_simp;rfl));(case hp => exact (Reps.c2 (show Kd.M k35 _ _ _ (⟨(rd_T35 t211 x37_1).f0,(rd_T35 t211 x37_1).f1⟩ : S35) [.int .i64 ((rd_T35 t211 x37_1).f0),.int .i64 ((rd_T35 t211 x37_1).f1)] from (k35_mkM _ _ _ (⟨(rd_T35 t211 x37_1).f0,(rd_T35 t211 x37_1).f1⟩ : S35) )) (Reps.none _ _)))
              intro v233 w27 ho28 hb hg_ hnew_
              have HS0_:=(hb.cell (wl_ _ _ (hHeld.1))).trans (hHeld.1)
              have HS1_:=(hb.cell (wl_ _ _ (hHeld.2))).trans (hHeld.2)
              clear hg_ hnew_
              (first|rw [← Ny232.out] at ho28|(simp only [Int.reduceToNat] at ho28;rw [← Ny232.out] at ho28))
              have n0_:=mk_ (re_ (qr_ HO_5) (Kd.R_base ho28) hb)
              have n1_:=mk_ (rb_ (qr_ HO_6) hb)
              have n2_:=mk_ (rb_ (qr_ HO_7) hb)
              have n3_:=mk_ (re_ (qr_ HO_8) (Kd.R_base ho28) hb)
              have n4_:=mk_ (rb_ (qr_ HO_35) hb)
              have n5_:=mk_ (re_ (qr_ HO230) (Kd.R_base ho28) hb)
              have n6_:=mk_ (Kd.R_lower (Kd.R_new' (Kd.R_new' (Kd.R_new' ho28 (Kd.R_lt (qr_ HO_5))) (Kd.R_lt (qr_ HO_8))) (Kd.R_lt (qr_ HO230))) (bz_ (qb_ HB)))
              have n7_:=mk_ (st_ (qb_ HB) hb)
              clear HO_5
              clear HO_6
              clear HO_7
              clear HO_8
              clear HO_35
              clear HO230
              clear HB
              have HO_5:=n0_
              have HO_6:=n1_
              have HO_7:=n2_
              have HO_8:=n3_
              have HO_35:=n4_
              have HO230:=n5_
              have HO234:=n6_
              have HB:=n7_
              clear n0_ n1_ n2_ n3_ n4_ n5_ n6_ n7_
              clear hb ho28
              refine hK.out _ _ ⟨HS0_,HS1_⟩ (fun hHeld => ?_)
              clear hK K
              refine norm_ (a':=?_) ?_ ?_
              rotate_left
              ·show Act.put _ (some 49) _ = _
               simp only [Act.put,sx_,sy_,sz_,i64_w,i32_w]
               rfl
              exact norm_ (by simp only [putAll,Act.put,sx_,sy_,sz_]) (hCont (v226,v229,v233) _ ⟨hHeld,(by (with_reducible repeat (first|apply ra_|apply rn_|apply rd_));exact rm_ HO230.out (fun _ hk => ⟨hk.2,⟨hk.1.1,hk.1.2⟩⟩)),(by (with_reducible repeat (first|apply ra_|apply rn_|apply rd_));exact rm_ HO234.out (fun _ hk => ⟨hk.2,⟨hk.1.1.2,hk.1.2⟩⟩)),(qr_ HO_35),(by (with_reducible repeat (first|apply ra_|apply rn_|apply rd_));exact rm_ HO_5.out (fun _ hk => ⟨hk.1.2,⟨hk.2,hk.1.1⟩⟩)),(qr_ HO_6),(by (with_reducible repeat (first|apply ra_|apply rn_|apply rd_));exact rm_ HO_7.out (fun _ hk => ⟨hk.2,hk.1⟩)),(by (with_reducible repeat (first|apply ra_|apply rn_|apply rd_));exact rm_ HO_8.out (fun _ hk => ⟨hk.1.2,⟨hk.2,hk.1.1⟩⟩)),(qb_ HB)⟩)
             ·skip
              refine Kd.R_lit_step k35 _ 35 ?hg (N:=49) ?hd (xs:=([(⟨(rd_T35 t211 x37_1).f0,(rd_T35 t211 x37_1).f1⟩ : S35)] : List (S35))) (inner:=[.int .i64 ((rd_T35 t211 x37_1).f0),.int .i64 ((rd_T35 t211 x37_1).f1)]) (ok:=fun _ => True) (okp:=fun _ => True) ?hr ?hp (fun _ hk => hk) trivial (Below.refl _ _) (Nat.le_refl _) (by simp) ?_;(case hd => rfl);(case hg => rfl);(case hr => first|(go_simp;done)|(go_simp;rfl));(case hp => exact (Reps.c2 (show Kd.M k35 _ _ _ (⟨(rd_T35 t211 x37_1).f0,(rd_T35 t211 x37_1).f1⟩ : S35) [.int .i64 ((rd_T35 t211 x37_1).f0),.int .i64 ((rd_T35 t211 x37_1).f1)] from (k35_mkM _ _ _ (⟨(rd_T35 t211 x37_1).f0,(rd_T35 t211 x37_1).f1⟩ : S35) )) (Reps.none _ _)))
              intro v233 w26 ho27 hb hg_ hnew_
              have HS0_:=(hb.cell (wl_ _ _ (hHeld.1))).trans (hHeld.1)
              have HS1_:=(hb.cell (wl_ _ _ (hHeld.2))).trans (hHeld.2)
              clear hg_ hnew_
              (first|rw [← Ny232.out] at ho27|(simp only [Int.reduceToNat] at ho27;rw [← Ny232.out] at ho27))
              have n0_:=mk_ (re_ (qr_ HO_5) (Kd.R_base ho27) hb)
              have n1_:=mk_ (rb_ (qr_ HO_6) hb)
              have n2_:=mk_ (rb_ (qr_ HO_7) hb)
              have n3_:=mk_ (re_ (qr_ HO_8) (Kd.R_base ho27) hb)
              have n4_:=mk_ (rb_ (qr_ HO_35) hb)
              have n5_:=mk_ (re_ (qr_ HO227) (Kd.R_base ho27) hb)
              have n6_:=mk_ (Kd.R_lower (Kd.R_new' (Kd.R_new' (Kd.R_new' ho27 (Kd.R_lt (qr_ HO_5))) (Kd.R_lt (qr_ HO_8))) (Kd.R_lt (qr_ HO227))) (bz_ (qb_ HB)))
              have n7_:=mk_ (st_ (qb_ HB) hb)
              clear HO_5
              clear HO_6
              clear HO_7
              clear HO_8
              clear HO_35
              clear HO227
              clear HB
              have HO_5:=n0_
              have HO_6:=n1_
              have HO_7:=n2_
              have HO_8:=n3_
              have HO_35:=n4_
              have HO227:=n5_
              have HO234:=n6_
              have HB:=n7_
              clear n0_ n1_ n2_ n3_ n4_ n5_ n6_ n7_
              clear hb ho27
              refine hK.out _ _ ⟨HS0_,HS1_⟩ (fun hHeld => ?_)
              clear hK K
              refine norm_ (a':=?_) ?_ ?_
              rotate_left
              ·show Act.put _ (some 49) _ = _
               simp only [Act.put,sx_,sy_,sz_,i64_w,i32_w]
               rfl
              refine one_ (i:=2) (N:=some 44) #[true,true,true,true,true,true,true,true,false,false] rfl rfl (one_of HT_.out (by kernel_rfl)) (by decide) (fun K hK => ?_)
              refine Kd.R_append_rows_step k35 (w0:=w) w.heap.size (by rfl) (.tmp 42) (.tmp 43) 25 35 (.agg #[(.int .i64 0),(.int .i64 0)]) 16 rfl Try.underlying25 info35 rfl (by decide) (by omega) v226 y225 x8_1 _ _ _ (fun k_ => some k_ ≠ (.slice (some ad231) t211.length co8 : Value).ownBlock ∧ some k_ ≠ (.slice Ao22 x8_1.length co22 : Value).ownBlock ∧ some k_ ≠ (v233 : Value).ownBlock) (fun _ => False) rfl rfl ?aO ?aR (fun _ _ h => h) (fun _ h => h.elim) ?aF ?aB ?aS ?aL ?_
              (case aR => repeat (first|exact (rr_ HO_8.out).2.2|(with_reducible refine ca_ ?_ _)|(with_reducible refine cn_ ?_ _)|(with_reducible refine cd_ ?_)))
              (case aB => exact (qb_ HB))
              (case aF => exact (fun k_ hk => ⟨Kd.fresh' (Kd.R_lt (qr_ HO_5)) k_ hk,Kd.fresh' (Kd.R_lt (qr_ HO_8)) k_ hk,Kd.fresh' (Kd.R_lt (qr_ HO234)) k_ hk⟩))
              (case aO => exact (by (with_reducible repeat (first|apply ra_|apply rn_|apply rd_));exact rm_ HO227.out (fun _ hk => ⟨hk.1.1.2,⟨hk.1.2,hk.2⟩⟩)))
              (case aS => exact (bz_ (qb_ HB)))
              (case aL => have:=LMc18.out;omega)
              intro v229 w28 ho hb hg hat
              have HS0_:=cell_grown hg (hHeld.1) (by (first|rw [add_block]|(show some (Addr.add _ _).block ≠ _;rw [add_block])|skip);intro e_;have h_:=HO227.out.1 _ e_.symm;first|exact (h_.2) rfl|exact (h_.1.2) rfl|exact (h_.1.1.2) rfl|exact (h_.1.1.1.2) rfl|exact (h_.1.1.1.1.2) rfl|exact (h_.1.1.1.1.1.2) rfl|exact (h_) rfl|exact (h_.1) rfl|exact (h_.1.1) rfl|exact (h_.1.1.1) rfl|exact (h_.1.1.1.1) rfl|exact (h_.1.1.1.1.1) rfl|exact (h_.1.1.1.1.1.1) rfl|exact (h_.2.1) rfl|exact (h_.1.2.1) rfl|exact (h_.1.1.2.1) rfl|exact (h_.2.2) rfl|exact (h_.1.2.2) rfl|exact (h_.1.1.2.2) rfl)
              have HS1_:=cell_grown hg (hHeld.2) (by (first|rw [add_block]|(show some (Addr.add _ _).block ≠ _;rw [add_block])|skip);intro e_;have h_:=HO227.out.1 _ e_.symm;first|exact (h_.2) rfl|exact (h_.1.2) rfl|exact (h_.1.1.2) rfl|exact (h_.1.1.1.2) rfl|exact (h_.1.1.1.1.2) rfl|exact (h_.1.1.1.1.1.2) rfl|exact (h_) rfl|exact (h_.1) rfl|exact (h_.1.1) rfl|exact (h_.1.1.1) rfl|exact (h_.1.1.1.1) rfl|exact (h_.1.1.1.1.1) rfl|exact (h_.1.1.1.1.1.1) rfl|exact (h_.2.1) rfl|exact (h_.1.2.1) rfl|exact (h_.1.1.2.1) rfl|exact (h_.2.2) rfl|exact (h_.1.2.2) rfl|exact (h_.1.1.2.2) rfl)
              rw [← Ny228.out] at ho
              have n0_:=mk_ (Kd.R_after (ok:=(fun k_ => some k_ ≠ (.slice Ao22 x8_1.length co22 : Value).ownBlock ∧ some k_ ≠ (v233 : Value).ownBlock)) (by (with_reducible repeat (first|apply ra_|apply rn_|apply rd_));exact rm_ HO_5.out (fun _ hk => ⟨⟨hk.1.1,hk.2⟩,hk.1.2⟩)) hg hat)
              have n1_:=mk_ (Kd.R_over' (qr_ HO_6) (Kd.R_typed (qr_ HO227)) (by decide) hg)
              have n2_:=mk_ (Kd.R_over' (qr_ HO_7) (Kd.R_typed (qr_ HO227)) (by decide) hg)
              have n3_:=mk_ (Kd.R_after (ok:=(fun k_ => some k_ ≠ (.slice (some ad231) t211.length co8 : Value).ownBlock ∧ some k_ ≠ (v233 : Value).ownBlock)) (by (with_reducible repeat (first|apply ra_|apply rn_|apply rd_));exact rm_ HO_8.out (fun _ hk => ⟨⟨hk.1.1,hk.2⟩,hk.1.2⟩)) hg hat)
              have n4_:=mk_ (Kd.R_over' (qr_ HO_35) (Kd.R_typed (qr_ HO227)) (by decide) hg)
              have n5_:=mk_ (Kd.R_after (ok:=(fun k_ => some k_ ≠ (.slice (some ad231) t211.length co8 : Value).ownBlock ∧ some k_ ≠ (.slice Ao22 x8_1.length co22 : Value).ownBlock)) (by (with_reducible repeat (first|apply ra_|apply rn_|apply rd_));exact rm_ HO234.out (fun _ hk => ⟨⟨hk.1.1.2,hk.1.2⟩,hk.2⟩)) hg hat)
              have n6_:=mk_ (hb)
              have n7_:=mk_ (ho)
              clear HO_5
              clear HO_6
              clear HO_7
              clear HO_8
              clear HO_35
              clear HO234
              clear HB
              clear HO227
              have HO_5:=n0_
              have HO_6:=n1_
              have HO_7:=n2_
              have HO_8:=n3_
              have HO_35:=n4_
              have HO234:=n5_
              have HB:=n6_
              have HO230:=n7_
              clear n0_ n1_ n2_ n3_ n4_ n5_ n6_ n7_
              clear ho hb hg hat
              refine hK.out _ _ ⟨HS0_,HS1_⟩ (fun hHeld => ?_)
              clear hK K
              refine norm_ (a':=?_) ?_ ?_
              rotate_left
              ·show Act.put _ (some 44) _ = _
               simp only [Act.put,sx_,sy_,sz_,i64_w,i32_w]
               rfl
              exact norm_ (by simp only [putAll,Act.put,sx_,sy_,sz_]) (hCont (v226,v229,v233) _ ⟨hHeld,(by (with_reducible repeat (first|apply ra_|apply rn_|apply rd_));exact rm_ HO230.out (fun _ hk => ⟨hk.2.2,⟨hk.1,hk.2.1⟩⟩)),(by (with_reducible repeat (first|apply ra_|apply rn_|apply rd_));exact rm_ HO234.out (fun _ hk => ⟨hk.2,⟨hk.1.1,hk.1.2⟩⟩)),(qr_ HO_35),(by (with_reducible repeat (first|apply ra_|apply rn_|apply rd_));exact rm_ HO_5.out (fun _ hk => ⟨hk.2,⟨hk.1.2,hk.1.1⟩⟩)),(qr_ HO_6),(by (with_reducible repeat (first|apply ra_|apply rn_|apply rd_));exact rm_ HO_7.out (fun _ hk => ⟨hk.2,hk.1⟩)),(by (with_reducible repeat (first|apply ra_|apply rn_|apply rd_));exact rm_ HO_8.out (fun _ hk => ⟨hk.2,⟨hk.1.2,hk.1.1⟩⟩)),(qb_ HB)⟩)
            ·skip
             refine Kd.R_lit_step k35 _ 35 ?hg (N:=49) ?hd (xs:=([(⟨(rd_T35 t211 x37_1).f0,(rd_T35 t211 x37_1).f1⟩ : S35)] : List (S35))) (inner:=[.int .i64 ((rd_T35 t211 x37_1).f0),.int .i64 ((rd_T35 t211 x37_1).f1)]) (ok:=fun _ => True) (okp:=fun _ => True) ?hr ?hp (fun _ hk => hk) trivial (Below.refl _ _) (Nat.le_refl _) (by simp) ?_;(case hd => rfl);(case hg => rfl);(case hr => first|(go_simp;done)|(go_simp;rfl));(case hp => exact (Reps.c2 (show Kd.M k35 _ _ _ (⟨(rd_T35 t211 x37_1).f0,(rd_T35 t211 x37_1).f1⟩ : S35) [.int .i64 ((rd_T35 t211 x37_1).f0),.int .i64 ((rd_T35 t211 x37_1).f1)] from (k35_mkM _ _ _ (⟨(rd_T35 t211 x37_1).f0,(rd_T35 t211 x37_1).f1⟩ : S35) )) (Reps.none _ _)))
             intro v233 w24 ho25 hb hg_ hnew_
             have HS0_:=(hb.cell (wl_ _ _ (hHeld.1))).trans (hHeld.1)
             have HS1_:=(hb.cell (wl_ _ _ (hHeld.2))).trans (hHeld.2)
             clear hg_ hnew_
             (first|rw [← Ny232.out] at ho25|(simp only [Int.reduceToNat] at ho25;rw [← Ny232.out] at ho25))
             have n0_:=mk_ (re_ (qr_ HO_5) (Kd.R_base ho25) hb)
             have n1_:=mk_ (rb_ (qr_ HO_6) hb)
             have n2_:=mk_ (rb_ (qr_ HO_7) hb)
             have n3_:=mk_ (re_ (qr_ HO_8) (Kd.R_base ho25) hb)
             have n4_:=mk_ (rb_ (qr_ HO_35) hb)
             have n5_:=mk_ (Kd.R_lower (Kd.R_new' (Kd.R_new' ho25 (Kd.R_lt (qr_ HO_5))) (Kd.R_lt (qr_ HO_8))) (bz_ (qb_ HB)))
             have n6_:=mk_ (st_ (qb_ HB) hb)
             clear HO_5
             clear HO_6
             clear HO_7
             clear HO_8
             clear HO_35
             clear HB
             have HO_5:=n0_
             have HO_6:=n1_
             have HO_7:=n2_
             have HO_8:=n3_
             have HO_35:=n4_
             have HO234:=n5_
             have HB:=n6_
             clear n0_ n1_ n2_ n3_ n4_ n5_ n6_
             clear hb ho25
             refine hK.out _ _ ⟨HS0_,HS1_⟩ (fun hHeld => ?_)
             clear hK K
             refine norm_ (a':=?_) ?_ ?_
             rotate_left
             ·show Act.put _ (some 49) _ = _
              simp only [Act.put,sx_,sy_,sz_,i64_w,i32_w]
              rfl
             refine one_ (i:=0) (N:=some 42) #[true,true,false,true,true,true,true,true,false,false] rfl rfl (one_of HT_.out (by kernel_rfl)) (by decide) (fun K hK => ?_)
             refine Kd.R_lit_step k35 _ 35 ?hg (N:=42) ?hd (xs:=([] : List (S35))) (inner:=[]) (ok:=fun _ => True) (okp:=fun _ => True) ?hr ?hp (fun _ hk => hk) trivial (Below.refl _ _) (Nat.le_refl _) (by simp) ?_;(case hd => rfl);(case hg => rfl);(case hr => first|(go_simp;done)|(go_simp;rfl));(case hp => exact (Reps.none _ _))
             intro v226 w26 ho27 hb hg_ hnew_
             have HS0_:=(hb.cell (wl_ _ _ (hHeld.1))).trans (hHeld.1)
             have HS1_:=(hb.cell (wl_ _ _ (hHeld.2))).trans (hHeld.2)
             clear hg_ hnew_
             (first|rw [← Ny225.out] at ho27|(simp only [Int.reduceToNat] at ho27;rw [← Ny225.out] at ho27))
             have n0_:=mk_ (re_ (qr_ HO_5) (Kd.R_base ho27) hb)
             have n1_:=mk_ (rb_ (qr_ HO_6) hb)
             have n2_:=mk_ (rb_ (qr_ HO_7) hb)
             have n3_:=mk_ (re_ (qr_ HO_8) (Kd.R_base ho27) hb)
             have n4_:=mk_ (rb_ (qr_ HO_35) hb)
             have n5_:=mk_ (re_ (qr_ HO234) (Kd.R_base ho27) hb)
             have n6_:=mk_ (Kd.R_lower (Kd.R_new' (Kd.R_new' (Kd.R_new' ho27 (Kd.R_lt (qr_ HO_5))) (Kd.R_lt (qr_ HO_8))) (Kd.R_lt (qr_ HO234))) (bz_ (qb_ HB)))
             have n7_:=mk_ (st_ (qb_ HB) hb)
             clear HO_5
             clear HO_6
             clear HO_7
             clear HO_8
             clear HO_35
             clear HO234
             clear HB
             have HO_5:=n0_
             have HO_6:=n1_
             have HO_7:=n2_
             have HO_8:=n3_
             have HO_35:=n4_
             have HO234:=n5_
             have HO227:=n6_
             have HB:=n7_
             clear n0_ n1_ n2_ n3_ n4_ n5_ n6_ n7_
             clear hb ho27
             refine hK.out _ _ ⟨HS0_,HS1_⟩ (fun hHeld => ?_)
             clear hK K
             refine norm_ (a':=?_) ?_ ?_
             rotate_left
             ·show Act.put _ (some 42) _ = _
              simp only [Act.put,sx_,sy_,sz_,i64_w,i32_w]
              rfl
             refine one_ (i:=2) (N:=some 44) #[true,true,true,true,true,true,true,true,false,false] rfl rfl (one_of HT_.out (by kernel_rfl)) (by decide) (fun K hK => ?_)
             refine Kd.R_append_rows_step k35 (w0:=w) w.heap.size (by rfl) (.tmp 42) (.tmp 43) 25 35 (.agg #[(.int .i64 0),(.int .i64 0)]) 16 rfl Try.underlying25 info35 rfl (by decide) (by omega) v226 y225 x8_1 _ _ _ (fun k_ => some k_ ≠ (.slice (some ad231) t211.length co8 : Value).ownBlock ∧ some k_ ≠ (.slice Ao22 x8_1.length co22 : Value).ownBlock ∧ some k_ ≠ (v233 : Value).ownBlock) (fun _ => False) rfl rfl ?aO ?aR (fun _ _ h => h) (fun _ h => h.elim) ?aF ?aB ?aS ?aL ?_
             (case aR => repeat (first|exact (rr_ HO_8.out).2.2|(with_reducible refine ca_ ?_ _)|(with_reducible refine cn_ ?_ _)|(with_reducible refine cd_ ?_)))
             (case aB => exact (qb_ HB))
             (case aF => exact (fun k_ hk => ⟨Kd.fresh' (Kd.R_lt (qr_ HO_5)) k_ hk,Kd.fresh' (Kd.R_lt (qr_ HO_8)) k_ hk,Kd.fresh' (Kd.R_lt (qr_ HO234)) k_ hk⟩))
             (case aO => exact (by (with_reducible repeat (first|apply ra_|apply rn_|apply rd_));exact rm_ HO227.out (fun _ hk => ⟨hk.1.1.2,⟨hk.1.2,hk.2⟩⟩)))
             (case aS => exact (bz_ (qb_ HB)))
             (case aL => have:=LMc18.out;omega)
             intro v229 w28 ho hb hg hat
             have HS0_:=cell_grown hg (hHeld.1) (by (first|rw [add_block]|(show some (Addr.add _ _).block ≠ _;rw [add_block])|skip);intro e_;have h_:=HO227.out.1 _ e_.symm;first|exact (h_.2) rfl|exact (h_.1.2) rfl|exact (h_.1.1.2) rfl|exact (h_.1.1.1.2) rfl|exact (h_.1.1.1.1.2) rfl|exact (h_.1.1.1.1.1.2) rfl|exact (h_) rfl|exact (h_.1) rfl|exact (h_.1.1) rfl|exact (h_.1.1.1) rfl|exact (h_.1.1.1.1) rfl|exact (h_.1.1.1.1.1) rfl|exact (h_.1.1.1.1.1.1) rfl|exact (h_.2.1) rfl|exact (h_.1.2.1) rfl|exact (h_.1.1.2.1) rfl|exact (h_.2.2) rfl|exact (h_.1.2.2) rfl|exact (h_.1.1.2.2) rfl)
             have HS1_:=cell_grown hg (hHeld.2) (by (first|rw [add_block]|(show some (Addr.add _ _).block ≠ _;rw [add_block])|skip);intro e_;have h_:=HO227.out.1 _ e_.symm;first|exact (h_.2) rfl|exact (h_.1.2) rfl|exact (h_.1.1.2) rfl|exact (h_.1.1.1.2) rfl|exact (h_.1.1.1.1.2) rfl|exact (h_.1.1.1.1.1.2) rfl|exact (h_) rfl|exact (h_.1) rfl|exact (h_.1.1) rfl|exact (h_.1.1.1) rfl|exact (h_.1.1.1.1) rfl|exact (h_.1.1.1.1.1) rfl|exact (h_.1.1.1.1.1.1) rfl|exact (h_.2.1) rfl|exact (h_.1.2.1) rfl|exact (h_.1.1.2.1) rfl|exact (h_.2.2) rfl|exact (h_.1.2.2) rfl|exact (h_.1.1.2.2) rfl)
             rw [← Ny228.out] at ho
             have n0_:=mk_ (Kd.R_after (ok:=(fun k_ => some k_ ≠ (.slice Ao22 x8_1.length co22 : Value).ownBlock ∧ some k_ ≠ (v233 : Value).ownBlock)) (qr_ HO_5) hg hat)
             have n1_:=mk_ (Kd.R_over' (qr_ HO_6) (Kd.R_typed (qr_ HO227)) (by decide) hg)
             have n2_:=mk_ (Kd.R_over' (qr_ HO_7) (Kd.R_typed (qr_ HO227)) (by decide) hg)
             have n3_:=mk_ (Kd.R_after (ok:=(fun k_ => some k_ ≠ (.slice (some ad231) t211.length co8 : Value).ownBlock ∧ some k_ ≠ (v233 : Value).ownBlock)) (qr_ HO_8) hg hat)
             have n4_:=mk_ (Kd.R_over' (qr_ HO_35) (Kd.R_typed (qr_ HO227)) (by decide) hg)
             have n5_:=mk_ (Kd.R_after (ok:=(fun k_ => some k_ ≠ (.slice (some ad231) t211.length co8 : Value).ownBlock ∧ some k_ ≠ (.slice Ao22 x8_1.length co22 : Value).ownBlock)) (by (with_reducible repeat (first|apply ra_|apply rn_|apply rd_));exact rm_ HO234.out (fun _ hk => ⟨⟨hk.1.1.2,hk.1.2⟩,hk.2⟩)) hg hat)
             have n6_:=mk_ (hb)
             have n7_:=mk_ (ho)
             clear HO_5
             clear HO_6
             clear HO_7
             clear HO_8
             clear HO_35
             clear HO234
             clear HB
             clear HO227
             have HO_5:=n0_
             have HO_6:=n1_
             have HO_7:=n2_
             have HO_8:=n3_
             have HO_35:=n4_
             have HO234:=n5_
             have HB:=n6_
             have HO230:=n7_
             clear n0_ n1_ n2_ n3_ n4_ n5_ n6_ n7_
             clear ho hb hg hat
             refine hK.out _ _ ⟨HS0_,HS1_⟩ (fun hHeld => ?_)
             clear hK K
             refine norm_ (a':=?_) ?_ ?_
             rotate_left
             ·show Act.put _ (some 44) _ = _
              simp only [Act.put,sx_,sy_,sz_,i64_w,i32_w]
              rfl
             exact norm_ (by simp only [putAll,Act.put,sx_,sy_,sz_]) (hCont (v226,v229,v233) _ ⟨hHeld,(by (with_reducible repeat (first|apply ra_|apply rn_|apply rd_));exact rm_ HO230.out (fun _ hk => ⟨hk.2.2,⟨hk.1,hk.2.1⟩⟩)),(by (with_reducible repeat (first|apply ra_|apply rn_|apply rd_));exact rm_ HO234.out (fun _ hk => ⟨hk.2,⟨hk.1.1,hk.1.2⟩⟩)),(qr_ HO_35),(by (with_reducible repeat (first|apply ra_|apply rn_|apply rd_));exact rm_ HO_5.out (fun _ hk => ⟨hk.2,⟨hk.1.2,hk.1.1⟩⟩)),(qr_ HO_6),(by (with_reducible repeat (first|apply ra_|apply rn_|apply rd_));exact rm_ HO_7.out (fun _ hk => ⟨hk.2,hk.1⟩)),(by (with_reducible repeat (first|apply ra_|apply rn_|apply rd_));exact rm_ HO_8.out (fun _ hk => ⟨hk.2,⟨hk.1.2,hk.1.1⟩⟩)),(qb_ HB)⟩)
           rintro ⟨v226,v229,v233⟩ w29 ⟨hS_,h0_,h1_,h2_,h3_,h4_,h5_,h6_,h7_⟩
           have n0_ : Aside0 (Kd.R k35 35 w29 w.heap.size (fun k_ => some k_ ≠ (v233 : Value).ownBlock ∧ some k_ ≠ (.slice (some ad231) t211.length co8 : Value).ownBlock ∧ some k_ ≠ (.slice Ao22 x8_1.length co22 : Value).ownBlock) v229 y228):=⟨h0_⟩
           have n1_ : Aside0 (Kd.R k35 35 w29 w.heap.size (fun k_ => some k_ ≠ (v229 : Value).ownBlock ∧ some k_ ≠ (.slice (some ad231) t211.length co8 : Value).ownBlock ∧ some k_ ≠ (.slice Ao22 x8_1.length co22 : Value).ownBlock) v233 y232):=⟨h1_⟩
           have n2_ : Aside0 (Kd.R Kd.bool 4 w29 w.heap.size (fun k_ => some k_ ≠ (.slice Ao12 t217.length co12 : Value).ownBlock) (.slice (some ad224) t214.length co11) t214):=⟨h2_⟩
           have n3_ : Aside0 (Kd.R k35 35 w29 w.heap.size (fun k_ => some k_ ≠ (v229 : Value).ownBlock ∧ some k_ ≠ (v233 : Value).ownBlock ∧ some k_ ≠ (.slice Ao22 x8_1.length co22 : Value).ownBlock) (.slice (some ad231) t211.length co8) t211):=⟨h3_⟩
           have n4_ : Aside0 (Kd.R Kd.bool 4 w29 w.heap.size (fun k_ => some k_ ≠ (.slice Ao12 t217.length co12 : Value).ownBlock) (.slice (some ad224) t214.length co11) t214):=⟨h4_⟩
           have n5_ : Aside0 (Kd.R Kd.bool 4 w29 w.heap.size (fun k_ => some k_ ≠ (.slice (some ad224) t214.length co11 : Value).ownBlock ∧ some k_ ≠ (.slice (some ad224) t214.length co11 : Value).ownBlock) (.slice Ao12 t217.length co12) t217):=⟨h5_⟩
           have n6_ : Aside0 (Kd.R k35 35 w29 w.heap.size (fun k_ => some k_ ≠ (v229 : Value).ownBlock ∧ some k_ ≠ (v233 : Value).ownBlock ∧ some k_ ≠ (.slice (some ad231) t211.length co8 : Value).ownBlock) (.slice Ao22 x8_1.length co22) x8_1):=⟨h6_⟩
           have n7_ : Aside0 (Below w.heap.size w w29):=⟨h7_⟩
           clear HO_5
           clear HO_6
           clear HO_7
           clear HO_8
           clear HO_35
           clear HB
           clear h0_ h1_ h2_ h3_ h4_ h5_ h6_ h7_
           have HO230:=n0_
           have HO234:=n1_
           have HO_35:=n2_
           have HO_5:=n3_
           have HO_6:=n4_
           have HO_7:=n5_
           have HO_8:=n6_
           have HB:=n7_
           clear n0_ n1_ n2_ n3_ n4_ n5_ n6_ n7_
           have hHeld : w29.cell? (ad231.add ((x37_1).toNat * 2)) = some (.int .i64 ((rd_T35 t211 x37_1).f0)) ∧ w29.cell? ⟨(ad231.add ((x37_1).toNat * 2)).block,(ad231.add ((x37_1).toNat * 2)).off + 1,none⟩ = some (.int .i64 ((rd_T35 t211 x37_1).f1)):=hS_
           obtain ⟨Ao31,co31,eo31⟩:=Kd.R_slice HO234.out
           (first|subst eo31|(injection eo31 with f1_ f2_ f3_;have f4_:=f1_.symm;have f5_:=f3_.symm;clear f1_ f2_ f3_;subst f4_;subst f5_))
           refine norm_ (a':=?_) ?_ ?_
           rotate_left
           ·simp only [putAll,Act.put,sx_,sy_,sz_]
            rfl
           refine one_ (i:=8) (N:=some 50) #[true,true,true,true,true,true,true,true,true,false] rfl rfl (one_of HT_.out (by kernel_rfl)) (by decide) (fun K hK => ?_)
           refine Kd.R_append_rows_step k35 (w0:=w) w.heap.size (by rfl) (.tmp 44) (.tmp 49) 25 35 (.agg #[(.int .i64 0),(.int .i64 0)]) 16 rfl Try.underlying25 info35 rfl (by decide) (by omega) v229 y228 y232 _ _ _ (fun k_ => some k_ ≠ (.slice (some ad231) t211.length co8 : Value).ownBlock ∧ some k_ ≠ (.slice Ao22 x8_1.length co22 : Value).ownBlock ∧ some k_ ≠ (.slice Ao31 y232.length co31 : Value).ownBlock) (fun _ => False) rfl rfl ?aO ?aR (fun _ _ h => h) (fun _ h => h.elim) ?aF ?aB ?aS ?aL ?_
           (case aR => repeat (first|exact (rr_ HO234.out).2.2|(with_reducible refine ca_ ?_ _)|(with_reducible refine cn_ ?_ _)|(with_reducible refine cd_ ?_)))
           (case aB => exact (qb_ HB))
           (case aF => exact (fun k_ hk => ⟨Kd.fresh' (Kd.R_lt (qr_ HO_5)) k_ hk,Kd.fresh' (Kd.R_lt (qr_ HO_8)) k_ hk,Kd.fresh' (Kd.R_lt (qr_ HO234)) k_ hk⟩))
           (case aO => exact (by (with_reducible repeat (first|apply ra_|apply rn_|apply rd_));exact rm_ HO230.out (fun _ hk => ⟨hk.2.1,⟨hk.2.2,hk.1⟩⟩)))
           (case aS => exact (bz_ (qb_ HB)))
           (case aL => have:=LMc20.out;omega)
           intro v236 w30 ho hb hg hat
           have HS0_:=cell_grown hg (hHeld.1) (by (first|rw [add_block]|(show some (Addr.add _ _).block ≠ _;rw [add_block])|skip);intro e_;have h_:=HO230.out.1 _ e_.symm;first|exact (h_.2) rfl|exact (h_.1.2) rfl|exact (h_.1.1.2) rfl|exact (h_.1.1.1.2) rfl|exact (h_.1.1.1.1.2) rfl|exact (h_.1.1.1.1.1.2) rfl|exact (h_) rfl|exact (h_.1) rfl|exact (h_.1.1) rfl|exact (h_.1.1.1) rfl|exact (h_.1.1.1.1) rfl|exact (h_.1.1.1.1.1) rfl|exact (h_.1.1.1.1.1.1) rfl|exact (h_.2.1) rfl|exact (h_.1.2.1) rfl|exact (h_.1.1.2.1) rfl|exact (h_.2.2) rfl|exact (h_.1.2.2) rfl|exact (h_.1.1.2.2) rfl)
           have HS1_:=cell_grown hg (hHeld.2) (by (first|rw [add_block]|(show some (Addr.add _ _).block ≠ _;rw [add_block])|skip);intro e_;have h_:=HO230.out.1 _ e_.symm;first|exact (h_.2) rfl|exact (h_.1.2) rfl|exact (h_.1.1.2) rfl|exact (h_.1.1.1.2) rfl|exact (h_.1.1.1.1.2) rfl|exact (h_.1.1.1.1.1.2) rfl|exact (h_) rfl|exact (h_.1) rfl|exact (h_.1.1) rfl|exact (h_.1.1.1) rfl|exact (h_.1.1.1.1) rfl|exact (h_.1.1.1.1.1) rfl|exact (h_.1.1.1.1.1.1) rfl|exact (h_.2.1) rfl|exact (h_.1.2.1) rfl|exact (h_.1.1.2.1) rfl|exact (h_.2.2) rfl|exact (h_.1.2.2) rfl|exact (h_.1.1.2.2) rfl)
           rw [← Ny235.out] at ho
           have n0_:=mk_ (Kd.R_after (ok:=(fun k_ => some k_ ≠ (.slice Ao22 x8_1.length co22 : Value).ownBlock ∧ some k_ ≠ (.slice Ao31 y232.length co31 : Value).ownBlock)) (by (with_reducible repeat (first|apply ra_|apply rn_|apply rd_));exact rm_ HO_5.out (fun _ hk => ⟨⟨hk.2.2,hk.2.1⟩,hk.1⟩)) hg hat)
           have n1_:=mk_ (Kd.R_over' (qr_ HO_6) (Kd.R_typed (qr_ HO230)) (by decide) hg)
           have n2_:=mk_ (Kd.R_over' (qr_ HO_7) (Kd.R_typed (qr_ HO230)) (by decide) hg)
           have n3_:=mk_ (Kd.R_after (ok:=(fun k_ => some k_ ≠ (.slice (some ad231) t211.length co8 : Value).ownBlock ∧ some k_ ≠ (.slice Ao31 y232.length co31 : Value).ownBlock)) (by (with_reducible repeat (first|apply ra_|apply rn_|apply rd_));exact rm_ HO_8.out (fun _ hk => ⟨⟨hk.2.2,hk.2.1⟩,hk.1⟩)) hg hat)
           have n4_:=mk_ (Kd.R_over' (qr_ HO_35) (Kd.R_typed (qr_ HO230)) (by decide) hg)
           have n5_:=mk_ (Kd.R_after (ok:=(fun k_ => some k_ ≠ (.slice (some ad231) t211.length co8 : Value).ownBlock ∧ some k_ ≠ (.slice Ao22 x8_1.length co22 : Value).ownBlock)) (by (with_reducible repeat (first|apply ra_|apply rn_|apply rd_));exact rm_ HO234.out (fun _ hk => ⟨⟨hk.2.1,hk.2.2⟩,hk.1⟩)) hg hat)
           have n6_:=mk_ (hb)
           have n7_:=mk_ (ho)
           clear HO_5
           clear HO_6
           clear HO_7
           clear HO_8
           clear HO_35
           clear HO234
           clear HB
           clear HO230
           have HO_5:=n0_
           have HO_6:=n1_
           have HO_7:=n2_
           have HO_8:=n3_
           have HO_35:=n4_
           have HO234:=n5_
           have HB:=n6_
           have HO237:=n7_
           clear n0_ n1_ n2_ n3_ n4_ n5_ n6_ n7_
           clear ho hb hg hat
           refine hK.out _ _ ⟨HS0_,HS1_⟩ (fun hHeld => ?_)
           clear hK K
           refine norm_ (a':=?_) ?_ ?_
           rotate_left
           ·show Act.put _ (some 50) _ = _
            simp only [Act.put,sx_,sy_,sz_,i64_w,i32_w]
            rfl
           refine pure_ (i:=9) (N:=some 11) (v:=?_) (a':=?_) #[true,true,true,true,true,true,true,true,true,true] rfl rfl (any_of HT_.out (by kernel_rfl)) (fun _ _ _ h => h) (Or.inl ⟨by rfl,?_⟩) ?_ ?_
           rotate_left
           ·intro w'
            go_simp
            with_reducible rfl
           rotate_left
           ·simp only [Act.put,sx_,sy_,sz_,i64_w,i32_w]
            rfl
           refine done_ (done_of HT_.out (by kernel_rfl)) ?_
           go_upto_region 13 with (fail)
           go_cut [64] (fun v64 wc => ∃ (kq : Nat) (x64_20 : Bool),v64 = .bool x64_20 ∧ Aside0 (laws_FnPolice.j1 kq t209 t210 t211 t214 t217 x8_1 (rdOf false t214 x37_1) y235 t214 (t214.length : Int) x37_1 x64_20 = some r) ∧ Aside0 (kq ≤ k1) ∧ Aside0 (Kd.R k35 35 wc w.heap.size (fun k_ => some k_ ≠ ((.slice Ao22 x8_1.length co22) : Value).ownBlock ∧ some k_ ≠ (v236 : Value).ownBlock) (.slice (some ad231) t211.length co8) t211) ∧ Aside0 (Kd.R Kd.bool 4 wc w.heap.size (fun k_ => some k_ ≠ ((.slice Ao12 t217.length co12) : Value).ownBlock) (.slice (some ad224) t214.length co11) t214) ∧ Aside0 (Kd.R Kd.bool 4 wc w.heap.size (fun k_ => some k_ ≠ ((.slice (some ad224) t214.length co11) : Value).ownBlock ∧ some k_ ≠ ((.slice (some ad224) t214.length co11) : Value).ownBlock) (.slice Ao12 t217.length co12) t217) ∧ Aside0 (Kd.R k35 35 wc w.heap.size (fun k_ => some k_ ≠ ((.slice (some ad231) t211.length co8) : Value).ownBlock ∧ some k_ ≠ (v236 : Value).ownBlock) (.slice Ao22 x8_1.length co22) x8_1) ∧ Aside0 (Kd.R k35 35 wc w.heap.size (fun k_ => some k_ ≠ ((.slice (some ad231) t211.length co8) : Value).ownBlock ∧ some k_ ≠ ((.slice Ao22 x8_1.length co22) : Value).ownBlock) v236 y235) ∧ Aside0 (Kd.R Kd.bool 4 wc w.heap.size (fun k_ => some k_ ≠ ((.slice Ao12 t217.length co12) : Value).ownBlock) (.slice (some ad224) t214.length co11) t214) ∧ Aside0 (Below w.heap.size w wc))
           case first =>
            have H:=HC21.out
            clear HC21
            by_cases c32 : x37_1 < (t217.length : Int)
            ·rw [if_pos c32] at H
             have c32b0 : decide (x37_1 < (t217.length : Int)) = true:=decide_eq_true c32
             clear c32
             (first|rw [c32b0]|(simp only [i64_w,i32_w];rw [c32b0])|skip)
             by_cases c33 : ((rdOf false t214 x37_1) != (rdOf false t217 x37_1)) = true
             ·rw [if_pos c33] at H
              have c33b0 : ((rdOf false t214 x37_1) != (rdOf false t217 x37_1)) = true:=c33
              (try (have c33b1 : decide ((rdOf false t214 x37_1) = (rdOf false t217 x37_1)) = false:=by simpa using c33))
              (try (have c33b2 : ((rdOf false t214 x37_1) == (rdOf false t217 x37_1)) = false:=by simpa using c33))
              (try (have c33b3 : ¬ ((rdOf false t214 x37_1) = (rdOf false t217 x37_1)):=by simpa using c33))
              clear c33
              have H':=mk_ H
              clear H
              have p238 : 0 ≤ (x37_1 : Int):=od_ qa_
              have q238 : x37_1 < (t217.length : Int):=od_ qa_
              obtain ⟨ad238,e238,hx238_0⟩:=Kd.at_bool (rr_ HO_7.out).2.2 x37_1 p238 q238
              cases e238
              replace p238:=eq_true p238
              replace q238:=eq_true q238
              go_wp2
              go_meet
              case rel => exact ⟨_,(true),qf_,H',⟨by have:=HK1.out;first|omega|exact Nat.le_refl _⟩,⟨by (with_reducible repeat (first|apply ra_|apply rn_|apply rd_));exact rm_ HO_5.out (fun _ hk => ⟨hk.1.1,hk.2⟩)⟩,⟨qr_ HO_6⟩,⟨by (with_reducible repeat (first|apply ra_|apply rn_|apply rd_));exact rm_ HO_7.out (fun _ hk => ⟨hk.2,hk.1⟩)⟩,⟨by (with_reducible repeat (first|apply ra_|apply rn_|apply rd_));exact rm_ HO_8.out (fun _ hk => ⟨hk.1.1,hk.2⟩)⟩,⟨by (with_reducible repeat (first|apply ra_|apply rn_|apply rd_));exact rm_ HO237.out (fun _ hk => ⟨hk.1,hk.2.1⟩)⟩,⟨qr_ HO_35⟩,⟨u3_ HB⟩⟩
             ·rw [if_neg c33] at H
              have c33b0 : ((rdOf false t214 x37_1) != (rdOf false t217 x37_1)) = false:=by simpa using c33
              (try (have c33b1 : decide ((rdOf false t214 x37_1) = (rdOf false t217 x37_1)) = true:=by simpa using c33))
              (try (have c33b2 : ((rdOf false t214 x37_1) == (rdOf false t217 x37_1)) = true:=by simpa using c33))
              clear c33
              replace H:=Option.bind_eq_some_iff.mp H
              obtain ⟨t239,A340,H⟩:=H
              replace H : (laws_FnPolice.j1 k1 t209 t210 t211 t214 t217 x8_1 (rdOf false t214 x37_1) y235 t214 (t214.length : Int) x37_1 (t239 != (rdOf false t214 x37_1))) = some r:=H
              have A34:=mk_ A340
              clear A340
              have H':=mk_ H
              clear H
              have p238 : 0 ≤ (x37_1 : Int):=od_ qa_
              have q238 : x37_1 < (t217.length : Int):=od_ qa_
              obtain ⟨ad238,e238,hx238_0⟩:=Kd.at_bool (rr_ HO_7.out).2.2 x37_1 p238 q238
              cases e238
              replace p238:=eq_true p238
              replace q238:=eq_true q238
              obtain ⟨Ao35,co35,eo35⟩:=Kd.R_slice HO237.out
              subst eo35
              go_wp2_with (first|(go_at_call 22;(with_reducible refine (impl_Conforms.calls t209 t210 _ _ y235 t239 _ ?side1 ?side2 A34.out).mono ?_);(case side1 => repeat (first|exact (rr_ HO237.out).2.2|(with_reducible refine ca_ ?_ _)|(with_reducible refine cn_ ?_ _)|(with_reducible refine cd_ ?_)));(case side2 => exact (rr_ HO237.out).2.1);rintro e w36 ⟨rfl,hb⟩;have n0_:=mk_ (rb_ (qr_ HO_5) hb);have n1_:=mk_ (rb_ (qr_ HO_6) hb);have n2_:=mk_ (rb_ (qr_ HO_7) hb);have n3_:=mk_ (rb_ (qr_ HO_8) hb);have n4_:=mk_ (rb_ (qr_ HO_35) hb);have n5_:=mk_ (rb_ (qr_ HO234) hb);have n6_:=mk_ (rb_ (qr_ HO237) hb);have n7_:=mk_ (st_ (qb_ HB) hb);clear HO_5 HO_6 HO_7 HO_8 HO_35 HO234 HO237 HB;have HO_5:=n0_;have HO_6:=n1_;have HO_7:=n2_;have HO_8:=n3_;have HO_35:=n4_;have HO234:=n5_;have HO237:=n6_;have HB:=n7_;clear n0_ n1_ n2_ n3_ n4_ n5_ n6_ n7_;(try clear hb);(try clear hb2);(try clear hk);(try clear hi)))
              go_meet
              case rel => exact ⟨_,((t239 != (rdOf false t214 x37_1))),qf_,H',⟨by have:=HK1.out;first|omega|exact Nat.le_refl _⟩,⟨by (with_reducible repeat (first|apply ra_|apply rn_|apply rd_));exact rm_ HO_5.out (fun _ hk => ⟨hk.1.1,hk.2⟩)⟩,⟨qr_ HO_6⟩,⟨by (with_reducible repeat (first|apply ra_|apply rn_|apply rd_));exact rm_ HO_7.out (fun _ hk => ⟨hk.2,hk.1⟩)⟩,⟨by (with_reducible repeat (first|apply ra_|apply rn_|apply rd_));exact rm_ HO_8.out (fun _ hk => ⟨hk.1.1,hk.2⟩)⟩,⟨by (with_reducible repeat (first|apply ra_|apply rn_|apply rd_));exact rm_ HO237.out (fun _ hk => ⟨hk.1,hk.2.1⟩)⟩,⟨qr_ HO_35⟩,⟨u3_ HB⟩⟩
            ·rw [if_neg c32] at H
             exact absurd H (by simp)
           case rest =>
            clear HC21
            try clear c1
            try clear c2
            try clear p2
            try clear q2
            try clear hx2
            try clear c3
            try clear c4
            try clear c6
            try clear c6b0
            try clear c6b1
            try clear c6b2
            try clear c15
            try clear c15b0
            try clear c16
            try clear c16b0
            try clear c17
            try clear c17b0
            try clear c18
            try clear c19
            try clear c19b0
            try clear c20
            try clear p22
            try clear q22
            try clear hx22
            try clear p23
            try clear q23
            try clear hx23
            try clear c32
            try clear c32b0
            try clear c33
            try clear c33b0
            try clear c33b1
            try clear c33b2
            try clear hx224_0
            try clear hx231_0
            try clear hx231_1
            try clear hx238_0
            try clear p224
            try clear p231
            try clear p238
            try clear q224
            try clear q231
            try clear q238
            obtain ⟨kq,x64_20,rfl,HA,HJ20,HO_5,HO_6,HO_7,HO_8,HO_11,HO_35,HB⟩:=hcut
            cases kq with
            | zero => exact absurd HA.out (by simp [laws_FnPolice.j1])
            | succ kj20 =>
             have H:=HA.out
             clear HA
             simp only [laws_FnPolice.j1] at H
             by_cases c37 : x64_20 = true
             ·subst c37
              have H1 : (some false) = some r:=by rw [if_pos rfl] at H;exact H
              clear H
              have H:=H1
              clear H1
              obtain rfl:=Option.some.inj H
              go_wp2
              go_ret
              exact ⟨qe_,u3_ HB⟩
             ·replace c37:=Bool.eq_false_iff.mpr c37
              subst c37
              have H1 : (if (rdOf false t214 x37_1) = true then (laws_FnPolice.l0 kj20 t209 t210 t211 t214 t217 y235 t214 (t214.length : Int) (wrap64 (x37_1 + 1))) else (laws_FnPolice.l0 kj20 t209 t210 t211 t214 t217 x8_1 t214 (t214.length : Int) (wrap64 (x37_1 + 1)))) = some r:=by rw [if_neg (show ¬ (false = true) by decide)] at H;exact H
              clear H
              have H:=H1
              clear H1
              obtain ⟨bq38,hbq38⟩ : ∃ b_ : Bool,b_ = (rdOf false t214 x37_1):=⟨_,rfl⟩
              replace H : (if (bq38) = true then (laws_FnPolice.l0 kj20 t209 t210 t211 t214 t217 y235 t214 (t214.length : Int) (wrap64 (x37_1 + 1))) else (laws_FnPolice.l0 kj20 t209 t210 t211 t214 t217 x8_1 t214 (t214.length : Int) (wrap64 (x37_1 + 1)))) = some r:=by rw [← hbq38] at H;exact H
              have Nbq38:=mk_ hbq38
              clear hbq38
              by_cases c39 : (bq38) = true
              ·rw [if_pos c39] at H
               have c39b0 : (bq38) = true:=c39
               have c39b9 : rdOf false t214 x37_1 = true:=by rw [← Nbq38.out];exact c39b0
               clear c39
               have H':=mk_ H
               clear H
               try simp only [c39b9]
               go_wp2
               go_roundg kj20
               case measure => have:=HK1.out;have:=HJ20.out;omega
               case rel => exact ⟨(y235),(wrap64 (x37_1 + 1)),qf_,H',⟨by have:=HK1.out;have:=HJ20.out;omega⟩,⟨by (with_reducible repeat (first|apply ra_|apply rn_|apply rd_));exact rm_ HO_5.out (λ_ h=>h.2)⟩,⟨qr_ HO_6⟩,⟨qr_ HO_7⟩,⟨by (with_reducible repeat (first|apply ra_|apply rn_|apply rd_));exact rm_ HO_11.out (fun _ hk => hk.1)⟩,⟨qr_ HO_35⟩,⟨u3_ HB⟩⟩
              ·rw [if_neg c39] at H
               have c39b0 : (bq38) = false:=by simpa using c39
               have c39b9 : rdOf false t214 x37_1 = false:=by rw [← Nbq38.out];exact c39b0
               clear c39
               have H':=mk_ H
               clear H
               try simp only [c39b9]
               go_wp2
               go_roundg kj20
               case measure => have:=HK1.out;have:=HJ20.out;omega
               case rel => exact ⟨(x8_1),(wrap64 (x37_1 + 1)),qf_,H',⟨by have:=HK1.out;have:=HJ20.out;omega⟩,⟨by (with_reducible repeat (first|apply ra_|apply rn_|apply rd_));exact rm_ HO_5.out (fun _ hk => hk.1)⟩,⟨qr_ HO_6⟩,⟨qr_ HO_7⟩,⟨by (with_reducible repeat (first|apply ra_|apply rn_|apply rd_));exact rm_ HO_8.out (fun _ hk => hk.1)⟩,⟨qr_ HO_35⟩,⟨u3_ HB⟩⟩
          ·rw [if_neg c20] at H
           exact absurd H (by simp)
         ·rw [if_neg c19] at H
          exact absurd H (by simp)
        ·rw [if_neg c18] at H
         exact absurd H (by simp)
       ·rw [if_neg c17] at H
        exact absurd H (by simp)
      ·rw [if_neg c16] at H
       exact absurd H (by simp)
     ·rw [if_neg c15] at H
      have c15b0 : decide (x37_1 < (t214.length : Int)) = false:=decide_eq_false c15
      clear c15
      by_cases c40 : (t214.length : Int) = 0
      ·rw [if_pos c40] at H
       have c40b0 : ((t214.length : Int) == 0) = true:=beq_iff_eq.mpr c40
       have c40b1 : ((t214.length : Int) != 0) = false:=bne_eq_false_iff_eq.mpr c40
       clear c40
       obtain rfl:=Option.some.inj H
       go_wp2
       go_ret
       exact ⟨qe_,u3_ HB⟩
      ·rw [if_neg c40] at H
       have c40b0 : ((t214.length : Int) == 0) = false:=beq_eq_false_iff_ne.mpr c40
       have c40b1 : ((t214.length : Int) != 0) = true:=bne_iff_ne.mpr c40
       have c40b2 : ¬ (t214 = []):=fun h_ => c40 (by rw [h_];rfl)
       replace H:=Option.bind_eq_some_iff.mp H
       obtain ⟨t223,A410,H⟩:=H
       replace H : (some t223) = some r:=H
       have A41:=mk_ A410
       clear A410
       obtain rfl:=Option.some.inj H
       obtain ⟨Ao42,co42,eo42⟩:=Kd.R_slice HO_8.out
       subst eo42
       go_wp2_with (first|(go_at_call 22;(with_reducible refine (impl_Conforms.calls t209 t210 _ _ x8_1 t223 _ ?side1 ?side2 A41.out).mono ?_);(case side1 => repeat (first|exact (rr_ HO_8.out).2.2|(with_reducible refine ca_ ?_ _)|(with_reducible refine cn_ ?_ _)|(with_reducible refine cd_ ?_)));(case side2 => exact (rr_ HO_8.out).2.1);rintro e w43 ⟨rfl,hb⟩;have n0_:=mk_ (rb_ (qr_ HO_5) hb);have n1_:=mk_ (rb_ (qr_ HO_6) hb);have n2_:=mk_ (rb_ (qr_ HO_7) hb);have n3_:=mk_ (rb_ (qr_ HO_8) hb);have n4_:=mk_ (rb_ (qr_ HO_35) hb);have n5_:=mk_ (st_ (qb_ HB) hb);clear HO_5 HO_6 HO_7 HO_8 HO_35 HB;have HO_5:=n0_;have HO_6:=n1_;have HO_7:=n2_;have HO_8:=n3_;have HO_35:=n4_;have HB:=n5_;clear n0_ n1_ n2_ n3_ n4_ n5_;(try clear hb);(try clear hb2);(try clear hk);(try clear hi)))
       go_ret
       exact ⟨qe_,u3_ HB⟩
  ·rw [if_neg c6] at H
   have c6b0 : ((t214.length : Int) == (t217.length : Int)) = false:=beq_eq_false_iff_ne.mpr c6
   have c6b1 : ((t214.length : Int) != (t217.length : Int)) = true:=bne_iff_ne.mpr c6
   have c6b2 : (t214.length == t217.length) = false:=by first|simpa using c6|(simp at c6 ⊢;omega)
   obtain rfl:=Option.some.inj H
   go_enter Try.func4,Try.ntmps4
   go_wp2_with (first|((with_reducible refine gate_callee (f:=19) rfl ?_);refine goesL_ (some 17) rfl rfl Try.func19 (by kernel_rfl) rfl #[.slice A0 l0.length c0] rfl qm_ ?_;(with_reducible refine (spec_DrawPolicePulses.calls k _ _ l0 t209 t210 t211 _ ?side1 ?side2 A3.out).mono ?_);(case side1 => repeat (first|exact HR0.out|(with_reducible refine ca_ ?_ _)|(with_reducible refine cn_ ?_ _)|(with_reducible refine cd_ ?_)));(case side2 => exact HC0.out);rintro e w44 ⟨v212,rfl,ho0,hb⟩;refine ⟨_,rfl,?_⟩;have n0_:=mk_ (Kd.R_lower ho0 (bz_ (qb_ HB)));have n1_:=mk_ (st_ (qb_ HB) hb);clear HB;have HO213:=n0_;have HB:=n1_;clear n0_ n1_;(try clear hb);(try clear hb2);(try clear hk);(try clear hi);(try clear ho0);obtain ⟨Ao45,co45,eo45⟩:=Kd.R_slice HO213.out;subst eo45)|((with_reducible refine gate_callee (f:=20) rfl ?_);refine goesL_ (some 24) rfl rfl Try.func20 (by kernel_rfl) rfl #[.int .i64 t209,.int .i64 t210,.slice Ao45 t211.length co45] rfl qm_ ?_;(with_reducible refine (impl_PolicePulses.calls t209 t210 _ _ t211 t214 _ ?side1 ?side2 A4.out).mono ?_);(case side1 => repeat (first|exact (rr_ HO213.out).2.2|(with_reducible refine ca_ ?_ _)|(with_reducible refine cn_ ?_ _)|(with_reducible refine cd_ ?_)));(case side2 => exact (rr_ HO213.out).2.1);rintro e w46 ⟨v215,rfl,ho0,hb⟩;refine ⟨_,rfl,?_⟩;have n0_:=mk_ (rb_ (qr_ HO213) hb);have n1_:=mk_ (Kd.R_lower ho0 (bz_ (qb_ HB)));have n2_:=mk_ (st_ (qb_ HB) hb);clear HO213 HB;have HO213:=n0_;have HO216:=n1_;have HB:=n2_;clear n0_ n1_ n2_;(try clear hb);(try clear hb2);(try clear hk);(try clear hi);(try clear ho0))|((with_reducible refine gate_callee (f:=21) rfl ?_);refine goesL_ (some 28) rfl rfl Try.func21 (by kernel_rfl) rfl #[.int .i64 t209,.int .i64 t210,.slice Ao45 t211.length co45] rfl qm_ ?_;(with_reducible refine (spec_PolicePulses.calls k t209 t210 _ _ t211 t217 _ ?side1 ?side2 A5.out).mono ?_);(case side1 => repeat (first|exact (rr_ HO213.out).2.2|(with_reducible refine ca_ ?_ _)|(with_reducible refine cn_ ?_ _)|(with_reducible refine cd_ ?_)));(case side2 => exact (rr_ HO213.out).2.1);rintro e w47 ⟨v218,rfl,ho0,hb⟩;refine ⟨_,rfl,?_⟩;have n0_:=mk_ (rb_ (qr_ HO213) hb);have n1_:=mk_ (re_ (qr_ HO216) (Kd.R_base ho0) hb);have n2_:=mk_ (Kd.R_lower (Kd.R_new' ho0 (Kd.R_lt (qr_ HO216))) (bz_ (qb_ HB)));have n3_:=mk_ (st_ (qb_ HB) hb);clear HO213 HO216 HB;have HO213:=n0_;have HO216:=n1_;have HO219:=n2_;have HB:=n3_;clear n0_ n1_ n2_ n3_;(try clear hb);(try clear hb2);(try clear hk);(try clear hi);(try clear ho0);obtain ⟨Ao48,co48,eo48⟩:=Kd.R_slice HO216.out;subst eo48;obtain ⟨Ao49,co49,eo49⟩:=Kd.R_slice HO219.out;subst eo49))
   go_ret
   exact ⟨qe_,u3_ HB⟩

/-- THE ONE PURE STATEMENT of laws_FnPolice: yours. -/
def laws_FnPolice.Pure : Prop:=∀ (l0 : List Int),l0.length ≤ maxLen → l0.length * 1 ≤ 140737488351232 → (∀ x ∈ l0,(Lit.int .u8 x).wf = true) → ∃ k,laws_FnPolice.f k l0 = some true
theorem laws_FnPolice.walk (P : laws_FnPolice.Pure) (a0 : Option Addr) (len0 cap0 : Nat) (z0 : List Int) (w : World) (w0 : (a0 = none ∧ len0 = 0 ∧ cap0 = 0 ∧ z0 = []) ∨ ∃ x,a0 = some x ∧ len0 ≤ cap0 ∧ cap0 ≤ maxLen ∧ z0.length = cap0 ∧ (∀ i,i < z0.length → w.cell? (x.add i) = some (.int .u8 (z0.getD i 0))) ∧ ∀ n ∈ z0,(Lit.int .u8 n).wf = true) (y0 : len0 * 1 ≤ 140737488351232) :
  Calls Try.prog 4 #[.slice a0 len0 cap0] w fun e w' => e = .returned (.bool true) ∧ Below w.heap.size w w':=by
 obtain ⟨l0,rfl,hr0,hm0,hw0,hc0⟩:=ReadsInt.ofRowC w0
 obtain ⟨k,h⟩:=P l0 hm0 y0 hw0
 refine (laws_FnPolice.calls k _ _ l0 true w (Kd.C_of_reads (d:=(0 : Int)) (h1:=fun _ => rfl) hr0) hc0 h).mono ?_
 rintro e w' ⟨rfl,hd⟩
 exact ⟨rfl,hd⟩

-- LIB p14
theorem l1InP_eq (n a b : Int) : spec_l1In.f n a b = some (decide (a ≤ n) && decide (n ≤ b)):=by
  unfold spec_l1In.f
  by_cases h : n ≥ a
  · rw [if_pos h,decide_eq_true (show a ≤ n from h),Bool.true_and]
  · rw [if_neg h,decide_eq_false (show ¬ a ≤ n from h),Bool.false_and]
theorem spulses_at (l : List S35) (hl : l.length ≤ 9223372036854775807) (d : Nat) : ∀ (k i : Nat),1 ≤ i → i + d = l.length → d < k → spec_PulsesValid.l0 k l (i : Int) = some ((l.drop i).all pulseB && nondec (l.drop (i - 1)) && decide (l.length ≤ 60)):=by
  induction d with
  | zero =>
    intro k i h1 h2 hk
    obtain ⟨k,rfl⟩ : ∃ m,k = m + 1:=⟨k - 1,by omega⟩
    simp only [spec_PulsesValid.l0]
    have e1 : l.drop i = []:=by rw [show i = l.length by omega,List.drop_length]
    have e2 : l.drop (i - 1 + 1) = []:=by rw [show i - 1 + 1 = l.length by omega,List.drop_length]
    have e3 : ((l.length : Int) ≤ 60) = (l.length ≤ 60):=by apply propext;omega
    rw [if_neg (by omega),e1,List.drop_eq_getElem_cons (show i - 1 < l.length by omega),e2]
    simp [nondec,e3]
  | succ d ih =>
    intro k i h1 h2 hk
    obtain ⟨k,rfl⟩ : ∃ m,k = m + 1:=⟨k - 1,by omega⟩
    have e1 : wrap64 ((i : Int) - 1) = ((i - 1 : Nat) : Int):=by unfold wrap64;omega
    have ih':=ih k (i + 1) (by omega) (by omega) (by omega)
    simp only [spec_PulsesValid.l0]
    rw [e1,wrap_succ (show i < l.length by omega) (by omega),if_pos (by omega),if_pos (by omega),if_pos (show (i : Int) > 0 by omega),if_pos (by omega),if_pos (by omega),ih',l1InP_eq,l1InP_eq]
    rw [rdP_get l i (by omega),rdP_get l (i - 1) (by omega),List.drop_eq_getElem_cons (show i - 1 < l.length by omega),show i - 1 + 1 = i by omega,List.drop_eq_getElem_cons (show i < l.length by omega),nondec,show i + 1 - 1 = i by omega,List.drop_eq_getElem_cons (show i < l.length by omega)]
    simp only [Option.bind_some,List.all_cons]
    have hp : pulseB l[i] = ((decide (0 ≤ l[i].f0) && decide (l[i].f0 ≤ 2000)) && (decide (1 ≤ l[i].f1) && decide (l[i].f1 ≤ 50))):=rfl
    rw [hp]
    cases c1 : (decide (0 ≤ l[i].f0) && decide (l[i].f0 ≤ 2000)) with
    | false => rw [if_neg (by decide)];simp
    | true =>
      rw [if_pos rfl]
      cases c2 : (decide (1 ≤ l[i].f1) && decide (l[i].f1 ≤ 50)) with
      | false => rw [if_neg (by decide)];simp
      | true =>
        rw [if_pos rfl]
        by_cases c : l[i - 1].f0 > l[i].f0
        · rw [if_pos c,decide_eq_false (show ¬ l[i - 1].f0 ≤ l[i].f0 by omega)];simp
        · rw [if_neg c,decide_eq_true (show l[i - 1].f0 ≤ l[i].f0 by omega)];simp
theorem spulses_eq (l : List S35) (hl : l.length ≤ 9223372036854775807) (k : Nat) (hk : l.length < k) : spec_PulsesValid.f k l = some (pvB l):=by
  unfold spec_PulsesValid.f pvB
  obtain ⟨k,rfl⟩ : ∃ m,k = m + 1:=⟨k - 1,by omega⟩
  simp only [spec_PulsesValid.l0]
  match l,hl,hk with
  | [],_,_ => rfl
  | x :: t,hl,hk =>
    have h1:=spulses_at (x :: t) hl t.length k 1 (by omega) (by simp;omega) (by simp at hk;omega)
    have hx : rd_T35 (x :: t) 0 = x:=rfl
    rw [if_pos (by simp only [List.length_cons];omega),if_pos (by omega),l1InP_eq,l1InP_eq,hx]
    simp only [Option.bind_some,List.all_cons]
    have hp : pulseB x = ((decide (0 ≤ x.f0) && decide (x.f0 ≤ 2000)) && (decide (1 ≤ x.f1) && decide (x.f1 ≤ 50))):=rfl
    rw [hp]
    cases c1 : (decide (0 ≤ x.f0) && decide (x.f0 ≤ 2000)) with
    | false => rw [if_neg (by decide)];simp
    | true =>
      rw [if_pos rfl]
      cases c2 : (decide (1 ≤ x.f1) && decide (x.f1 ≤ 50)) with
      | false => rw [if_neg (by decide)];simp
      | true =>
        rw [if_pos rfl,if_neg (by decide),wrap_eq (by decide) (by decide)]
        refine Eq.trans h1 ?_
        simp only [List.drop_succ_cons,List.drop_zero,Nat.sub_self,Bool.true_and]
theorem sfits_eq (r b : Int) (l : List S35) (hl : l.length ≤ 9223372036854775807) (k : Nat) (hk : l.length < k) : spec_l14Fits.f k r b l = some (fitsB r b l):=by
  unfold spec_l14Fits.f fitsB
  rw [l1InP_eq,l1InP_eq,spulses_eq l hl k hk]
  simp only [Option.bind_some]
  cases (decide (1 ≤ r) && decide (r ≤ 20)) <;> cases (decide (1 ≤ b) && decide (b ≤ 100)) <;> cases pvB l <;> rfl
theorem spol_at (r b : Int) (l : List S35) (hl : l.length ≤ 100000) (d : Nat) : ∀ (k i : Nat) (out : List Bool) (T a : Int),i + d = l.length → d < k → out.length ≤ i → spec_PolicePulses.l0 k r b l out T a (i : Int) = some (out ++ polL r b T a (l.drop i)):=by
  induction d with
  | zero =>
    intro k i out T a h2 hk ho
    obtain ⟨k,rfl⟩ : ∃ m,k = m + 1:=⟨k - 1,by omega⟩
    simp only [spec_PolicePulses.l0]
    rw [if_neg (by omega),show i = l.length by omega,List.drop_length]
    simp [polL]
  | succ d ih =>
    intro k i out T a h2 hk ho
    obtain ⟨k,rfl⟩ : ∃ m,k = m + 1:=⟨k - 1,by omega⟩
    simp only [spec_PolicePulses.l0]
    have hu : mn b (wrap64 (T + wrap64 (r * wrap64 (l[i].f0 - a)))) = untilT r b T a l[i].f0:=rfl
    rw [if_pos (by omega),if_pos (by omega),rdP_get l i (by omega),wrap_succ (show i < l.length by omega) (by omega),List.drop_eq_getElem_cons (show i < l.length by omega),polL,hu]
    have hok : takeOk r b T a l[i].f0 l[i].f1 = decide (l[i].f1 ≤ untilT r b T a l[i].f0):=rfl
    have hT : takeT r b T a l[i].f0 l[i].f1 = if l[i].f1 ≤ untilT r b T a l[i].f0 then wrap64 (untilT r b T a l[i].f0 - l[i].f1) else untilT r b T a l[i].f0:=rfl
    rw [hok,hT]
    by_cases c : l[i].f1 ≤ untilT r b T a l[i].f0
    · rw [if_pos c,if_pos (by omega),ih k (i + 1) _ _ _ (by omega) (by omega) (by simp;omega),if_pos c]
      simp
    · rw [if_neg c,if_pos (by omega),ih k (i + 1) _ _ _ (by omega) (by omega) (by simp;omega),if_neg c]
      simp
theorem spol_eq (r b : Int) (l : List S35) (hl : l.length ≤ 9223372036854775807) (k : Nat) (hk : l.length < k) : spec_PolicePulses.f k r b l = some (polF r b l):=by
  unfold spec_PolicePulses.f polF
  rw [Option.bind_some,sfits_eq r b l (by omega) k hk,Option.bind_some]
  cases hf : fitsB r b l with
  | false => rw [if_neg (by decide),if_neg (by decide)]
  | true =>
    obtain ⟨_,f2,_⟩:=fitsB_facts hf
    rw [if_pos rfl,if_pos rfl]
    exact (spol_at r b l (by omega) l.length k 0 [] b 0 (by omega) (by omega) (by simp)).trans (by rw [List.drop_zero,List.nil_append])
theorem polL_len (r b : Int) (l : List S35) : ∀ T a,(polL r b T a l).length = l.length:=by
  induction l with
  | nil => intro T a;rfl
  | cons p l ih => intro T a;simp [polL,ih]
theorem iconf_eq (r b : Int) (l : List S35) : impl_Conforms.f r b l = some (confF r b l):=rfl
theorem ipol_eq (r b : Int) (l : List S35) : impl_PolicePulses.f r b l = some (polF r b l):=rfl

end Go.Proofs.Ytfbicfnokibobaa.PAll
