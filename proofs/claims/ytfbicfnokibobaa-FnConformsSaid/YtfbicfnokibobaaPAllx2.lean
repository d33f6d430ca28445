/- Proved here: contracts of functions of the given program, or lemmas on them, for the laws of this seat. Written by xprint.py, a program of this session, on the ground of the kit's print; parts by hand: wip/x/ext. -/
import Derived.Test.YtfbicfnokibobaaPAllx0
import Derived.Test.YtfbicfnokibobaaPAllx1
namespace Go.Proofs.Ytfbicfnokibobaa.PAll
open Go.RowKit Go.Proofs.YtfbicfnokibobaaW.PrintWords Go.Proofs.YtfbicfnokibobaaW.PrintLast Go.Proofs.YtfbicfnokibobaaW.PrintMore
attribute [local go_sem] max2_int min2_int max_two min_two max_three min_three max_four min_four   -- for this text's walks alone
set_option linter.unusedVariables false
set_option linter.unusedSimpArgs false

/-! ### spec_ShapePulses: function 38 -/
mutual
def spec_ShapePulses.l0 : Nat → Int → Int → List (S35) → List Int → Int → Option (List Int)
 | 0,_,_,_,_,_ => none
 | k + 1,x0,x1,x2,x7,x8 => if x8 < (x2.length : Int) then (if 0 ≤ x8 then (if ((rd_T35 x2 x8).f1) > x1 then (some x7) else (spec_ShapePulses.l0 k x0 x1 x2 x7 (wrap64 (x8 + 1)))) else (none)) else ((spec_l14Fits.f k x0 x1 x2).bind fun t139 => (if t139 = true then (spec_ShapePulses.l1 k x0 x1 x2 x7 x1 0 0) else (some x7)))
def spec_ShapePulses.l1 : Nat → Int → Int → List (S35) → List Int → Int → Int → Int → Option (List Int)
 | 0,_,_,_,_,_,_,_ => none
 | k + 1,x0,x1,x2,x7,x9,x10,x11 => if x11 < (x2.length : Int) then (if 0 ≤ x11 then (spec_ShapePulses.l2 k x0 x1 x2 x7 (mn x1 (wrap64 (x9 + (wrap64 (x0 * (wrap64 ((mx x10 ((rd_T35 x2 x11).f0)) - x10))))))) x11 (mx x10 ((rd_T35 x2 x11).f0))) else (none)) else (some x7)
def spec_ShapePulses.l2 : Nat → Int → Int → List (S35) → List Int → Int → Int → Int → Option (List Int)
 | 0,_,_,_,_,_,_,_ => none
 | k + 1,x0,x1,x2,x7,x9,x11,x12 => if 0 ≤ x11 then (if x11 < (x2.length : Int) then (if x9 < ((rd_T35 x2 x11).f1) then (spec_ShapePulses.l2 k x0 x1 x2 x7 (mn x1 (wrap64 (x9 + x0))) x11 (wrap64 (x12 + 1))) else (if x7.length < 17592186044416 then (spec_ShapePulses.l1 k x0 x1 x2 (x7 ++ [x12]) (wrap64 (x9 - ((rd_T35 x2 x11).f1))) x12 (wrap64 (x11 + 1))) else (none))) else (none)) else (none)
end
def spec_ShapePulses.f (k : Nat) (a0 : Int) (a1 : Int) (l2 : List (S35)) : Option (List Int):=spec_ShapePulses.l0 k a0 a1 l2 (([] : List Int)) 0
theorem spec_ShapePulses.mono_l : ∀ k,(∀ y0 y1 y2 y3 y4,LeO (spec_ShapePulses.l0 k y0 y1 y2 y3 y4) (spec_ShapePulses.l0 (k + 1) y0 y1 y2 y3 y4)) ∧ (∀ y0 y1 y2 y3 y4 y5 y6,LeO (spec_ShapePulses.l1 k y0 y1 y2 y3 y4 y5 y6) (spec_ShapePulses.l1 (k + 1) y0 y1 y2 y3 y4 y5 y6)) ∧ (∀ y0 y1 y2 y3 y4 y5 y6,LeO (spec_ShapePulses.l2 k y0 y1 y2 y3 y4 y5 y6) (spec_ShapePulses.l2 (k + 1) y0 y1 y2 y3 y4 y5 y6))
 | 0 => ⟨fun _ _ _ _ _ r h => by simp [spec_ShapePulses.l0] at h,fun _ _ _ _ _ _ _ r h => by simp [spec_ShapePulses.l1] at h,fun _ _ _ _ _ _ _ r h => by simp [spec_ShapePulses.l2] at h⟩
 | k + 1 => by
  obtain ⟨ih0,ih1,ih2⟩:=spec_ShapePulses.mono_l k
  refine ⟨?_,?_,?_⟩
  ·intro y0 y1 y2 y3 y4
   unfold spec_ShapePulses.l0
   repeat' first
   | (with_reducible exact ih0 _ _ _ _ _)
   | (with_reducible exact ih1 _ _ _ _ _ _ _)
   | (with_reducible exact ih2 _ _ _ _ _ _ _)
   | (with_reducible exact spec_l14Fits.mono _ _ _ _)
   | (with_reducible exact LeO.refl _)
   | (with_reducible exact LeO.none _)
   | (with_reducible refine LeO.ite ?_ ?_)
   | (with_reducible refine LeO.bind ?_ (fun _ => ?_))
   | exact ih0 _ _ _ _ _
   | exact ih1 _ _ _ _ _ _ _
   | exact ih2 _ _ _ _ _ _ _
   | exact spec_l14Fits.mono _ _ _ _
   | exact LeO.none _
   | refine LeO.ite ?_ ?_
   | refine LeO.bind ?_ (fun _ => ?_)
  ·intro y0 y1 y2 y3 y4 y5 y6
   unfold spec_ShapePulses.l1
   repeat' first
   | (with_reducible exact ih0 _ _ _ _ _)
   | (with_reducible exact ih1 _ _ _ _ _ _ _)
   | (with_reducible exact ih2 _ _ _ _ _ _ _)
   | (with_reducible exact spec_l14Fits.mono _ _ _ _)
   | (with_reducible exact LeO.refl _)
   | (with_reducible exact LeO.none _)
   | (with_reducible refine LeO.ite ?_ ?_)
   | (with_reducible refine LeO.bind ?_ (fun _ => ?_))
   | exact ih0 _ _ _ _ _
   | exact ih1 _ _ _ _ _ _ _
   | exact ih2 _ _ _ _ _ _ _
   | exact spec_l14Fits.mono _ _ _ _
   | exact LeO.none _
   | refine LeO.ite ?_ ?_
   | refine LeO.bind ?_ (fun _ => ?_)
  ·intro y0 y1 y2 y3 y4 y5 y6
   unfold spec_ShapePulses.l2
   repeat' first
   | (with_reducible exact ih0 _ _ _ _ _)
   | (with_reducible exact ih1 _ _ _ _ _ _ _)
   | (with_reducible exact ih2 _ _ _ _ _ _ _)
   | (with_reducible exact spec_l14Fits.mono _ _ _ _)
   | (with_reducible exact LeO.refl _)
   | (with_reducible exact LeO.none _)
   | (with_reducible refine LeO.ite ?_ ?_)
   | (with_reducible refine LeO.bind ?_ (fun _ => ?_))
   | exact ih0 _ _ _ _ _
   | exact ih1 _ _ _ _ _ _ _
   | exact ih2 _ _ _ _ _ _ _
   | exact spec_l14Fits.mono _ _ _ _
   | exact LeO.none _
   | refine LeO.ite ?_ ?_
   | refine LeO.bind ?_ (fun _ => ?_)
theorem spec_ShapePulses.mono : ∀ a0 a1 a2 k,LeO (spec_ShapePulses.f k a0 a1 a2) (spec_ShapePulses.f (k + 1) a0 a1 a2):=by
 intro a0 a1 a2 k
 obtain ⟨ih0,ih1,ih2⟩:=spec_ShapePulses.mono_l k
 unfold spec_ShapePulses.f
 repeat' first
   | (with_reducible exact ih0 _ _ _ _ _)
   | (with_reducible exact ih1 _ _ _ _ _ _ _)
   | (with_reducible exact ih2 _ _ _ _ _ _ _)
   | (with_reducible exact spec_l14Fits.mono _ _ _ _)
   | (with_reducible exact LeO.refl _)
   | (with_reducible exact LeO.none _)
   | (with_reducible refine LeO.ite ?_ ?_)
   | (with_reducible refine LeO.bind ?_ (fun _ => ?_))
   | exact ih0 _ _ _ _ _
   | exact ih1 _ _ _ _ _ _ _
   | exact ih2 _ _ _ _ _ _ _
   | exact spec_l14Fits.mono _ _ _ _
   | exact LeO.none _
   | refine LeO.ite ?_ ?_
   | refine LeO.bind ?_ (fun _ => ?_)
set_option maxHeartbeats 8000000 in
set_option maxRecDepth 100000 in
theorem spec_ShapePulses.calls (k : Nat) (a0 : Int) (a1 : Int) (A2 : Option Addr) (c2 : Nat) (l2 : List (S35)) (r : List Int) (w : World) (hr2 : Kd.C k35 w A2 l2.length l2) (hc2 : l2.length ≤ c2) (h : spec_ShapePulses.f k a0 a1 l2 = some r) :
  Calls Try.prog 38 #[.int .i64 a0,.int .i64 a1,.slice A2 l2.length c2] w fun e w' => ∃ v0_ : Value,e = .returned (v0_) ∧ Kd.R (Kd.int .i64) 3 w' w.heap.size (fun _ => True) v0_ r ∧ Below w.heap.size w w':=by
 have HR2:=mk_ hr2
 have HC2:=mk_ hc2
 clear hr2 hc2
 have HB:=mk_ (Below.refl w.heap.size w)
 have H : (spec_ShapePulses.l0 k a0 a1 l2 (([] : List Int)) 0) = some r:=h
 clear h
 obtain ⟨y135,hy135⟩ : ∃ y_ : List Int,y_ = (([] : List Int)):=⟨_,rfl⟩
 replace H : (spec_ShapePulses.l0 k a0 a1 l2 y135 0) = some r:=by first|(rw [hy135];with_reducible exact H)|(have H2_:=(Option.bind_some _ _).symm.trans H;rw [hy135];with_reducible exact H2_)|(have H2_:=(Option.bind_some _ _).symm.trans H;with_reducible exact H2_)|with_reducible exact H|(rw [hy135];exact H)|exact H
 have Ny135:=mk_ hy135
 clear hy135
 have H':=mk_ H
 clear H
 go_enter Try.func38,Try.ntmps38
 go_wp2_with (first|((with_reducible refine gate_dst (N:=13) rfl ?_);refine Kd.R_lit (Kd.int .i64) _ 3 ?hg (N:=13) ?hd (xs:=([] : List Int)) (inner:=[]) (ok:=fun _ => True) (okp:=fun _ => True) ?hr ?hp (fun _ hk => hk) trivial (Below.refl _ _) (Nat.le_refl _) (by simp) ?_;(case hd => rfl);(case hg => rfl);(case hr => first|(go_simp;done)|(go_simp;rfl));(case hp => exact (Reps.none _ _));intro v136 w4 ho5 hb hg_ hnew_;clear hg_ hnew_;(first|rw [← Ny135.out] at ho5|(simp only [Int.reduceToNat] at ho5;rw [← Ny135.out] at ho5));have n0_:=mk_ (Kd.R_lower ho5 (bz_ (qb_ HB)));have n1_:=mk_ (st_ (qb_ HB) hb);clear HB;have HO137:=n0_;have HB:=n1_;clear n0_ n1_ hb ho5))
 go_loopg [8] k (fun kq v8 w' => ∃ (x8_1 : Int),v8 = .int .i64 x8_1 ∧ Aside0 (spec_ShapePulses.l0 kq a0 a1 l2 y135 x8_1 = some r) ∧ Aside0 (kq ≤ k) ∧ Aside0 (Kd.R (Kd.int .i64) 3 w' w.heap.size (fun _ => True) v136 y135) ∧ Aside0 (Below w.heap.size w w'))
 case atStart => exact ⟨(0),qf_,H',⟨Nat.le_refl _⟩,⟨qr_ HO137⟩,⟨u0_ HB⟩⟩
 case round =>
  clear H'
  try clear c2
  try clear p2
  try clear c3
  obtain ⟨x8_1,rfl,HA,HK1,HO_7,HB⟩:=hrel
  cases gk with
  | zero => exact absurd HA.out (by simp [spec_ShapePulses.l0])
  | succ k1 =>
   have H:=HA.out
   clear HA
   simp only [spec_ShapePulses.l0] at H
   by_cases c6 : x8_1 < (l2.length : Int)
   ·rw [if_pos c6] at H
    have c6b0 : decide (x8_1 < (l2.length : Int)) = true:=decide_eq_true c6
    clear c6
    by_cases c7 : 0 ≤ x8_1
    ·rw [if_pos c7] at H
     have c7b0 : decide (0 ≤ x8_1) = true:=decide_eq_true c7
     clear c7
     by_cases c8 : ((rd_T35 l2 x8_1).f1) > a1
     ·rw [if_pos c8] at H
      have c8b0 : decide (a1 < ((rd_T35 l2 x8_1).f1)) = true:=decide_eq_true c8
      clear c8
      obtain rfl:=Option.some.inj H
      have p138 : 0 ≤ (x8_1 : Int):=od_ qa_
      have q138 : x8_1 < (l2.length : Int):=od_ qa_
      obtain ⟨ad138,e138,hx138_0,hx138_1⟩:=at_T35 HR2.out x8_1 p138 q138
      cases e138
      replace hx138_0:=(HB.out.cell (wl_ w _ hx138_0)).trans hx138_0
      replace hx138_1:=(HB.out.cell (wl_ w _ hx138_1)).trans hx138_1
      replace p138:=eq_true p138
      replace q138:=eq_true q138
      go_wp2
      go_ret
      exact ⟨_,qe_,qr_ HO_7,u0_ HB⟩
     ·rw [if_neg c8] at H
      have c8b0 : decide (a1 < ((rd_T35 l2 x8_1).f1)) = false:=decide_eq_false c8
      clear c8
      have H':=mk_ H
      clear H
      have p138 : 0 ≤ (x8_1 : Int):=od_ qa_
      have q138 : x8_1 < (l2.length : Int):=od_ qa_
      obtain ⟨ad138,e138,hx138_0,hx138_1⟩:=at_T35 HR2.out x8_1 p138 q138
      cases e138
      replace hx138_0:=(HB.out.cell (wl_ w _ hx138_0)).trans hx138_0
      replace hx138_1:=(HB.out.cell (wl_ w _ hx138_1)).trans hx138_1
      replace p138:=eq_true p138
      replace q138:=eq_true q138
      go_wp2
      go_roundg k1
      case measure => have:=HK1.out;omega
      case rel => exact ⟨(wrap64 (x8_1 + 1)),qf_,H',⟨by have:=HK1.out;omega⟩,⟨qr_ HO_7⟩,⟨u0_ HB⟩⟩
    ·rw [if_neg c7] at H
     exact absurd H (by simp)
   ·rw [if_neg c6] at H
    have c6b0 : decide (x8_1 < (l2.length : Int)) = false:=decide_eq_false c6
    clear c6
    replace H:=Option.bind_eq_some_iff.mp H
    obtain ⟨t139,A90,H⟩:=H
    replace H : (if t139 = true then (spec_ShapePulses.l1 k1 a0 a1 l2 y135 a1 0 0) else (some y135)) = some r:=H
    have A9:=mk_ A90
    clear A90
    by_cases c10 : t139 = true
    ·subst c10
     have H1 : (spec_ShapePulses.l1 k1 a0 a1 l2 y135 a1 0 0) = some r:=by rw [if_pos rfl] at H;exact H
     clear H
     have H:=H1
     clear H1
     have H':=mk_ H
     clear H
     go_wp2_with (first|((with_reducible refine gate_callee (f:=40) rfl ?_);refine goesL_ (some 31) rfl rfl Try.func40 (by kernel_rfl) rfl #[.int .i64 a0,.int .i64 a1,.slice A2 l2.length c2] rfl qm_ ?_;(with_reducible refine (spec_l14Fits.calls k1 a0 a1 _ _ l2 true _ ?side1 ?side2 A9.out).mono ?_);(case side1 => exact qn_ HR2 HB);(case side2 => exact HC2.out);rintro e w11 ⟨rfl,hb⟩;refine ⟨_,rfl,?_⟩;have n0_:=mk_ (rb_ (qr_ HO_7) hb);have n1_:=mk_ (st_ (qb_ HB) hb);clear HO_7 HB;have HO_7:=n0_;have HB:=n1_;clear n0_ n1_;(try clear hb);(try clear hb2);(try clear hk);(try clear hi)))
     go_loopg [7,9,10,11] k1 (fun kq v7 v9 v10 v11 w' => ∃ (x7_2 : List Int) (x9_2 : Int) (x10_2 : Int) (x11_2 : Int),v9 = .int .i64 x9_2 ∧ v10 = .int .i64 x10_2 ∧ v11 = .int .i64 x11_2 ∧ Aside0 (spec_ShapePulses.l1 kq a0 a1 l2 x7_2 x9_2 x10_2 x11_2 = some r) ∧ Aside0 (kq ≤ k1) ∧ Aside0 (Kd.R (Kd.int .i64) 3 w' w.heap.size (fun _ => True) v7 x7_2) ∧ Aside0 (Below w.heap.size w w'))
     case atStart => exact ⟨(y135),(a1),(0),(0),qf_,qf_,qf_,H',⟨Nat.le_refl _⟩,⟨qr_ HO_7⟩,⟨u0_ HB⟩⟩
     case round =>
      clear H'
      try clear c1
      try clear p1
      try clear q1
      try clear hx1
      try clear c2
      try clear p2
      try clear c3
      try clear c4
      try clear c6
      try clear c6b0
      try clear p6
      try clear c7
      try clear c7b0
      try clear c8
      try clear c8b0
      try clear c10
      try clear hx138_0
      try clear hx138_1
      try clear p138
      try clear p2
      try clear q138
      obtain ⟨x7_2,x9_2,x10_2,x11_2,rfl,rfl,rfl,HA,HK2,HO_7,HB⟩:=hrel
      cases gk with
      | zero => exact absurd HA.out (by simp [spec_ShapePulses.l1])
      | succ k2 =>
       have H:=HA.out
       clear HA
       simp only [spec_ShapePulses.l1] at H
       by_cases c12 : x11_2 < (l2.length : Int)
       ·rw [if_pos c12] at H
        have c12b0 : decide (x11_2 < (l2.length : Int)) = true:=decide_eq_true c12
        clear c12
        by_cases c13 : 0 ≤ x11_2
        ·rw [if_pos c13] at H
         have c13b0 : decide (0 ≤ x11_2) = true:=decide_eq_true c13
         clear c13
         obtain ⟨ji14,hji14⟩ : ∃ j_ : Int,(mx x10_2 ((rd_T35 l2 x11_2).f0)) = j_:=⟨_,rfl⟩
         replace H : (spec_ShapePulses.l2 k2 a0 a1 l2 x7_2 (mn a1 (wrap64 (x9_2 + (wrap64 (a0 * (wrap64 ((ji14) - x10_2))))))) x11_2 ji14) = some r:=by first|(rw [hji14] at H;exact H)|(simp only [hji14] at H ⊢;exact H)
         have hji14_ : (if x10_2 < ((rd_T35 l2 x11_2).f0) then ((rd_T35 l2 x11_2).f0) else x10_2) = ji14:=hji14
         obtain ⟨ji15,hji15⟩ : ∃ j_ : Int,(mn a1 (wrap64 (x9_2 + (wrap64 (a0 * (wrap64 ((ji14) - x10_2))))))) = j_:=⟨_,rfl⟩
         replace H : (spec_ShapePulses.l2 k2 a0 a1 l2 x7_2 ji15 x11_2 ji14) = some r:=by first|(rw [hji15] at H;exact H)|(simp only [hji15] at H ⊢;exact H)
         have hji15_ : (if (wrap64 (x9_2 + (wrap64 (a0 * (wrap64 ((ji14) - x10_2)))))) < a1 then (wrap64 (x9_2 + (wrap64 (a0 * (wrap64 ((ji14) - x10_2)))))) else a1) = ji15:=hji15
         have H':=mk_ H
         clear H
         have p140 : 0 ≤ (x11_2 : Int):=od_ qa_
         have q140 : x11_2 < (l2.length : Int):=od_ qa_
         obtain ⟨ad140,e140,hx140_0,hx140_1⟩:=at_T35 HR2.out x11_2 p140 q140
         cases e140
         replace hx140_0:=(HB.out.cell (wl_ w _ hx140_0)).trans hx140_0
         replace hx140_1:=(HB.out.cell (wl_ w _ hx140_1)).trans hx140_1
         replace p140:=eq_true p140
         replace q140:=eq_true q140
         go_wp2
         go_loopg [9,12] k2 (fun kq v9 v12 w' => ∃ (x9_3 : Int) (x12_3 : Int),v9 = .int .i64 x9_3 ∧ v12 = .int .i64 x12_3 ∧ Aside0 (spec_ShapePulses.l2 kq a0 a1 l2 x7_2 x9_3 x11_2 x12_3 = some r) ∧ Aside0 (kq ≤ k2) ∧ Aside0 (Kd.R (Kd.int .i64) 3 w' w.heap.size (fun _ => True) u7 x7_2) ∧ Aside0 (Below w.heap.size w w'))
         case atStart => exact ⟨(ji15),(ji14),(by first|rfl|(simp;done)|(simp only [← hji15] <;> (first|rfl|simp))|(simp [*];done)),(by first|rfl|(simp;done)|(simp only [← hji14] <;> (first|rfl|simp))|(simp [*];done)),H',⟨Nat.le_refl _⟩,⟨qr_ HO_7⟩,⟨u0_ HB⟩⟩
         case round =>
          clear H'
          try clear c1
          try clear p1
          try clear q1
          try clear hx1
          try clear c2
          try clear p2
          try clear c3
          try clear c4
          try clear c6
          try clear c6b0
          try clear p6
          try clear c7
          try clear c7b0
          try clear c8
          try clear c8b0
          try clear c10
          try clear c12
          try clear c12b0
          try clear c13
          try clear c13b0
          try clear p13
          try clear q13
          try clear hx13
          try clear p14
          try clear q14
          try clear hx14
          try clear hx138_0
          try clear hx138_1
          try clear hx140_0
          try clear hx140_1
          try clear p1
          try clear p138
          try clear p140
          try clear p2
          try clear p6
          try clear q1
          try clear q138
          try clear q140
          obtain ⟨x9_3,x12_3,rfl,rfl,HA,HK3,HO_7,HB⟩:=hrel
          cases gk with
          | zero => exact absurd HA.out (by simp [spec_ShapePulses.l2])
          | succ k3 =>
           have H:=HA.out
           clear HA
           simp only [spec_ShapePulses.l2] at H
           by_cases c16 : 0 ≤ x11_2
           ·rw [if_pos c16] at H
            have c16b0 : decide (0 ≤ x11_2) = true:=decide_eq_true c16
            clear c16
            by_cases c17 : x11_2 < (l2.length : Int)
            ·rw [if_pos c17] at H
             have c17b0 : decide (x11_2 < (l2.length : Int)) = true:=decide_eq_true c17
             clear c17
             by_cases c18 : x9_3 < ((rd_T35 l2 x11_2).f1)
             ·rw [if_pos c18] at H
              have c18b0 : decide (x9_3 < ((rd_T35 l2 x11_2).f1)) = true:=decide_eq_true c18
              clear c18
              obtain ⟨ji19,hji19⟩ : ∃ j_ : Int,(mn a1 (wrap64 (x9_3 + a0))) = j_:=⟨_,rfl⟩
              replace H : (spec_ShapePulses.l2 k3 a0 a1 l2 x7_2 ji19 x11_2 (wrap64 (x12_3 + 1))) = some r:=by first|(rw [hji19] at H;exact H)|(simp only [hji19] at H ⊢;exact H)
              have hji19_ : (if (wrap64 (x9_3 + a0)) < a1 then (wrap64 (x9_3 + a0)) else a1) = ji19:=hji19
              have H':=mk_ H
              clear H
              have p141 : 0 ≤ (x11_2 : Int):=od_ qa_
              have q141 : x11_2 < (l2.length : Int):=od_ qa_
              obtain ⟨ad141,e141,hx141_0,hx141_1⟩:=at_T35 HR2.out x11_2 p141 q141
              obtain rfl : ad140 = ad141:=(by injection e141)
              replace hx141_0:=(HB.out.cell (wl_ w _ hx141_0)).trans hx141_0
              replace hx141_1:=(HB.out.cell (wl_ w _ hx141_1)).trans hx141_1
              replace p141:=eq_true p141
              replace q141:=eq_true q141
              go_wp2
              go_roundg k3
              case measure => have:=HK1.out;have:=HK2.out;have:=HK3.out;omega
              case rel => exact ⟨(ji19),(wrap64 (x12_3 + 1)),(by first|rfl|(simp;done)|(simp only [← hji19] <;> (first|rfl|simp))|(simp [*];done)),qf_,H',⟨by have:=HK1.out;have:=HK2.out;have:=HK3.out;omega⟩,⟨qr_ HO_7⟩,⟨u0_ HB⟩⟩
             ·rw [if_neg c18] at H
              have c18b0 : decide (x9_3 < ((rd_T35 l2 x11_2).f1)) = false:=decide_eq_false c18
              clear c18
              by_cases c20 : x7_2.length < 17592186044416
              ·rw [if_pos c20] at H
               have LMc20:=mk_ c20
               clear c20
               obtain ⟨y143,hy143⟩ : ∃ y_ : List Int,y_ = (x7_2 ++ [x12_3]):=⟨_,rfl⟩
               replace H : (spec_ShapePulses.l1 k3 a0 a1 l2 y143 (wrap64 (x9_3 - ((rd_T35 l2 x11_2).f1))) x12_3 (wrap64 (x11_2 + 1))) = some r:=by first|(rw [hy143];with_reducible exact H)|(have H2_:=(Option.bind_some _ _).symm.trans H;rw [hy143];with_reducible exact H2_)|(have H2_:=(Option.bind_some _ _).symm.trans H;with_reducible exact H2_)|with_reducible exact H|(rw [hy143];exact H)|exact H
               have Ny143:=mk_ hy143
               clear hy143
               have H':=mk_ H
               clear H
               have p141 : 0 ≤ (x11_2 : Int):=od_ qa_
               have q141 : x11_2 < (l2.length : Int):=od_ qa_
               obtain ⟨ad141,e141,hx141_0,hx141_1⟩:=at_T35 HR2.out x11_2 p141 q141
               obtain rfl : ad140 = ad141:=(by injection e141)
               replace hx141_0:=(HB.out.cell (wl_ w _ hx141_0)).trans hx141_0
               replace hx141_1:=(HB.out.cell (wl_ w _ hx141_1)).trans hx141_1
               replace p141:=eq_true p141
               replace q141:=eq_true q141
               have p142 : 0 ≤ (x11_2 : Int):=od_ qa_
               have q142 : x11_2 < (l2.length : Int):=od_ qa_
               obtain ⟨ad142,e142,hx142_0,hx142_1⟩:=at_T35 HR2.out x11_2 p142 q142
               obtain rfl : ad140 = ad142:=(by injection e142)
               replace hx142_0:=(HB.out.cell (wl_ w _ hx142_0)).trans hx142_0
               replace hx142_1:=(HB.out.cell (wl_ w _ hx142_1)).trans hx142_1
               replace p142:=eq_true p142
               replace q142:=eq_true q142
               go_wp2_with (first|((with_reducible refine gate_builtin (b:=.append) (xs:=#[.tmp 79,.tmp 81]) rfl ?_);at_builtin;refine Kd.R_append (Kd.int .i64) (w0:=w) w.heap.size rfl (.tmp 79) (.tmp 81) 49 3 (.int .i64 0) 8 rfl Try.underlying49 info3 rfl (by decide) (by omega) u7 x7_2 x12_3 [.int .i64 x12_3] (fun _ => True) (fun _ => False) rfl rfl ?aP (fun _ hk => hk.elim) ?aF ?aO ?aB ?aS ?aL ?_;(case aP => exact rfl);(case aB => exact (qb_ HB));(case aF => exact (fun _ _ => trivial));(case aO => exact (qr_ HO_7));(case aS => exact (bz_ (qb_ HB)));(case aL => have:=LMc20.out;omega);intro v144 w21 ho hb hg hat;rw [← Ny143.out] at ho;have n0_:=mk_ (hb);have n1_:=mk_ (ho);clear HB HO_7;have HB:=n0_;have HO145:=n1_;clear n0_ n1_ ho hb hg hat))
               go_roundg k3
               case measure => have:=HK1.out;have:=HK2.out;have:=HK3.out;omega
               case rel => exact ⟨(y143),(wrap64 (x9_3 - ((rd_T35 l2 x11_2).f1))),(x12_3),(wrap64 (x11_2 + 1)),qf_,qf_,qf_,H',⟨by have:=HK1.out;have:=HK2.out;have:=HK3.out;omega⟩,⟨qr_ HO145⟩,⟨u0_ HB⟩⟩
              ·rw [if_neg c20] at H
               exact absurd H (by simp)
            ·rw [if_neg c17] at H
             exact absurd H (by simp)
           ·rw [if_neg c16] at H
            exact absurd H (by simp)
        ·rw [if_neg c13] at H
         exact absurd H (by simp)
       ·rw [if_neg c12] at H
        have c12b0 : decide (x11_2 < (l2.length : Int)) = false:=decide_eq_false c12
        clear c12
        obtain rfl:=Option.some.inj H
        go_wp2
        go_ret
        exact ⟨_,qe_,qr_ HO_7,u0_ HB⟩
    ·replace c10:=Bool.eq_false_iff.mpr c10
     subst c10
     have H1 : (some y135) = some r:=by rw [if_neg (show ¬ (false = true) by decide)] at H;exact H
     clear H
     have H:=H1
     clear H1
     obtain rfl:=Option.some.inj H
     go_wp2_with (first|((with_reducible refine gate_callee (f:=40) rfl ?_);refine goesL_ (some 31) rfl rfl Try.func40 (by kernel_rfl) rfl #[.int .i64 a0,.int .i64 a1,.slice A2 l2.length c2] rfl qm_ ?_;(with_reducible refine (spec_l14Fits.calls k1 a0 a1 _ _ l2 false _ ?side1 ?side2 A9.out).mono ?_);(case side1 => exact qn_ HR2 HB);(case side2 => exact HC2.out);rintro e w22 ⟨rfl,hb⟩;refine ⟨_,rfl,?_⟩;have n0_:=mk_ (rb_ (qr_ HO_7) hb);have n1_:=mk_ (st_ (qb_ HB) hb);clear HO_7 HB;have HO_7:=n0_;have HB:=n1_;clear n0_ n1_;(try clear hb);(try clear hb2);(try clear hk);(try clear hi)))
     go_ret
     exact ⟨_,qe_,qr_ HO_7,u0_ HB⟩

/-- A state of type 72 at block g of W;what its slices lead to came in by w0. -/
def IsS72 (w0 W : World) (g : Nat) (f0 : List Int) (f1 : Int) : Prop:=∃ A0 c0,W.heap[g]? = some (.cells #[.slice A0 f0.length c0,.int .i64 f1] 72 (0,0)) ∧ w0.heap.size ≤ g ∧ Kd.C (Kd.int .u8) w0 A0 f0.length f0
theorem IsS72.grown {w0 W : World} {g : Nat} {f0 : List Int} {f1 : Int} {W1 : World} {row : Option Nat} (h : IsS72 w0 W g f0 f1) (hw : W.grownBy W1 row) (hne : some g ≠ row) : IsS72 w0 W1 g f0 f1:=by
 obtain ⟨A0,c0,hb,hg,hr0⟩:=h
 exact ⟨A0,c0,blk_grown hb hw hne,hg,hr0⟩
theorem IsS72.own_neN {w0 W : World} {g : Nat} {f0 : List Int} {f1 : Int} {α : Type} {d : Kd α} {e : Nat} {base : Nat} {ok : Nat → Prop} {v : Value} {xs : List α} (h : IsS72 w0 W g f0 f1) (ho : Kd.N d e W base ok v xs) (ht : e ≠ 72) : some g ≠ v.ownBlock:=by
 obtain ⟨A0,c0,hb,hg,hr0⟩:=h
 exact Kd.N_ne ho hb ht
theorem IsS72.fresh {w0 W : World} {g : Nat} {f0 : List Int} {f1 : Int} (h : IsS72 w0 W g f0 f1) : ∀ k,W.heap.size ≤ k → k ≠ g:=by
 obtain ⟨A0,c0,hb,hg,hr0⟩:=h
 exact Kd.freshB hb
theorem IsS72.kept {w0 W : World} {g : Nat} {f0 : List Int} {f1 : Int} {W1 : World} {S : Nat → Prop} (h : IsS72 w0 W g f0 f1) (hk : Kept W W1 S) (hne : ¬ S g) : IsS72 w0 W1 g f0 f1:=by
 obtain ⟨A0,c0,hb,hg,hr0⟩:=h
 exact ⟨A0,c0,blk_kept hb hk hne,hg,hr0⟩
theorem IsS72.below {w0 W : World} {g : Nat} {f0 : List Int} {f1 : Int} {W1 : World} (h : IsS72 w0 W g f0 f1) (hw : Below W.heap.size W W1) : IsS72 w0 W1 g f0 f1:=h.grown (grown_of_below hw none) (by simp)
theorem IsS72.alloc {w0 W : World} {g : Nat} {f0 : List Int} {f1 : Int} (h : IsS72 w0 W g f0 f1) (o : Obj) : IsS72 w0 (W.alloc o) g f0 f1:=h.below (ba_ (Below.refl _ _) o)
theorem IsS72.drewN {w0 W : World} {g : Nat} {f0 : List Int} {f1 : Int} (h : IsS72 w0 W g f0 f1) (m : Nat) : IsS72 w0 (W.drewN m) g f0 f1:=h
theorem IsS72.drew {w0 W : World} {g : Nat} {f0 : List Int} {f1 : Int} (h : IsS72 w0 W g f0 f1) : IsS72 w0 W.drew g f0 f1:=h
theorem IsS72.at_ {w0 W : World} {g : Nat} {f0 : List Int} {f1 : Int} {w' : World} {m : Nat} (hq : W.drewN m = w') (h : IsS72 w0 W g f0 f1) : IsS72 w0 w' g f0 f1:=by subst hq;exact IsS72.drewN h m
theorem IsS72.apart {w0 W : World} {g : Nat} {f0 : List Int} {f1 : Int} {α : Type} {d : Kd α} {e : Nat} {base : Nat} {ok : Nat → Prop} {v : Value} {xs : List α} (h : IsS72 w0 W g f0 f1) (ho : d.R e W base ok v xs) (ht : ∀ q,q ∈ e :: d.E → q ≠ 72) : d.R e W base (fun k => ok k ∧ k ≠ g) v xs:=by
 obtain ⟨A0,c0,hb,hg,hr0⟩:=h
 exact rt_ ho hb ht
theorem IsS72.own_ne {w0 W : World} {g : Nat} {f0 : List Int} {f1 : Int} {α : Type} {d : Kd α} {e : Nat} {base : Nat} {ok : Nat → Prop} {v : Value} {xs : List α} (h : IsS72 w0 W g f0 f1) (ho : d.R e W base ok v xs) (ht : e ≠ 72) : some g ≠ v.ownBlock:=by
 obtain ⟨A0,c0,hb,hg,hr0⟩:=h
 exact Kd.R_ne ho hb ht
theorem IsS72.apartQ {w0 W : World} {g : Nat} {f0 : List Int} {f1 : Int} {α : Type} {d : Kd α} {e : Nat} {base : Nat} {ok : Nat → Prop} {v : Value} {xs : List α} (h : IsS72 w0 W g f0 f1) (ho : d.Q e W base ok v xs) (ht : ∀ q,q ∈ e :: d.E → q ≠ 72) : d.Q e W base (fun k => ok k ∧ k ≠ g) v xs:=by
 obtain ⟨A0,c0,hb,hg,hr0⟩:=h
 exact Kd.Q_types ho hb ht
theorem IsS72.own_neQ {w0 W : World} {g : Nat} {f0 : List Int} {f1 : Int} {α : Type} {d : Kd α} {e : Nat} {base : Nat} {ok : Nat → Prop} {v : Value} {xs : List α} (h : IsS72 w0 W g f0 f1) (ho : d.Q e W base ok v xs) (ht : e ≠ 72) : some g ≠ v.ownBlock:=by
 obtain ⟨A0,c0,hb,hg,hr0⟩:=h
 exact Kd.Q_ne ho hb ht
theorem IsS72.apartS {w0 W : World} {g : Nat} {f0 : List Int} {f1 : Int} {α : Type} {d : Kd α} {e : Nat} {base : Nat} {ok : Nat → Prop} {v : Value} {xs : List α} (h : IsS72 w0 W g f0 f1) (ho : d.S e W base ok v xs) (ht : ∀ q,q ∈ e :: d.E → q ≠ 72) : d.S e W base (fun k => ok k ∧ k ≠ g) v xs:=by
 obtain ⟨A0,c0,hb,hg,hr0⟩:=h
 exact Kd.S_types ho hb ht
theorem IsS72.own_neS {w0 W : World} {g : Nat} {f0 : List Int} {f1 : Int} {α : Type} {d : Kd α} {e : Nat} {base : Nat} {ok : Nat → Prop} {v : Value} {xs : List α} (h : IsS72 w0 W g f0 f1) (ho : d.S e W base ok v xs) (ht : e ≠ 72) : some g ≠ v.ownBlock:=by
 obtain ⟨A0,c0,hb,hg,hr0⟩:=h
 exact Kd.S_ne ho hb ht
theorem IsS72.lt {w0 W : World} {g : Nat} {f0 : List Int} {f1 : Int} (h : IsS72 w0 W g f0 f1) : g < W.heap.size:=by
 obtain ⟨A0,c0,hb,hg,hr0⟩:=h
 exact blk_lt hb
theorem IsS72.ge {w0 W : World} {g : Nat} {f0 : List Int} {f1 : Int} (h : IsS72 w0 W g f0 f1) : w0.heap.size ≤ g:=by
 obtain ⟨A0,c0,hb,hg,hr0⟩:=h
 exact hg
theorem IsS72.ne_blk {w0 W : World} {g : Nat} {f0 : List Int} {f1 : Int} {a : Nat} {cs : Array Value} {t : TypeId} {fr : Nat × Nat} (h : IsS72 w0 W g f0 f1) (hb2 : W.heap[a]? = some (.cells cs t fr)) (ht : t ≠ 72) : g ≠ a:=by
 obtain ⟨A0,c0,hb,hg,hr0⟩:=h
 rintro rfl
 rw [hb] at hb2
 injection hb2 with hb2
 injection hb2 with _ ht2
 exact ht ht2.symm
theorem IsS72.far {w0 W : World} {g : Nat} {f0 : List Int} {f1 : Int} {p : Addr} (h : IsS72 w0 W g f0 f1) (hne : g ≠ p.block) (u : Value) : IsS72 w0 (W.setCell p u) g f0 f1:=by
 obtain ⟨A0,c0,hb,hg,hr0⟩:=h
 exact ⟨A0,c0,blk_far hb hne u,hg,hr0⟩
theorem cellS72_0 {W : World} {g : Nat} {A0 : Option Addr} {c0 : Nat} {f0 : List Int} {f1 : Int} (h : W.heap[g]? = some (.cells #[.slice A0 f0.length c0,.int .i64 f1] 72 (0,0))) : W.cell? ⟨g,0,none⟩ = some (.slice A0 f0.length c0):=(bc_ h 0).trans rfl
theorem cellS72_1 {W : World} {g : Nat} {A0 : Option Addr} {c0 : Nat} {f0 : List Int} {f1 : Int} (h : W.heap[g]? = some (.cells #[.slice A0 f0.length c0,.int .i64 f1] 72 (0,0))) : W.cell? ⟨g,1,none⟩ = some (.int .i64 f1):=(bc_ h 1).trans rfl
theorem IsS72.set_1 {w0 W : World} {g : Nat} {f0 : List Int} {f1 : Int} (h : IsS72 w0 W g f0 f1) (x : Int) : IsS72 w0 (W.setCell ⟨g,1,none⟩ (.int .i64 x)) g f0 x:=by
 obtain ⟨A0,c0,hb,hg,hr0⟩:=h
 exact ⟨A0,c0,by simpa using blk_set hb 1 (.int .i64 x),hg,hr0⟩
theorem IsS72.new (w0 W : World) (A0 : Option Addr) (c0 : Nat) (f0 : List Int) (f1 : Int) (hB : Below w0.heap.size w0 W) (hr0 : Kd.C (Kd.int .u8) w0 A0 f0.length f0) : IsS72 w0 (W.alloc (.cells #[.slice A0 f0.length c0,.int .i64 f1] 72)) W.heap.size f0 f1:=⟨A0,c0,by simpa using heap_alloc_new W _,hB.size,hr0⟩

/-! ### spec_l21Rd_pick: function 53 -/
def spec_l21Rd_pick.j0 : Nat → Int → Bool → List Int → Int → Option (Int × Int)
 | 0,_,_,_,_ => none
 | k + 1,x1,x24,x1000,x1001 => if x24 = true then (some (0,x1001)) else (if (wrap64 (x1001 - 1)) < (x1000.length : Int) then (if 0 ≤ (wrap64 (x1001 - 1)) then (if x1 = 0 then (none) else (some (Int.tmod (wrap64 (rd x1000 (wrap64 (x1001 - 1)))) x1,x1001))) else (none)) else (if (x1000.length : Int) = 0 then (none) else (if 0 ≤ (Int.tmod (wrap64 (x1001 - 1)) (x1000.length : Int)) then (if (Int.tmod (wrap64 (x1001 - 1)) (x1000.length : Int)) < (x1000.length : Int) then (if 0 ≤ (Int.tmod (wrap64 ((wrap64 ((wrap64 (x1001 - 1)) * 7)) + 3)) (x1000.length : Int)) then (if (Int.tmod (wrap64 ((wrap64 ((wrap64 (x1001 - 1)) * 7)) + 3)) (x1000.length : Int)) < (x1000.length : Int) then (if x1 = 0 then (none) else (some (Int.tmod (Go.bits .xor .i64 (wrap64 ((wrap64 ((wrap64 ((wrap64 ((wrap64 (rd x1000 (Int.tmod (wrap64 (x1001 - 1)) (x1000.length : Int)))) * 131)) + (wrap64 ((wrap64 (rd x1000 (Int.tmod (wrap64 ((wrap64 ((wrap64 (x1001 - 1)) * 7)) + 3)) (x1000.length : Int)))) * 1117)))) + (wrap64 ((wrap64 (x1001 - 1)) * 29)))) + (wrap64 ((wrap64 (Int.tdiv (wrap64 (x1001 - 1)) (x1000.length : Int))) * 53)))) (wrap64 (Int.tdiv (wrap64 ((wrap64 ((wrap64 ((wrap64 ((wrap64 (rd x1000 (Int.tmod (wrap64 (x1001 - 1)) (x1000.length : Int)))) * 131)) + (wrap64 ((wrap64 (rd x1000 (Int.tmod (wrap64 ((wrap64 ((wrap64 (x1001 - 1)) * 7)) + 3)) (x1000.length : Int)))) * 1117)))) + (wrap64 ((wrap64 (x1001 - 1)) * 29)))) + (wrap64 ((wrap64 (Int.tdiv (wrap64 (x1001 - 1)) (x1000.length : Int))) * 53)))) 64))) x1,x1001))) else (none)) else (none)) else (none)) else (none))))
def spec_l21Rd_pick.f (k : Nat) (s0_0 : List Int) (s0_1 : Int) (a1 : Int) : Option (Int × Int):=if a1 < 1 then (spec_l21Rd_pick.j0 k a1 true s0_0 (wrap64 (s0_1 + 1))) else (spec_l21Rd_pick.j0 k a1 ((s0_0.length : Int) == 0) s0_0 (wrap64 (s0_1 + 1)))
theorem spec_l21Rd_pick.mono_l : ∀ k,(∀ y0 y1 y2 y3,LeO (spec_l21Rd_pick.j0 k y0 y1 y2 y3) (spec_l21Rd_pick.j0 (k + 1) y0 y1 y2 y3))
 | 0 => fun _ _ _ _ r h => by simp [spec_l21Rd_pick.j0] at h
 | k + 1 => by
  have ih0:=spec_l21Rd_pick.mono_l k
  ·intro y0 y1 y2 y3
   unfold spec_l21Rd_pick.j0
   repeat' first
   | (with_reducible exact ih0 _ _ _ _)
   | (with_reducible exact LeO.refl _)
   | (with_reducible exact LeO.none _)
   | (with_reducible refine LeO.ite ?_ ?_)
   | (with_reducible refine LeO.bind ?_ (fun _ => ?_))
   | exact ih0 _ _ _ _
   | exact LeO.none _
   | refine LeO.ite ?_ ?_
   | refine LeO.bind ?_ (fun _ => ?_)
theorem spec_l21Rd_pick.mono : ∀ a0 a1 a2 k,LeO (spec_l21Rd_pick.f k a0 a1 a2) (spec_l21Rd_pick.f (k + 1) a0 a1 a2):=by
 intro a0 a1 a2 k
 have ih0:=spec_l21Rd_pick.mono_l k
 unfold spec_l21Rd_pick.f
 repeat' first
   | (with_reducible exact ih0 _ _ _ _)
   | (with_reducible exact LeO.refl _)
   | (with_reducible exact LeO.none _)
   | (with_reducible refine LeO.ite ?_ ?_)
   | (with_reducible refine LeO.bind ?_ (fun _ => ?_))
   | exact ih0 _ _ _ _
   | exact LeO.none _
   | refine LeO.ite ?_ ?_
   | refine LeO.bind ?_ (fun _ => ?_)
set_option maxHeartbeats 8000000 in
set_option maxRecDepth 100000 in
theorem spec_l21Rd_pick.calls (k : Nat) (g : Nat) (s0_0 : List Int) (s0_1 : Int) (a1 : Int) (r1 : Int) (r2 : Int) (w0 w : World) (hI : IsS72 w0 w g s0_0 s0_1) (hB : Below w0.heap.size w0 w) (h : spec_l21Rd_pick.f k s0_0 s0_1 a1 = some (r1,r2)) :
  Calls Try.prog 53 #[.pointer (some ⟨g,0,none⟩),.int .i64 a1] w fun e w' => e = .returned (.int .i64 r1) ∧ IsS72 w0 w' g s0_0 r2 ∧ Below w0.heap.size w0 w' ∧ KeepBut w w' g none:=by
 have HI0:=mk_ hI
 have HK:=mk_ (KeepBut.refl w g none)
 have HL:=mk_ hB.size
 clear hI
 have HW0:=mk_ hB.size
 have HB:=mk_ hB
 clear hB
 have H : (if a1 < 1 then (spec_l21Rd_pick.j0 k a1 true s0_0 (wrap64 (s0_1 + 1))) else (spec_l21Rd_pick.j0 k a1 ((s0_0.length : Int) == 0) s0_0 (wrap64 (s0_1 + 1)))) = some (r1,r2):=h
 clear h
 have HC3:=mk_ H
 clear H
 obtain ⟨ASz4_0,cSz4_0,HGz4,hgz4,HSz4_0⟩:=HI0.out
 have hcz4_0:=cellS72_0 HGz4
 have hcz4_1:=cellS72_1 HGz4
 have hfz4_1:=bf_ HGz4 1
 clear HGz4 hgz4
 go_enter Try.func53,Try.ntmps53
 go_upto_region 2 with (fail)
 repeat (go_quiet (fail);go_upto_region 2 with (fail))
 go_cut [24] (fun v24 wc => ∃ (kq : Nat) (x24_2 : Bool),v24 = .bool x24_2 ∧ Aside0 (spec_l21Rd_pick.j0 kq a1 x24_2 s0_0 (wrap64 (s0_1 + 1)) = some (r1,r2)) ∧ Aside0 (kq ≤ k) ∧ Aside0 (IsS72 w0 wc g s0_0 (wrap64 (s0_1 + 1))) ∧ Aside0 (KeepBut w wc g none) ∧ Aside0 (Below w0.heap.size w0 wc))
 case first =>
  have H:=HC3.out
  clear HC3
  by_cases c5 : a1 < 1
  ·rw [if_pos c5] at H
   have c5b0 : decide (a1 < 1) = true:=decide_eq_true c5
   clear c5
   (first|rw [c5b0]|(simp only [i64_w,i32_w];rw [c5b0])|skip)
   have H':=mk_ H
   clear H
   go_wp2
   repeat (go_quiet (fail);try go_wp2)
   go_meet
   case rel => exact ⟨_,(true),qf_,H',⟨by first|omega|exact Nat.le_refl _⟩,⟨u2_ HI0⟩,⟨u3_ HK⟩,⟨u4_ HB HI0⟩⟩
  ·rw [if_neg c5] at H
   have c5b0 : decide (a1 < 1) = false:=decide_eq_false c5
   clear c5
   (first|rw [c5b0]|(simp only [i64_w,i32_w];rw [c5b0])|skip)
   have H':=mk_ H
   clear H
   obtain ⟨ASz6_0,cSz6_0,HGz6,hgz6,HSz6_0⟩:=HI0.out
   have hcz6_0:=cellS72_0 HGz6
   have hcz6_1:=cellS72_1 HGz6
   have hfz6_1:=bf_ HGz6 1
   clear HGz6 hgz6
   go_wp2
   repeat (go_quiet (fail);try go_wp2)
   go_meet
   case rel => exact ⟨_,(((s0_0.length : Int) == 0)),qf_,H',⟨by first|omega|exact Nat.le_refl _⟩,⟨u2_ HI0⟩,⟨u3_ HK⟩,⟨u4_ HB HI0⟩⟩
 case rest =>
  clear HC3
  try clear p2
  try clear c5
  try clear c5b0
  try clear p6
  try clear hcz4_0
  try clear hcz4_1
  try clear hcz6_0
  try clear hcz6_1
  try clear hfz4_1
  try clear hfz6_1
  obtain ⟨kq,x24_2,rfl,HA,HJ2,HI0,HK,HB⟩:=hcut
  cases kq with
  | zero => exact absurd HA.out (by simp [spec_l21Rd_pick.j0])
  | succ kj2 =>
   have H:=HA.out
   clear HA
   simp only [spec_l21Rd_pick.j0] at H
   by_cases c7 : x24_2 = true
   ·subst c7
    have H1 : (some (0,(wrap64 (s0_1 + 1)))) = some (r1,r2):=by rw [if_pos rfl] at H;exact H
    clear H
    have H:=H1
    clear H1
    simp only [Option.some.injEq,Prod.mk.injEq] at H
    obtain ⟨rfl,rfl⟩:=H
    go_wp2
    repeat (go_quiet (fail);try go_wp2)
    go_ret
    exact ⟨qe_,u2_ HI0,u4_ HB HI0,u3_ HK⟩
   ·replace c7:=Bool.eq_false_iff.mpr c7
    subst c7
    have H1 : (if (wrap64 ((wrap64 (s0_1 + 1)) - 1)) < (s0_0.length : Int) then (if 0 ≤ (wrap64 ((wrap64 (s0_1 + 1)) - 1)) then (if a1 = 0 then (none) else (some (Int.tmod (wrap64 (rd s0_0 (wrap64 ((wrap64 (s0_1 + 1)) - 1)))) a1,(wrap64 (s0_1 + 1))))) else (none)) else (if (s0_0.length : Int) = 0 then (none) else (if 0 ≤ (Int.tmod (wrap64 ((wrap64 (s0_1 + 1)) - 1)) (s0_0.length : Int)) then (if (Int.tmod (wrap64 ((wrap64 (s0_1 + 1)) - 1)) (s0_0.length : Int)) < (s0_0.length : Int) then (if 0 ≤ (Int.tmod (wrap64 ((wrap64 ((wrap64 ((wrap64 (s0_1 + 1)) - 1)) * 7)) + 3)) (s0_0.length : Int)) then (if (Int.tmod (wrap64 ((wrap64 ((wrap64 ((wrap64 (s0_1 + 1)) - 1)) * 7)) + 3)) (s0_0.length : Int)) < (s0_0.length : Int) then (if a1 = 0 then (none) else (some (Int.tmod (Go.bits .xor .i64 (wrap64 ((wrap64 ((wrap64 ((wrap64 ((wrap64 (rd s0_0 (Int.tmod (wrap64 ((wrap64 (s0_1 + 1)) - 1)) (s0_0.length : Int)))) * 131)) + (wrap64 ((wrap64 (rd s0_0 (Int.tmod (wrap64 ((wrap64 ((wrap64 ((wrap64 (s0_1 + 1)) - 1)) * 7)) + 3)) (s0_0.length : Int)))) * 1117)))) + (wrap64 ((wrap64 ((wrap64 (s0_1 + 1)) - 1)) * 29)))) + (wrap64 ((wrap64 (Int.tdiv (wrap64 ((wrap64 (s0_1 + 1)) - 1)) (s0_0.length : Int))) * 53)))) (wrap64 (Int.tdiv (wrap64 ((wrap64 ((wrap64 ((wrap64 ((wrap64 (rd s0_0 (Int.tmod (wrap64 ((wrap64 (s0_1 + 1)) - 1)) (s0_0.length : Int)))) * 131)) + (wrap64 ((wrap64 (rd s0_0 (Int.tmod (wrap64 ((wrap64 ((wrap64 ((wrap64 (s0_1 + 1)) - 1)) * 7)) + 3)) (s0_0.length : Int)))) * 1117)))) + (wrap64 ((wrap64 ((wrap64 (s0_1 + 1)) - 1)) * 29)))) + (wrap64 ((wrap64 (Int.tdiv (wrap64 ((wrap64 (s0_1 + 1)) - 1)) (s0_0.length : Int))) * 53)))) 64))) a1,(wrap64 (s0_1 + 1))))) else (none)) else (none)) else (none)) else (none)))) = some (r1,r2):=by rw [if_neg (show ¬ (false = true) by decide)] at H;exact H
    clear H
    have H:=H1
    clear H1
    by_cases c8 : (wrap64 ((wrap64 (s0_1 + 1)) - 1)) < (s0_0.length : Int)
    ·rw [if_pos c8] at H
     have c8b0 : decide ((wrap64 ((wrap64 (s0_1 + 1)) - 1)) < (s0_0.length : Int)) = true:=decide_eq_true c8
     clear c8
     obtain ⟨ji9,hji9⟩ : ∃ j_ : Int,(wrap64 ((wrap64 (s0_1 + 1)) - 1)) = j_:=⟨_,rfl⟩
     replace H : (if 0 ≤ (ji9) then (if a1 = 0 then (none) else (some (Int.tmod (wrap64 (rd s0_0 (ji9))) a1,(wrap64 (s0_1 + 1))))) else (none)) = some (r1,r2):=by first|(rw [hji9] at H;exact H)|(simp only [hji9] at H ⊢;exact H)
     (try rw [hji9] at c8b0)
     have hji9w : (IntKind.i64.wrap ((wrap64 (s0_1 + 1)) - 1)) = ji9:=(i64_w _).trans hji9
     by_cases c10 : 0 ≤ (ji9)
     ·rw [if_pos c10] at H
      have c10b0 : decide (0 ≤ (ji9)) = true:=decide_eq_true c10
      clear c10
      by_cases c11 : a1 = 0
      ·rw [if_pos c11] at H
       exact absurd H (by simp)
      ·rw [if_neg c11] at H
       have c11b0 : (a1 == 0) = false:=beq_eq_false_iff_ne.mpr c11
       have c11b1 : (a1 != 0) = true:=bne_iff_ne.mpr c11
       simp only [Option.some.injEq,Prod.mk.injEq] at H
       obtain ⟨rfl,rfl⟩:=H
       obtain ⟨ASz12_0,cSz12_0,HGz12,hgz12,HSz12_0⟩:=HI0.out
       have hcz12_0:=cellS72_0 HGz12
       have hcz12_1:=cellS72_1 HGz12
       have hfz12_1:=bf_ HGz12 1
       clear HGz12 hgz12
       have p146 : 0 ≤ ((ji9) : Int):=od_ qa_
       have q146 : (ji9) < (s0_0.length : Int):=od_ qa_
       obtain ⟨ad146,e146,hx146_0⟩:=Kd.at_int HSz12_0 (ji9) p146 q146
       cases e146
       replace hx146_0:=pw_cell_below HB.out hx146_0
       replace p146:=eq_true p146
       replace q146:=eq_true q146
       go_wp2
       repeat (go_quiet (fail);try go_wp2)
       go_ret
       exact ⟨by first|rfl|(simp [errW_none,errW_some] <;> rfl)|(simp only [← hji9];first|rfl|(simp [errW_none,errW_some] <;> rfl))|(simp [*,errW_none,errW_some] <;> rfl),u2_ HI0,u4_ HB HI0,u3_ HK⟩
     ·rw [if_neg c10] at H
      exact absurd H (by simp)
    ·rw [if_neg c8] at H
     have c8b0 : decide ((wrap64 ((wrap64 (s0_1 + 1)) - 1)) < (s0_0.length : Int)) = false:=decide_eq_false c8
     clear c8
     by_cases c13 : (s0_0.length : Int) = 0
     ·rw [if_pos c13] at H
      exact absurd H (by simp)
     ·rw [if_neg c13] at H
      have c13b0 : ((s0_0.length : Int) == 0) = false:=beq_eq_false_iff_ne.mpr c13
      have c13b1 : ((s0_0.length : Int) != 0) = true:=bne_iff_ne.mpr c13
      have c13b2 : ¬ (s0_0 = []):=fun h_ => c13 (by rw [h_];rfl)
      obtain ⟨ji14,hji14⟩ : ∃ j_ : Int,(Int.tmod (wrap64 ((wrap64 (s0_1 + 1)) - 1)) (s0_0.length : Int)) = j_:=⟨_,rfl⟩
      replace H : (if 0 ≤ (ji14) then (if (ji14) < (s0_0.length : Int) then (if 0 ≤ (Int.tmod (wrap64 ((wrap64 ((wrap64 ((wrap64 (s0_1 + 1)) - 1)) * 7)) + 3)) (s0_0.length : Int)) then (if (Int.tmod (wrap64 ((wrap64 ((wrap64 ((wrap64 (s0_1 + 1)) - 1)) * 7)) + 3)) (s0_0.length : Int)) < (s0_0.length : Int) then (if a1 = 0 then (none) else (some (Int.tmod (Go.bits .xor .i64 (wrap64 ((wrap64 ((wrap64 ((wrap64 ((wrap64 (rd s0_0 (ji14))) * 131)) + (wrap64 ((wrap64 (rd s0_0 (Int.tmod (wrap64 ((wrap64 ((wrap64 ((wrap64 (s0_1 + 1)) - 1)) * 7)) + 3)) (s0_0.length : Int)))) * 1117)))) + (wrap64 ((wrap64 ((wrap64 (s0_1 + 1)) - 1)) * 29)))) + (wrap64 ((wrap64 (Int.tdiv (wrap64 ((wrap64 (s0_1 + 1)) - 1)) (s0_0.length : Int))) * 53)))) (wrap64 (Int.tdiv (wrap64 ((wrap64 ((wrap64 ((wrap64 ((wrap64 (rd s0_0 (ji14))) * 131)) + (wrap64 ((wrap64 (rd s0_0 (Int.tmod (wrap64 ((wrap64 ((wrap64 ((wrap64 (s0_1 + 1)) - 1)) * 7)) + 3)) (s0_0.length : Int)))) * 1117)))) + (wrap64 ((wrap64 ((wrap64 (s0_1 + 1)) - 1)) * 29)))) + (wrap64 ((wrap64 (Int.tdiv (wrap64 ((wrap64 (s0_1 + 1)) - 1)) (s0_0.length : Int))) * 53)))) 64))) a1,(wrap64 (s0_1 + 1))))) else (none)) else (none)) else (none)) else (none)) = some (r1,r2):=by first|(rw [hji14] at H;exact H)|(simp only [hji14] at H ⊢;exact H)
      by_cases c15 : 0 ≤ (ji14)
      ·rw [if_pos c15] at H
       have c15b0 : decide (0 ≤ (ji14)) = true:=decide_eq_true c15
       clear c15
       by_cases c16 : (ji14) < (s0_0.length : Int)
       ·rw [if_pos c16] at H
        have c16b0 : decide ((ji14) < (s0_0.length : Int)) = true:=decide_eq_true c16
        clear c16
        obtain ⟨ji17,hji17⟩ : ∃ j_ : Int,(Int.tmod (wrap64 ((wrap64 ((wrap64 ((wrap64 (s0_1 + 1)) - 1)) * 7)) + 3)) (s0_0.length : Int)) = j_:=⟨_,rfl⟩
        replace H : (if 0 ≤ (ji17) then (if (ji17) < (s0_0.length : Int) then (if a1 = 0 then (none) else (some (Int.tmod (Go.bits .xor .i64 (wrap64 ((wrap64 ((wrap64 ((wrap64 ((wrap64 (rd s0_0 (ji14))) * 131)) + (wrap64 ((wrap64 (rd s0_0 (ji17))) * 1117)))) + (wrap64 ((wrap64 ((wrap64 (s0_1 + 1)) - 1)) * 29)))) + (wrap64 ((wrap64 (Int.tdiv (wrap64 ((wrap64 (s0_1 + 1)) - 1)) (s0_0.length : Int))) * 53)))) (wrap64 (Int.tdiv (wrap64 ((wrap64 ((wrap64 ((wrap64 ((wrap64 (rd s0_0 (ji14))) * 131)) + (wrap64 ((wrap64 (rd s0_0 (ji17))) * 1117)))) + (wrap64 ((wrap64 ((wrap64 (s0_1 + 1)) - 1)) * 29)))) + (wrap64 ((wrap64 (Int.tdiv (wrap64 ((wrap64 (s0_1 + 1)) - 1)) (s0_0.length : Int))) * 53)))) 64))) a1,(wrap64 (s0_1 + 1))))) else (none)) else (none)) = some (r1,r2):=by first|(rw [hji17] at H;exact H)|(simp only [hji17] at H ⊢;exact H)
        by_cases c18 : 0 ≤ (ji17)
        ·rw [if_pos c18] at H
         have c18b0 : decide (0 ≤ (ji17)) = true:=decide_eq_true c18
         clear c18
         by_cases c19 : (ji17) < (s0_0.length : Int)
         ·rw [if_pos c19] at H
          have c19b0 : decide ((ji17) < (s0_0.length : Int)) = true:=decide_eq_true c19
          clear c19
          by_cases c20 : a1 = 0
          ·rw [if_pos c20] at H
           exact absurd H (by simp)
          ·rw [if_neg c20] at H
           have c20b0 : (a1 == 0) = false:=beq_eq_false_iff_ne.mpr c20
           have c20b1 : (a1 != 0) = true:=bne_iff_ne.mpr c20
           simp only [Option.some.injEq,Prod.mk.injEq] at H
           obtain ⟨rfl,rfl⟩:=H
           obtain ⟨ASz21_0,cSz21_0,HGz21,hgz21,HSz21_0⟩:=HI0.out
           have hcz21_0:=cellS72_0 HGz21
           have hcz21_1:=cellS72_1 HGz21
           have hfz21_1:=bf_ HGz21 1
           clear HGz21 hgz21
           have p147 : 0 ≤ ((ji14) : Int):=od_ qa_
           have q147 : (ji14) < (s0_0.length : Int):=od_ qa_
           obtain ⟨ad147,e147,hx147_0⟩:=Kd.at_int HSz21_0 (ji14) p147 q147
           cases e147
           replace hx147_0:=pw_cell_below HB.out hx147_0
           replace p147:=eq_true p147
           replace q147:=eq_true q147
           have p148 : 0 ≤ ((ji17) : Int):=od_ qa_
           have q148 : (ji17) < (s0_0.length : Int):=od_ qa_
           obtain ⟨ad148,e148,hx148_0⟩:=Kd.at_int HSz21_0 (ji17) p148 q148
           obtain rfl : ad147 = ad148:=(by injection e148)
           replace hx148_0:=pw_cell_below HB.out hx148_0
           replace p148:=eq_true p148
           replace q148:=eq_true q148
           go_wp2
           repeat (go_quiet (fail);try go_wp2)
           go_ret
           exact ⟨by first|rfl|(simp [errW_none,errW_some] <;> rfl)|(simp only [← hji14,← hji17];first|rfl|(simp [errW_none,errW_some] <;> rfl))|(simp [*,errW_none,errW_some] <;> rfl),u2_ HI0,u4_ HB HI0,u3_ HK⟩
         ·rw [if_neg c19] at H
          exact absurd H (by simp)
        ·rw [if_neg c18] at H
         exact absurd H (by simp)
       ·rw [if_neg c16] at H
        exact absurd H (by simp)
      ·rw [if_neg c15] at H
       exact absurd H (by simp)

/-! ### spec_l21Rd_num: function 52 -/
def spec_l21Rd_num.f (k : Nat) (s0_0 : List Int) (s0_1 : Int) (l1 : List Int) : Option (Int × Int):=(spec_l21Rd_pick.f k s0_0 s0_1 (l1.length : Int)).bind fun bt149 => (if 0 ≤ bt149.1 then (if bt149.1 < (l1.length : Int) then (some (rd l1 bt149.1,bt149.2)) else (none)) else (none))
theorem spec_l21Rd_num.mono : ∀ a0 a1 a2 k,LeO (spec_l21Rd_num.f k a0 a1 a2) (spec_l21Rd_num.f (k + 1) a0 a1 a2):=by
 intro a0 a1 a2 k
 unfold spec_l21Rd_num.f
 repeat' first
   | (with_reducible exact spec_l21Rd_pick.mono _ _ _ _)
   | (with_reducible exact LeO.refl _)
   | (with_reducible exact LeO.none _)
   | (with_reducible refine LeO.ite ?_ ?_)
   | (with_reducible refine LeO.bind ?_ (fun _ => ?_))
   | exact spec_l21Rd_pick.mono _ _ _ _
   | exact LeO.none _
   | refine LeO.ite ?_ ?_
   | refine LeO.bind ?_ (fun _ => ?_)
set_option maxHeartbeats 8000000 in
set_option maxRecDepth 100000 in
theorem spec_l21Rd_num.calls (k : Nat) (g : Nat) (s0_0 : List Int) (s0_1 : Int) (A1 : Option Addr) (c1 : Nat) (l1 : List Int) (r1 : Int) (r2 : Int) (w0 w : World) (hI : IsS72 w0 w g s0_0 s0_1) (hB : Below w0.heap.size w0 w) (hr1 : Kd.C (Kd.int .i64) w A1 l1.length l1) (hc1 : l1.length ≤ c1) (hf1 : ∀ ad,A1 = some ad → 0 < l1.length → ad.block ≠ g) (h : spec_l21Rd_num.f k s0_0 s0_1 l1 = some (r1,r2)) :
  Calls Try.prog 52 #[.pointer (some ⟨g,0,none⟩),.slice A1 l1.length c1] w fun e w' => e = .returned (.int .i64 r1) ∧ IsS72 w0 w' g s0_0 r2 ∧ Below w0.heap.size w0 w' ∧ KeepBut w w' g none:=by
 have HR1:=mk_ hr1
 have HC1:=mk_ hc1
 clear hr1 hc1
 have HI0:=mk_ hI
 have HK:=mk_ (KeepBut.refl w g none)
 have HL:=mk_ hB.size
 clear hI
 have HW0:=mk_ hB.size
 have HB:=mk_ hB
 clear hB
 have H : ((spec_l21Rd_pick.f k s0_0 s0_1 (l1.length : Int)).bind fun bt149 => (if 0 ≤ bt149.1 then (if bt149.1 < (l1.length : Int) then (some (rd l1 bt149.1,bt149.2)) else (none)) else (none))) = some (r1,r2):=h
 clear h
 replace H:=Option.bind_eq_some_iff.mp H
 obtain ⟨⟨t149,t150⟩,A30,H⟩:=H
 replace H : (if 0 ≤ t149 then (if t149 < (l1.length : Int) then (some (rd l1 t149,t150)) else (none)) else (none)) = some (r1,r2):=H
 have A3:=mk_ A30
 clear A30
 by_cases c4 : 0 ≤ t149
 ·rw [if_pos c4] at H
  have c4b0 : decide (0 ≤ t149) = true:=decide_eq_true c4
  clear c4
  by_cases c5 : t149 < (l1.length : Int)
  ·rw [if_pos c5] at H
   have c5b0 : decide (t149 < (l1.length : Int)) = true:=decide_eq_true c5
   clear c5
   simp only [Option.some.injEq,Prod.mk.injEq] at H
   obtain ⟨rfl,rfl⟩:=H
   go_enter Try.func52,Try.ntmps52
   go_wp2_with (first|((with_reducible refine gate_callee (f:=53) rfl ?_);refine goesL_ (some 9) rfl rfl Try.func53 (by kernel_rfl) rfl #[.pointer (some ⟨g,0,none⟩),.int .i64 (l1.length : Int)] rfl qm_ ?_;(with_reducible refine (spec_l21Rd_pick.calls k g s0_0 s0_1 (l1.length : Int) t149 t150 w0 _ ?side1 ?side2 A3.out).mono ?_);(case side1 => exact u2_ HI0);(case side2 => exact u4_ HB HI0);rintro e w6 ⟨rfl,hi,hb,hk⟩;refine ⟨_,rfl,?_⟩;have n0_:=mk_ (KeepBut.trans (u3_ HK) hk (.inl rfl));have n1_:=mk_ (hb);have n2_:=mk_ (hi);clear HK HB HI0;have HK:=n0_;have HB:=n1_;have HI0:=n2_;clear n0_ n1_ n2_;(try clear hb);(try clear hb2);(try clear hk);(try clear hi);have p151 : 0 ≤ (t149 : Int):=od_ qa_;have q151 : t149 < (l1.length : Int):=od_ qa_;obtain ⟨ad151,e151,hx151_0⟩:=Kd.at_int HR1.out t149 p151 q151;cases e151;replace hx151_0:=keep_cell HK.out hx151_0 (by first|(rw [add_block];exact hf1 _ rfl (by omega))|exact hf1 _ rfl (by omega)|exact hf1 ad151 rfl (by omega));replace p151:=eq_true p151;replace q151:=eq_true q151))
   go_ret
   exact ⟨qe_,u2_ HI0,u4_ HB HI0,u3_ HK⟩
  ·rw [if_neg c5] at H
   exact absurd H (by simp)
 ·rw [if_neg c4] at H
  exact absurd H (by simp)

/-! ### spec_l14Draw: function 48 -/
def spec_l14Draw.l0 : Nat → Int → Int → List (S35) → Int → Int → List Int → Int → Option (Int × Int × (List (S35)) × Int)
 | 0,_,_,_,_,_,_,_ => none
 | k + 1,x5,x6,x7,x8,x9,x1000,x1001 => if x9 > 0 then ((spec_l21Rd_num.f k x1000 x1001 (([5,10,50] : List Int))).bind fun bt175 => ((spec_l21Rd_pick.f k x1000 bt175.2 bt175.1).bind fun bt177 => (if x7.length < 8796093022208 then ((spec_l21Rd_num.f k x1000 bt177.2 (([0,1,2,0,7,30] : List Int))).bind fun bt185 => (spec_l14Draw.l0 k x5 x6 (x7 ++ [(⟨x8,wrap64 (1 + bt177.1)⟩ : S35)]) (wrap64 (x8 + bt185.1)) (wrap64 (x9 - 1)) x1000 bt185.2)) else (none)))) else ((spec_l21Rd_pick.f k x1000 x1001 75).bind fun bt187 => (if bt187.1 = 0 then ((spec_l21Rd_num.f k x1000 bt187.2 (([0,21] : List Int))).bind fun bt192 => (some (bt192.1,x6,x7,bt192.2))) else (if bt187.1 = 1 then ((spec_l21Rd_num.f k x1000 bt187.2 (([0,101] : List Int))).bind fun bt197 => (some (x5,bt197.1,x7,bt197.2))) else (if bt187.1 = 2 then (if x7.length < 8796093022208 then (some (x5,x6,(x7 ++ [(⟨0,1⟩ : S35)]),bt187.2)) else (none)) else (if bt187.1 = 3 then ((spec_l21Rd_num.f k x1000 bt187.2 (([0,51] : List Int))).bind fun bt205 => (if x7.length < 8796093022208 then (some (x5,x6,(x7 ++ [(⟨x8,bt205.1⟩ : S35)]),bt205.2)) else (none))) else (if bt187.1 = 4 then (if x7.length < 8796093022208 then (some (x5,x6,(x7 ++ [(⟨2001,1⟩ : S35)]),bt187.2)) else (none)) else (some (x5,x6,x7,bt187.2))))))))
def spec_l14Draw.f (k : Nat) (s0_0 : List Int) (s0_1 : Int) : Option (Int × Int × (List (S35)) × Int):=(spec_l21Rd_num.f k s0_0 s0_1 (([1,2,5,20,3] : List Int))).bind fun bt155 => ((spec_l21Rd_num.f k s0_0 bt155.2 (([10,5,50,100,1,20] : List Int))).bind fun bt160 => ((spec_l21Rd_pick.f k s0_0 bt160.2 5).bind fun bt165 => ((spec_l21Rd_num.f k s0_0 bt165.2 (([5,9,2,0,20] : List Int))).bind fun bt170 => (spec_l14Draw.l0 k bt155.1 bt160.1 (([] : List (S35))) bt165.1 bt170.1 s0_0 bt170.2))))
theorem spec_l14Draw.mono_l : ∀ k,(∀ y0 y1 y2 y3 y4 y5 y6,LeO (spec_l14Draw.l0 k y0 y1 y2 y3 y4 y5 y6) (spec_l14Draw.l0 (k + 1) y0 y1 y2 y3 y4 y5 y6))
 | 0 => fun _ _ _ _ _ _ _ r h => by simp [spec_l14Draw.l0] at h
 | k + 1 => by
  have ih0:=spec_l14Draw.mono_l k
  ·intro y0 y1 y2 y3 y4 y5 y6
   unfold spec_l14Draw.l0
   repeat' first
   | (with_reducible exact ih0 _ _ _ _ _ _ _)
   | (with_reducible exact spec_l21Rd_num.mono _ _ _ _)
   | (with_reducible exact spec_l21Rd_pick.mono _ _ _ _)
   | (with_reducible exact LeO.refl _)
   | (with_reducible exact LeO.none _)
   | (with_reducible refine LeO.ite ?_ ?_)
   | (with_reducible refine LeO.bind ?_ (fun _ => ?_))
   | exact ih0 _ _ _ _ _ _ _
   | exact spec_l21Rd_num.mono _ _ _ _
   | exact spec_l21Rd_pick.mono _ _ _ _
   | exact LeO.none _
   | refine LeO.ite ?_ ?_
   | refine LeO.bind ?_ (fun _ => ?_)
theorem spec_l14Draw.mono : ∀ a0 a1 k,LeO (spec_l14Draw.f k a0 a1) (spec_l14Draw.f (k + 1) a0 a1):=by
 intro a0 a1 k
 have ih0:=spec_l14Draw.mono_l k
 unfold spec_l14Draw.f
 repeat' first
   | (with_reducible exact ih0 _ _ _ _ _ _ _)
   | (with_reducible exact spec_l21Rd_num.mono _ _ _ _)
   | (with_reducible exact spec_l21Rd_pick.mono _ _ _ _)
   | (with_reducible exact LeO.refl _)
   | (with_reducible exact LeO.none _)
   | (with_reducible refine LeO.ite ?_ ?_)
   | (with_reducible refine LeO.bind ?_ (fun _ => ?_))
   | exact ih0 _ _ _ _ _ _ _
   | exact spec_l21Rd_num.mono _ _ _ _
   | exact spec_l21Rd_pick.mono _ _ _ _
   | exact LeO.none _
   | refine LeO.ite ?_ ?_
   | refine LeO.bind ?_ (fun _ => ?_)
set_option maxHeartbeats 8000000 in
set_option maxRecDepth 100000 in
theorem spec_l14Draw.calls (k : Nat) (g : Nat) (s0_0 : List Int) (s0_1 : Int) (r1 : Int) (r2 : Int) (r3 : List (S35)) (r4 : Int) (w0 w : World) (hI : IsS72 w0 w g s0_0 s0_1) (hB : Below w0.heap.size w0 w) (h : spec_l14Draw.f k s0_0 s0_1 = some (r1,r2,r3,r4)) :
  Calls Try.prog 48 #[.pointer (some ⟨g,0,none⟩)] w fun e w' => ∃ v2_ : Value,e = .returned (.tuple #[.int .i64 r1,.int .i64 r2,v2_]) ∧ Kd.R k35 35 w' w.heap.size (fun _ => True) v2_ r3 ∧ IsS72 w0 w' g s0_0 r4 ∧ Below w0.heap.size w0 w' ∧ KeepBut w w' g none:=by
 have hu35:=Try.underlying35
 have HI0:=mk_ hI
 have HK:=mk_ (KeepBut.refl w g none)
 have HL:=mk_ hB.size
 clear hI
 have HW0:=mk_ hB.size
 have HB:=mk_ hB
 clear hB
 have H : ((spec_l21Rd_num.f k s0_0 s0_1 (([1,2,5,20,3] : List Int))).bind fun bt155 => ((spec_l21Rd_num.f k s0_0 bt155.2 (([10,5,50,100,1,20] : List Int))).bind fun bt160 => ((spec_l21Rd_pick.f k s0_0 bt160.2 5).bind fun bt165 => ((spec_l21Rd_num.f k s0_0 bt165.2 (([5,9,2,0,20] : List Int))).bind fun bt170 => (spec_l14Draw.l0 k bt155.1 bt160.1 (([] : List (S35))) bt165.1 bt170.1 s0_0 bt170.2))))) = some (r1,r2,r3,r4):=h
 clear h
 obtain ⟨y152,hy152⟩ : ∃ y_ : List Int,y_ = (([1,2,5,20,3] : List Int)):=⟨_,rfl⟩
 replace H : ((spec_l21Rd_num.f k s0_0 s0_1 y152).bind fun bt155 => ((spec_l21Rd_num.f k s0_0 bt155.2 (([10,5,50,100,1,20] : List Int))).bind fun bt160 => ((spec_l21Rd_pick.f k s0_0 bt160.2 5).bind fun bt165 => ((spec_l21Rd_num.f k s0_0 bt165.2 (([5,9,2,0,20] : List Int))).bind fun bt170 => (spec_l14Draw.l0 k bt155.1 bt160.1 (([] : List (S35))) bt165.1 bt170.1 s0_0 bt170.2))))) = some (r1,r2,r3,r4):=by first|(rw [hy152];with_reducible exact H)|(have H2_:=(Option.bind_some _ _).symm.trans H;rw [hy152];with_reducible exact H2_)|(have H2_:=(Option.bind_some _ _).symm.trans H;with_reducible exact H2_)|with_reducible exact H|(rw [hy152];exact H)|exact H
 have Ny152:=mk_ hy152
 clear hy152
 replace H:=Option.bind_eq_some_iff.mp H
 obtain ⟨⟨t155,t156⟩,A20,H⟩:=H
 replace H : ((spec_l21Rd_num.f k s0_0 t156 (([10,5,50,100,1,20] : List Int))).bind fun bt160 => ((spec_l21Rd_pick.f k s0_0 bt160.2 5).bind fun bt165 => ((spec_l21Rd_num.f k s0_0 bt165.2 (([5,9,2,0,20] : List Int))).bind fun bt170 => (spec_l14Draw.l0 k t155 bt160.1 (([] : List (S35))) bt165.1 bt170.1 s0_0 bt170.2)))) = some (r1,r2,r3,r4):=H
 have A2:=mk_ A20
 clear A20
 obtain ⟨y157,hy157⟩ : ∃ y_ : List Int,y_ = (([10,5,50,100,1,20] : List Int)):=⟨_,rfl⟩
 replace H : ((spec_l21Rd_num.f k s0_0 t156 y157).bind fun bt160 => ((spec_l21Rd_pick.f k s0_0 bt160.2 5).bind fun bt165 => ((spec_l21Rd_num.f k s0_0 bt165.2 (([5,9,2,0,20] : List Int))).bind fun bt170 => (spec_l14Draw.l0 k t155 bt160.1 (([] : List (S35))) bt165.1 bt170.1 s0_0 bt170.2)))) = some (r1,r2,r3,r4):=by first|(rw [hy157];with_reducible exact H)|(have H2_:=(Option.bind_some _ _).symm.trans H;rw [hy157];with_reducible exact H2_)|(have H2_:=(Option.bind_some _ _).symm.trans H;with_reducible exact H2_)|with_reducible exact H|(rw [hy157];exact H)|exact H
 have Ny157:=mk_ hy157
 clear hy157
 replace H:=Option.bind_eq_some_iff.mp H
 obtain ⟨⟨t160,t161⟩,A30,H⟩:=H
 replace H : ((spec_l21Rd_pick.f k s0_0 t161 5).bind fun bt165 => ((spec_l21Rd_num.f k s0_0 bt165.2 (([5,9,2,0,20] : List Int))).bind fun bt170 => (spec_l14Draw.l0 k t155 t160 (([] : List (S35))) bt165.1 bt170.1 s0_0 bt170.2))) = some (r1,r2,r3,r4):=H
 have A3:=mk_ A30
 clear A30
 obtain ⟨y162,hy162⟩ : ∃ y_ : List (S35),y_ = (([] : List (S35))):=⟨_,rfl⟩
 replace H : ((spec_l21Rd_pick.f k s0_0 t161 5).bind fun bt165 => ((spec_l21Rd_num.f k s0_0 bt165.2 (([5,9,2,0,20] : List Int))).bind fun bt170 => (spec_l14Draw.l0 k t155 t160 y162 bt165.1 bt170.1 s0_0 bt170.2))) = some (r1,r2,r3,r4):=by first|(rw [hy162];with_reducible exact H)|(have H2_:=(Option.bind_some _ _).symm.trans H;rw [hy162];with_reducible exact H2_)|(have H2_:=(Option.bind_some _ _).symm.trans H;with_reducible exact H2_)|with_reducible exact H|(rw [hy162];exact H)|exact H
 have Ny162:=mk_ hy162
 clear hy162
 replace H:=Option.bind_eq_some_iff.mp H
 obtain ⟨⟨t165,t166⟩,A40,H⟩:=H
 replace H : ((spec_l21Rd_num.f k s0_0 t166 (([5,9,2,0,20] : List Int))).bind fun bt170 => (spec_l14Draw.l0 k t155 t160 y162 t165 bt170.1 s0_0 bt170.2)) = some (r1,r2,r3,r4):=H
 have A4:=mk_ A40
 clear A40
 obtain ⟨y167,hy167⟩ : ∃ y_ : List Int,y_ = (([5,9,2,0,20] : List Int)):=⟨_,rfl⟩
 replace H : ((spec_l21Rd_num.f k s0_0 t166 y167).bind fun bt170 => (spec_l14Draw.l0 k t155 t160 y162 t165 bt170.1 s0_0 bt170.2)) = some (r1,r2,r3,r4):=by first|(rw [hy167];with_reducible exact H)|(have H2_:=(Option.bind_some _ _).symm.trans H;rw [hy167];with_reducible exact H2_)|(have H2_:=(Option.bind_some _ _).symm.trans H;with_reducible exact H2_)|with_reducible exact H|(rw [hy167];exact H)|exact H
 have Ny167:=mk_ hy167
 clear hy167
 replace H:=Option.bind_eq_some_iff.mp H
 obtain ⟨⟨t170,t171⟩,A50,H⟩:=H
 replace H : (spec_l14Draw.l0 k t155 t160 y162 t165 t170 s0_0 t171) = some (r1,r2,r3,r4):=H
 have A5:=mk_ A50
 clear A50
 have H':=mk_ H
 clear H
 go_enter Try.func48,Try.ntmps48
 go_wp2_with (first|((with_reducible refine gate_dst (N:=11) rfl ?_);refine Kd.R_lit (Kd.int .i64) _ 3 ?hg (N:=11) ?hd (xs:=([1,2,5,20,3] : List Int)) (inner:=[.int .i64 1,.int .i64 2,.int .i64 5,.int .i64 20,.int .i64 3]) (ok:=fun _ => True) (okp:=fun _ => True) ?hr ?hp (fun _ hk => hk) trivial (Below.refl _ _) (Nat.le_refl _) (by simp) ?_;(case hd => rfl);(case hg => rfl);(case hr => first|(go_simp;done)|(go_simp;rfl));(case hp => exact (Reps.one (show Kd.M (Kd.int .i64) _ _ _ 1 [.int .i64 1] from rfl) (Reps.one (show Kd.M (Kd.int .i64) _ _ _ 2 [.int .i64 2] from rfl) (Reps.one (show Kd.M (Kd.int .i64) _ _ _ 5 [.int .i64 5] from rfl) (Reps.one (show Kd.M (Kd.int .i64) _ _ _ 20 [.int .i64 20] from rfl) (Reps.one (show Kd.M (Kd.int .i64) _ _ _ 3 [.int .i64 3] from rfl) (Reps.none _ _)))))));intro v153 w6 ho7 hb hg_ hnew_;clear hg_ hnew_;(first|rw [← Ny152.out] at ho7|(simp only [Int.reduceToNat] at ho7;rw [← Ny152.out] at ho7));have n0_:=mk_ (Kd.R_lower ho7 (keep_size (w:=w) (g:=g) (row:=none) (u3_ HK)));have n1_:=mk_ (IsS72.below (u2_ HI0) hb);have n2_:=mk_ (KeepBut.trans (u3_ HK) (KeepBut.of_below hb g none) (.inl rfl));have n3_:=mk_ (st_ (u4_ HB HI0) hb);clear HI0 HK HB;have HO154:=n0_;have HI0:=n1_;have HK:=n2_;have HB:=n3_;clear n0_ n1_ n2_ n3_ hb ho7;obtain ⟨Ao8,co8,eo8⟩:=Kd.R_slice HO154.out;subst eo8)|((with_reducible refine gate_callee (f:=52) rfl ?_);refine goesL_ (some 12) rfl rfl Try.func52 (by kernel_rfl) rfl #[.pointer (some ⟨g,0,none⟩),.slice Ao8 y152.length co8] rfl qm_ ?_;(with_reducible refine (spec_l21Rd_num.calls k g s0_0 s0_1 _ _ y152 t155 t156 w0 _ ?side1 ?side2 ?side3 ?side4 ?side5 A2.out).mono ?_);(case side1 => exact u2_ HI0);(case side2 => exact u4_ HB HI0);(case side3 => repeat (first|exact (rr_ HO154.out).2.2|(with_reducible refine ca_ ?_ _)|(with_reducible refine cn_ ?_ _)|(with_reducible refine cd_ ?_)));(case side4 => exact (rr_ HO154.out).2.1);(case side5 => exact far_slice (IsS72.own_ne HI0.out HO154.out (by decide)));rintro e w9 ⟨rfl,hi,hb,hk⟩;refine ⟨_,rfl,?_⟩;have n0_:=mk_ (rm_ (Kd.R_keep (IsS72.apart (show IsS72 w0 _ g s0_0 s0_1 from u2_ HI0) (qr_ HO154) (by decide)) hk (fun _ h => h.2)) (fun _ h => h.1));have n1_:=mk_ (KeepBut.trans (u3_ HK) hk (.inl rfl));have n2_:=mk_ (hb);have n3_:=mk_ (hi);clear HO154 HK HB HI0;have HO154:=n0_;have HK:=n1_;have HB:=n2_;have HI0:=n3_;clear n0_ n1_ n2_ n3_;(try clear hb);(try clear hb2);(try clear hk);(try clear hi))|((with_reducible refine gate_dst (N:=14) rfl ?_);refine Kd.R_lit (Kd.int .i64) _ 3 ?hg (N:=14) ?hd (xs:=([10,5,50,100,1,20] : List Int)) (inner:=[.int .i64 10,.int .i64 5,.int .i64 50,.int .i64 100,.int .i64 1,.int .i64 20]) (ok:=fun _ => True) (okp:=fun _ => True) ?hr ?hp (fun _ hk => hk) trivial (Below.refl _ _) (Nat.le_refl _) (by simp) ?_;(case hd => rfl);(case hg => rfl);(case hr => first|(go_simp;done)|(go_simp;rfl));(case hp => exact (Reps.one (show Kd.M (Kd.int .i64) _ _ _ 10 [.int .i64 10] from rfl) (Reps.one (show Kd.M (Kd.int .i64) _ _ _ 5 [.int .i64 5] from rfl) (Reps.one (show Kd.M (Kd.int .i64) _ _ _ 50 [.int .i64 50] from rfl) (Reps.one (show Kd.M (Kd.int .i64) _ _ _ 100 [.int .i64 100] from rfl) (Reps.one (show Kd.M (Kd.int .i64) _ _ _ 1 [.int .i64 1] from rfl) (Reps.one (show Kd.M (Kd.int .i64) _ _ _ 20 [.int .i64 20] from rfl) (Reps.none _ _))))))));intro v158 w10 ho11 hb hg_ hnew_;clear hg_ hnew_;(first|rw [← Ny157.out] at ho11|(simp only [Int.reduceToNat] at ho11;rw [← Ny157.out] at ho11));have n0_:=mk_ (re_ (qr_ HO154) (Kd.R_base ho11) hb);have n1_:=mk_ (Kd.R_lower (Kd.R_new' ho11 (Kd.R_lt (qr_ HO154))) (keep_size (w:=w) (g:=g) (row:=none) (u3_ HK)));have n2_:=mk_ (IsS72.below (u2_ HI0) hb);have n3_:=mk_ (KeepBut.trans (u3_ HK) (KeepBut.of_below hb g none) (.inl rfl));have n4_:=mk_ (st_ (u4_ HB HI0) hb);clear HO154 HI0 HK HB;have HO154:=n0_;have HO159:=n1_;have HI0:=n2_;have HK:=n3_;have HB:=n4_;clear n0_ n1_ n2_ n3_ n4_ hb ho11;obtain ⟨Ao12,co12,eo12⟩:=Kd.R_slice HO159.out;subst eo12)|((with_reducible refine gate_callee (f:=52) rfl ?_);refine goesL_ (some 15) rfl rfl Try.func52 (by kernel_rfl) rfl #[.pointer (some ⟨g,0,none⟩),.slice Ao12 y157.length co12] rfl qm_ ?_;(with_reducible refine (spec_l21Rd_num.calls k g s0_0 t156 _ _ y157 t160 t161 w0 _ ?side1 ?side2 ?side3 ?side4 ?side5 A3.out).mono ?_);(case side1 => exact u2_ HI0);(case side2 => exact u4_ HB HI0);(case side3 => repeat (first|exact (rr_ HO159.out).2.2|(with_reducible refine ca_ ?_ _)|(with_reducible refine cn_ ?_ _)|(with_reducible refine cd_ ?_)));(case side4 => exact (rr_ HO159.out).2.1);(case side5 => exact far_slice (IsS72.own_ne HI0.out HO159.out (by decide)));rintro e w13 ⟨rfl,hi,hb,hk⟩;refine ⟨_,rfl,?_⟩;have n0_:=mk_ (rm_ (Kd.R_keep (IsS72.apart (show IsS72 w0 _ g s0_0 t156 from u2_ HI0) (qr_ HO154) (by decide)) hk (fun _ h => h.2)) (fun _ h => h.1));have n1_:=mk_ (rm_ (Kd.R_keep (IsS72.apart (show IsS72 w0 _ g s0_0 t156 from u2_ HI0) (qr_ HO159) (by decide)) hk (fun _ h => h.2)) (fun _ h => h.1));have n2_:=mk_ (KeepBut.trans (u3_ HK) hk (.inl rfl));have n3_:=mk_ (hb);have n4_:=mk_ (hi);clear HO154 HO159 HK HB HI0;have HO154:=n0_;have HO159:=n1_;have HK:=n2_;have HB:=n3_;have HI0:=n4_;clear n0_ n1_ n2_ n3_ n4_;(try clear hb);(try clear hb2);(try clear hk);(try clear hi))|((with_reducible refine gate_dst (N:=16) rfl ?_);refine Kd.R_lit k35 _ 35 ?hg (N:=16) ?hd (xs:=([] : List (S35))) (inner:=[]) (ok:=fun _ => True) (okp:=fun _ => True) ?hr ?hp (fun _ hk => hk) trivial (Below.refl _ _) (Nat.le_refl _) (by simp) ?_;(case hd => rfl);(case hg => rfl);(case hr => first|(go_simp;done)|(go_simp;rfl));(case hp => exact (Reps.none _ _));intro v163 w14 ho15 hb hg_ hnew_;clear hg_ hnew_;(first|rw [← Ny162.out] at ho15|(simp only [Int.reduceToNat] at ho15;rw [← Ny162.out] at ho15));have n0_:=mk_ (rb_ (qr_ HO154) hb);have n1_:=mk_ (rb_ (qr_ HO159) hb);have n2_:=mk_ (Kd.R_lower ho15 (keep_size (w:=w) (g:=g) (row:=none) (u3_ HK)));have n3_:=mk_ (IsS72.below (u2_ HI0) hb);have n4_:=mk_ (KeepBut.trans (u3_ HK) (KeepBut.of_below hb g none) (.inl rfl));have n5_:=mk_ (st_ (u4_ HB HI0) hb);clear HO154 HO159 HI0 HK HB;have HO154:=n0_;have HO159:=n1_;have HO164:=n2_;have HI0:=n3_;have HK:=n4_;have HB:=n5_;clear n0_ n1_ n2_ n3_ n4_ n5_ hb ho15)|((with_reducible refine gate_callee (f:=53) rfl ?_);refine goesL_ (some 18) rfl rfl Try.func53 (by kernel_rfl) rfl #[.pointer (some ⟨g,0,none⟩),.int .i64 5] rfl qm_ ?_;(with_reducible refine (spec_l21Rd_pick.calls k g s0_0 t161 5 t165 t166 w0 _ ?side1 ?side2 A4.out).mono ?_);(case side1 => exact u2_ HI0);(case side2 => exact u4_ HB HI0);rintro e w16 ⟨rfl,hi,hb,hk⟩;refine ⟨_,rfl,?_⟩;have n0_:=mk_ (rm_ (Kd.R_keep (IsS72.apart (show IsS72 w0 _ g s0_0 t161 from u2_ HI0) (qr_ HO154) (by decide)) hk (fun _ h => h.2)) (fun _ h => h.1));have n1_:=mk_ (rm_ (Kd.R_keep (IsS72.apart (show IsS72 w0 _ g s0_0 t161 from u2_ HI0) (qr_ HO159) (by decide)) hk (fun _ h => h.2)) (fun _ h => h.1));have n2_:=mk_ (rm_ (Kd.R_keep (IsS72.apart (show IsS72 w0 _ g s0_0 t161 from u2_ HI0) (qr_ HO164) (by decide)) hk (fun _ h => h.2)) (fun _ h => h.1));have n3_:=mk_ (KeepBut.trans (u3_ HK) hk (.inl rfl));have n4_:=mk_ (hb);have n5_:=mk_ (hi);clear HO154 HO159 HO164 HK HB HI0;have HO154:=n0_;have HO159:=n1_;have HO164:=n2_;have HK:=n3_;have HB:=n4_;have HI0:=n5_;clear n0_ n1_ n2_ n3_ n4_ n5_;(try clear hb);(try clear hb2);(try clear hk);(try clear hi))|((with_reducible refine gate_dst (N:=20) rfl ?_);refine Kd.R_lit (Kd.int .i64) _ 3 ?hg (N:=20) ?hd (xs:=([5,9,2,0,20] : List Int)) (inner:=[.int .i64 5,.int .i64 9,.int .i64 2,.int .i64 0,.int .i64 20]) (ok:=fun _ => True) (okp:=fun _ => True) ?hr ?hp (fun _ hk => hk) trivial (Below.refl _ _) (Nat.le_refl _) (by simp) ?_;(case hd => rfl);(case hg => rfl);(case hr => first|(go_simp;done)|(go_simp;rfl));(case hp => exact (Reps.one (show Kd.M (Kd.int .i64) _ _ _ 5 [.int .i64 5] from rfl) (Reps.one (show Kd.M (Kd.int .i64) _ _ _ 9 [.int .i64 9] from rfl) (Reps.one (show Kd.M (Kd.int .i64) _ _ _ 2 [.int .i64 2] from rfl) (Reps.one (show Kd.M (Kd.int .i64) _ _ _ 0 [.int .i64 0] from rfl) (Reps.one (show Kd.M (Kd.int .i64) _ _ _ 20 [.int .i64 20] from rfl) (Reps.none _ _)))))));intro v168 w17 ho18 hb hg_ hnew_;clear hg_ hnew_;(first|rw [← Ny167.out] at ho18|(simp only [Int.reduceToNat] at ho18;rw [← Ny167.out] at ho18));have n0_:=mk_ (re_ (qr_ HO154) (Kd.R_base ho18) hb);have n1_:=mk_ (re_ (qr_ HO159) (Kd.R_base ho18) hb);have n2_:=mk_ (rb_ (qr_ HO164) hb);have n3_:=mk_ (Kd.R_lower (Kd.R_new' (Kd.R_new' ho18 (Kd.R_lt (qr_ HO154))) (Kd.R_lt (qr_ HO159))) (keep_size (w:=w) (g:=g) (row:=none) (u3_ HK)));have n4_:=mk_ (IsS72.below (u2_ HI0) hb);have n5_:=mk_ (KeepBut.trans (u3_ HK) (KeepBut.of_below hb g none) (.inl rfl));have n6_:=mk_ (st_ (u4_ HB HI0) hb);clear HO154 HO159 HO164 HI0 HK HB;have HO154:=n0_;have HO159:=n1_;have HO164:=n2_;have HO169:=n3_;have HI0:=n4_;have HK:=n5_;have HB:=n6_;clear n0_ n1_ n2_ n3_ n4_ n5_ n6_ hb ho18;obtain ⟨Ao19,co19,eo19⟩:=Kd.R_slice HO169.out;subst eo19)|((with_reducible refine gate_callee (f:=52) rfl ?_);refine goesL_ (some 21) rfl rfl Try.func52 (by kernel_rfl) rfl #[.pointer (some ⟨g,0,none⟩),.slice Ao19 y167.length co19] rfl qm_ ?_;(with_reducible refine (spec_l21Rd_num.calls k g s0_0 t166 _ _ y167 t170 t171 w0 _ ?side1 ?side2 ?side3 ?side4 ?side5 A5.out).mono ?_);(case side1 => exact u2_ HI0);(case side2 => exact u4_ HB HI0);(case side3 => repeat (first|exact (rr_ HO169.out).2.2|(with_reducible refine ca_ ?_ _)|(with_reducible refine cn_ ?_ _)|(with_reducible refine cd_ ?_)));(case side4 => exact (rr_ HO169.out).2.1);(case side5 => exact far_slice (IsS72.own_ne HI0.out HO169.out (by decide)));rintro e w20 ⟨rfl,hi,hb,hk⟩;refine ⟨_,rfl,?_⟩;have n0_:=mk_ (rm_ (Kd.R_keep (IsS72.apart (show IsS72 w0 _ g s0_0 t166 from u2_ HI0) (qr_ HO154) (by decide)) hk (fun _ h => h.2)) (fun _ h => h.1));have n1_:=mk_ (rm_ (Kd.R_keep (IsS72.apart (show IsS72 w0 _ g s0_0 t166 from u2_ HI0) (qr_ HO159) (by decide)) hk (fun _ h => h.2)) (fun _ h => h.1));have n2_:=mk_ (rm_ (Kd.R_keep (IsS72.apart (show IsS72 w0 _ g s0_0 t166 from u2_ HI0) (qr_ HO164) (by decide)) hk (fun _ h => h.2)) (fun _ h => h.1));have n3_:=mk_ (rm_ (Kd.R_keep (IsS72.apart (show IsS72 w0 _ g s0_0 t166 from u2_ HI0) (qr_ HO169) (by decide)) hk (fun _ h => h.2)) (fun _ h => h.1));have n4_:=mk_ (KeepBut.trans (u3_ HK) hk (.inl rfl));have n5_:=mk_ (hb);have n6_:=mk_ (hi);clear HO154 HO159 HO164 HO169 HK HB HI0;have HO154:=n0_;have HO159:=n1_;have HO164:=n2_;have HO169:=n3_;have HK:=n4_;have HB:=n5_;have HI0:=n6_;clear n0_ n1_ n2_ n3_ n4_ n5_ n6_;(try clear hb);(try clear hb2);(try clear hk);(try clear hi)))
 go_loopg [7,8,9] k (fun kq v7 v8 v9 w' => ∃ (x7_1 : List (S35)) (x8_1 : Int) (x9_1 : Int) (x1001_1 : Int),v8 = .int .i64 x8_1 ∧ v9 = .int .i64 x9_1 ∧ Aside0 (spec_l14Draw.l0 kq t155 t160 x7_1 x8_1 x9_1 s0_0 x1001_1 = some (r1,r2,r3,r4)) ∧ Aside0 (kq ≤ k) ∧ Aside0 (Kd.R k35 35 w' w.heap.size (fun _ => True) v7 x7_1) ∧ Aside0 (IsS72 w0 w' g s0_0 x1001_1) ∧ Aside0 (KeepBut w w' g none) ∧ Aside0 (Below w0.heap.size w0 w'))
 case atStart => exact ⟨(y162),(t165),(t170),(t171),qf_,qf_,H',⟨Nat.le_refl _⟩,⟨qr_ HO164⟩,⟨u2_ HI0⟩,⟨u3_ HK⟩,⟨u4_ HB HI0⟩⟩
 case round =>
  clear H'
  try clear p2
  try clear c4
  try clear c5
  obtain ⟨x7_1,x8_1,x9_1,x1001_1,rfl,rfl,HA,HK1,HO_7,HI0,HK,HB⟩:=hrel
  cases gk with
  | zero => exact absurd HA.out (by simp [spec_l14Draw.l0])
  | succ k1 =>
   have H:=HA.out
   clear HA
   simp only [spec_l14Draw.l0] at H
   by_cases c21 : x9_1 > 0
   ·rw [if_pos c21] at H
    have c21b0 : decide (0 < x9_1) = true:=decide_eq_true c21
    clear c21
    obtain ⟨y172,hy172⟩ : ∃ y_ : List Int,y_ = (([5,10,50] : List Int)):=⟨_,rfl⟩
    replace H : ((spec_l21Rd_num.f k1 s0_0 x1001_1 y172).bind fun bt175 => ((spec_l21Rd_pick.f k1 s0_0 bt175.2 bt175.1).bind fun bt177 => (if x7_1.length < 8796093022208 then ((spec_l21Rd_num.f k1 s0_0 bt177.2 (([0,1,2,0,7,30] : List Int))).bind fun bt185 => (spec_l14Draw.l0 k1 t155 t160 (x7_1 ++ [(⟨x8_1,wrap64 (1 + bt177.1)⟩ : S35)]) (wrap64 (x8_1 + bt185.1)) (wrap64 (x9_1 - 1)) s0_0 bt185.2)) else (none)))) = some (r1,r2,r3,r4):=by first|(rw [hy172];with_reducible exact H)|(have H2_:=(Option.bind_some _ _).symm.trans H;rw [hy172];with_reducible exact H2_)|(have H2_:=(Option.bind_some _ _).symm.trans H;with_reducible exact H2_)|with_reducible exact H|(rw [hy172];exact H)|exact H
    have Ny172:=mk_ hy172
    clear hy172
    replace H:=Option.bind_eq_some_iff.mp H
    obtain ⟨⟨t175,t176⟩,A220,H⟩:=H
    replace H : ((spec_l21Rd_pick.f k1 s0_0 t176 t175).bind fun bt177 => (if x7_1.length < 8796093022208 then ((spec_l21Rd_num.f k1 s0_0 bt177.2 (([0,1,2,0,7,30] : List Int))).bind fun bt185 => (spec_l14Draw.l0 k1 t155 t160 (x7_1 ++ [(⟨x8_1,wrap64 (1 + bt177.1)⟩ : S35)]) (wrap64 (x8_1 + bt185.1)) (wrap64 (x9_1 - 1)) s0_0 bt185.2)) else (none))) = some (r1,r2,r3,r4):=H
    have A22:=mk_ A220
    clear A220
    replace H:=Option.bind_eq_some_iff.mp H
    obtain ⟨⟨t177,t178⟩,A230,H⟩:=H
    replace H : (if x7_1.length < 8796093022208 then ((spec_l21Rd_num.f k1 s0_0 t178 (([0,1,2,0,7,30] : List Int))).bind fun bt185 => (spec_l14Draw.l0 k1 t155 t160 (x7_1 ++ [(⟨x8_1,wrap64 (1 + t177)⟩ : S35)]) (wrap64 (x8_1 + bt185.1)) (wrap64 (x9_1 - 1)) s0_0 bt185.2)) else (none)) = some (r1,r2,r3,r4):=H
    have A23:=mk_ A230
    clear A230
    by_cases c24 : x7_1.length < 8796093022208
    ·rw [if_pos c24] at H
     have LMc24:=mk_ c24
     clear c24
     obtain ⟨y179,hy179⟩ : ∃ y_ : List (S35),y_ = (x7_1 ++ [(⟨x8_1,wrap64 (1 + t177)⟩ : S35)]):=⟨_,rfl⟩
     replace H : ((spec_l21Rd_num.f k1 s0_0 t178 (([0,1,2,0,7,30] : List Int))).bind fun bt185 => (spec_l14Draw.l0 k1 t155 t160 y179 (wrap64 (x8_1 + bt185.1)) (wrap64 (x9_1 - 1)) s0_0 bt185.2)) = some (r1,r2,r3,r4):=by first|(rw [hy179];with_reducible exact H)|(have H2_:=(Option.bind_some _ _).symm.trans H;rw [hy179];with_reducible exact H2_)|(have H2_:=(Option.bind_some _ _).symm.trans H;with_reducible exact H2_)|with_reducible exact H|(rw [hy179];exact H)|exact H
     have Ny179:=mk_ hy179
     clear hy179
     obtain ⟨y182,hy182⟩ : ∃ y_ : List Int,y_ = (([0,1,2,0,7,30] : List Int)):=⟨_,rfl⟩
     replace H : ((spec_l21Rd_num.f k1 s0_0 t178 y182).bind fun bt185 => (spec_l14Draw.l0 k1 t155 t160 y179 (wrap64 (x8_1 + bt185.1)) (wrap64 (x9_1 - 1)) s0_0 bt185.2)) = some (r1,r2,r3,r4):=by first|(rw [hy182];with_reducible exact H)|(have H2_:=(Option.bind_some _ _).symm.trans H;rw [hy182];with_reducible exact H2_)|(have H2_:=(Option.bind_some _ _).symm.trans H;with_reducible exact H2_)|with_reducible exact H|(rw [hy182];exact H)|exact H
     have Ny182:=mk_ hy182
     clear hy182
     replace H:=Option.bind_eq_some_iff.mp H
     obtain ⟨⟨t185,t186⟩,A250,H⟩:=H
     replace H : (spec_l14Draw.l0 k1 t155 t160 y179 (wrap64 (x8_1 + t185)) (wrap64 (x9_1 - 1)) s0_0 t186) = some (r1,r2,r3,r4):=H
     have A25:=mk_ A250
     clear A250
     have H':=mk_ H
     clear H
     go_wp2_with (first|((with_reducible refine gate_dst (N:=30) rfl ?_);refine Kd.R_lit (Kd.int .i64) _ 3 ?hg (N:=30) ?hd (xs:=([5,10,50] : List Int)) (inner:=[.int .i64 5,.int .i64 10,.int .i64 50]) (ok:=fun _ => True) (okp:=fun _ => True) ?hr ?hp (fun _ hk => hk) trivial (Below.refl _ _) (Nat.le_refl _) (by simp) ?_;(case hd => rfl);(case hg => rfl);(case hr => first|(go_simp;done)|(go_simp;rfl));(case hp => exact (Reps.one (show Kd.M (Kd.int .i64) _ _ _ 5 [.int .i64 5] from rfl) (Reps.one (show Kd.M (Kd.int .i64) _ _ _ 10 [.int .i64 10] from rfl) (Reps.one (show Kd.M (Kd.int .i64) _ _ _ 50 [.int .i64 50] from rfl) (Reps.none _ _)))));intro v173 w26 ho27 hb hg_ hnew_;clear hg_ hnew_;(first|rw [← Ny172.out] at ho27|(simp only [Int.reduceToNat] at ho27;rw [← Ny172.out] at ho27));have n0_:=mk_ (rb_ (qr_ HO_7) hb);have n1_:=mk_ (Kd.R_lower ho27 (keep_size (w:=w) (g:=g) (row:=none) (u3_ HK)));have n2_:=mk_ (IsS72.below (u2_ HI0) hb);have n3_:=mk_ (KeepBut.trans (u3_ HK) (KeepBut.of_below hb g none) (.inl rfl));have n4_:=mk_ (st_ (u4_ HB HI0) hb);clear HO_7 HI0 HK HB;have HO_7:=n0_;have HO174:=n1_;have HI0:=n2_;have HK:=n3_;have HB:=n4_;clear n0_ n1_ n2_ n3_ n4_ hb ho27;obtain ⟨Ao28,co28,eo28⟩:=Kd.R_slice HO174.out;subst eo28)|((with_reducible refine gate_callee (f:=52) rfl ?_);refine goesL_ (some 31) rfl rfl Try.func52 (by kernel_rfl) rfl #[.pointer (some ⟨g,0,none⟩),.slice Ao28 y172.length co28] rfl qm_ ?_;(with_reducible refine (spec_l21Rd_num.calls k1 g s0_0 x1001_1 _ _ y172 t175 t176 w0 _ ?side1 ?side2 ?side3 ?side4 ?side5 A22.out).mono ?_);(case side1 => exact u2_ HI0);(case side2 => exact u4_ HB HI0);(case side3 => repeat (first|exact (rr_ HO174.out).2.2|(with_reducible refine ca_ ?_ _)|(with_reducible refine cn_ ?_ _)|(with_reducible refine cd_ ?_)));(case side4 => exact (rr_ HO174.out).2.1);(case side5 => exact far_slice (IsS72.own_ne HI0.out HO174.out (by decide)));rintro e w29 ⟨rfl,hi,hb,hk⟩;refine ⟨_,rfl,?_⟩;have n0_:=mk_ (rm_ (Kd.R_keep (IsS72.apart (show IsS72 w0 _ g s0_0 x1001_1 from u2_ HI0) (qr_ HO_7) (by decide)) hk (fun _ h => h.2)) (fun _ h => h.1));have n1_:=mk_ (rm_ (Kd.R_keep (IsS72.apart (show IsS72 w0 _ g s0_0 x1001_1 from u2_ HI0) (qr_ HO174) (by decide)) hk (fun _ h => h.2)) (fun _ h => h.1));have n2_:=mk_ (KeepBut.trans (u3_ HK) hk (.inl rfl));have n3_:=mk_ (hb);have n4_:=mk_ (hi);clear HO_7 HO174 HK HB HI0;have HO_7:=n0_;have HO174:=n1_;have HK:=n2_;have HB:=n3_;have HI0:=n4_;clear n0_ n1_ n2_ n3_ n4_;(try clear hb);(try clear hb2);(try clear hk);(try clear hi))|((with_reducible refine gate_callee (f:=53) rfl ?_);refine goesL_ (some 32) rfl rfl Try.func53 (by kernel_rfl) rfl #[.pointer (some ⟨g,0,none⟩),.int .i64 t175] rfl qm_ ?_;(with_reducible refine (spec_l21Rd_pick.calls k1 g s0_0 t176 t175 t177 t178 w0 _ ?side1 ?side2 A23.out).mono ?_);(case side1 => exact u2_ HI0);(case side2 => exact u4_ HB HI0);rintro e w30 ⟨rfl,hi,hb,hk⟩;refine ⟨_,rfl,?_⟩;have n0_:=mk_ (rm_ (Kd.R_keep (IsS72.apart (show IsS72 w0 _ g s0_0 t176 from u2_ HI0) (qr_ HO_7) (by decide)) hk (fun _ h => h.2)) (fun _ h => h.1));have n1_:=mk_ (rm_ (Kd.R_keep (IsS72.apart (show IsS72 w0 _ g s0_0 t176 from u2_ HI0) (qr_ HO174) (by decide)) hk (fun _ h => h.2)) (fun _ h => h.1));have n2_:=mk_ (KeepBut.trans (u3_ HK) hk (.inl rfl));have n3_:=mk_ (hb);have n4_:=mk_ (hi);clear HO_7 HO174 HK HB HI0;have HO_7:=n0_;have HO174:=n1_;have HK:=n2_;have HB:=n3_;have HI0:=n4_;clear n0_ n1_ n2_ n3_ n4_;(try clear hb);(try clear hb2);(try clear hk);(try clear hi))|((with_reducible refine gate_builtin (b:=.append) (xs:=#[.tmp 26,.tmp 35]) rfl ?_);at_builtin;refine Kd.R_append k35 w.heap.size rfl (.tmp 26) (.tmp 35) 25 35 (.agg #[(.int .i64 0),(.int .i64 0)]) 16 rfl Try.underlying25 info35 rfl (by decide) (by omega) u7 x7_1 (⟨x8_1,wrap64 (1 + t177)⟩ : S35) [.int .i64 x8_1,.int .i64 (wrap64 (1 + t177))] (fun _ => True) (fun _ => False) rfl rfl ?aP (fun _ hk => hk.elim) ?aF ?aO (Below.refl _ _) ?aS ?aL ?_;(case aP => exact k35_mkM _ _ _ (⟨x8_1,wrap64 (1 + t177)⟩ : S35));(case aF => exact (fun _ _ => trivial));(case aO => exact (qr_ HO_7));(case aS => exact (keep_size (w:=w) (g:=g) (row:=none) (u3_ HK)));(case aL => have:=LMc24.out;omega);intro v180 w31 ho hb hg hat;rw [← Ny179.out] at ho;have n0_:=mk_ (IsS72.grown (u2_ HI0) hg (IsS72.own_ne HI0.out HO_7.out (by decide)));have n1_:=mk_ (Kd.R_over' (qr_ HO174) (Kd.R_typed (qr_ HO_7)) (by decide) hg);have n2_:=mk_ (below_weaken (u4_ HB HI0) HL.out hb);have n3_:=mk_ (KeepBut.trans (u3_ HK) (KeepBut.of_grown hg g) (Kd.R_base2 HO_7.out));have n4_:=mk_ (ho);clear HI0 HO174 HB HK HO_7;have HI0:=n0_;have HO174:=n1_;have HB:=n2_;have HK:=n3_;have HO181:=n4_;clear n0_ n1_ n2_ n3_ n4_ ho hb hg hat)|((with_reducible refine gate_dst (N:=39) rfl ?_);refine Kd.R_lit (Kd.int .i64) _ 3 ?hg (N:=39) ?hd (xs:=([0,1,2,0,7,30] : List Int)) (inner:=[.int .i64 0,.int .i64 1,.int .i64 2,.int .i64 0,.int .i64 7,.int .i64 30]) (ok:=fun _ => True) (okp:=fun _ => True) ?hr ?hp (fun _ hk => hk) trivial (Below.refl _ _) (Nat.le_refl _) (by simp) ?_;(case hd => rfl);(case hg => rfl);(case hr => first|(go_simp;done)|(go_simp;rfl));(case hp => exact (Reps.one (show Kd.M (Kd.int .i64) _ _ _ 0 [.int .i64 0] from rfl) (Reps.one (show Kd.M (Kd.int .i64) _ _ _ 1 [.int .i64 1] from rfl) (Reps.one (show Kd.M (Kd.int .i64) _ _ _ 2 [.int .i64 2] from rfl) (Reps.one (show Kd.M (Kd.int .i64) _ _ _ 0 [.int .i64 0] from rfl) (Reps.one (show Kd.M (Kd.int .i64) _ _ _ 7 [.int .i64 7] from rfl) (Reps.one (show Kd.M (Kd.int .i64) _ _ _ 30 [.int .i64 30] from rfl) (Reps.none _ _))))))));intro v183 w32 ho33 hb hg_ hnew_;clear hg_ hnew_;(first|rw [← Ny182.out] at ho33|(simp only [Int.reduceToNat] at ho33;rw [← Ny182.out] at ho33));have n0_:=mk_ (re_ (qr_ HO174) (Kd.R_base ho33) hb);have n1_:=mk_ (rb_ (qr_ HO181) hb);have n2_:=mk_ (Kd.R_lower (Kd.R_new' ho33 (Kd.R_lt (qr_ HO174))) (keep_size (w:=w) (g:=g) (row:=none) (u3_ HK)));have n3_:=mk_ (IsS72.below (u2_ HI0) hb);have n4_:=mk_ (KeepBut.trans (u3_ HK) (KeepBut.of_below hb g none) (.inl rfl));have n5_:=mk_ (st_ (u4_ HB HI0) hb);clear HO174 HO181 HI0 HK HB;have HO174:=n0_;have HO181:=n1_;have HO184:=n2_;have HI0:=n3_;have HK:=n4_;have HB:=n5_;clear n0_ n1_ n2_ n3_ n4_ n5_ hb ho33;obtain ⟨Ao34,co34,eo34⟩:=Kd.R_slice HO184.out;subst eo34)|((with_reducible refine gate_callee (f:=52) rfl ?_);refine goesL_ (some 40) rfl rfl Try.func52 (by kernel_rfl) rfl #[.pointer (some ⟨g,0,none⟩),.slice Ao34 y182.length co34] rfl qm_ ?_;(with_reducible refine (spec_l21Rd_num.calls k1 g s0_0 t178 _ _ y182 t185 t186 w0 _ ?side1 ?side2 ?side3 ?side4 ?side5 A25.out).mono ?_);(case side1 => exact u2_ HI0);(case side2 => exact u4_ HB HI0);(case side3 => repeat (first|exact (rr_ HO184.out).2.2|(with_reducible refine ca_ ?_ _)|(with_reducible refine cn_ ?_ _)|(with_reducible refine cd_ ?_)));(case side4 => exact (rr_ HO184.out).2.1);(case side5 => exact far_slice (IsS72.own_ne HI0.out HO184.out (by decide)));rintro e w35 ⟨rfl,hi,hb,hk⟩;refine ⟨_,rfl,?_⟩;have n0_:=mk_ (rm_ (Kd.R_keep (IsS72.apart (show IsS72 w0 _ g s0_0 t178 from u2_ HI0) (qr_ HO174) (by decide)) hk (fun _ h => h.2)) (fun _ h => h.1));have n1_:=mk_ (rm_ (Kd.R_keep (IsS72.apart (show IsS72 w0 _ g s0_0 t178 from u2_ HI0) (qr_ HO181) (by decide)) hk (fun _ h => h.2)) (fun _ h => h.1));have n2_:=mk_ (rm_ (Kd.R_keep (IsS72.apart (show IsS72 w0 _ g s0_0 t178 from u2_ HI0) (qr_ HO184) (by decide)) hk (fun _ h => h.2)) (fun _ h => h.1));have n3_:=mk_ (KeepBut.trans (u3_ HK) hk (.inl rfl));have n4_:=mk_ (hb);have n5_:=mk_ (hi);clear HO174 HO181 HO184 HK HB HI0;have HO174:=n0_;have HO181:=n1_;have HO184:=n2_;have HK:=n3_;have HB:=n4_;have HI0:=n5_;clear n0_ n1_ n2_ n3_ n4_ n5_;(try clear hb);(try clear hb2);(try clear hk);(try clear hi)))
     go_roundg k1
     case measure => have:=HK1.out;omega
     case rel => exact ⟨(y179),(wrap64 (x8_1 + t185)),(wrap64 (x9_1 - 1)),(t186),qf_,qf_,H',⟨by have:=HK1.out;omega⟩,⟨qr_ HO181⟩,⟨u2_ HI0⟩,⟨u3_ HK⟩,⟨u4_ HB HI0⟩⟩
    ·rw [if_neg c24] at H
     exact absurd H (by simp)
   ·rw [if_neg c21] at H
    have c21b0 : decide (0 < x9_1) = false:=decide_eq_false c21
    clear c21
    replace H:=Option.bind_eq_some_iff.mp H
    obtain ⟨⟨t187,t188⟩,A360,H⟩:=H
    replace H : (if t187 = 0 then ((spec_l21Rd_num.f k1 s0_0 t188 (([0,21] : List Int))).bind fun bt192 => (some (bt192.1,t160,x7_1,bt192.2))) else (if t187 = 1 then ((spec_l21Rd_num.f k1 s0_0 t188 (([0,101] : List Int))).bind fun bt197 => (some (t155,bt197.1,x7_1,bt197.2))) else (if t187 = 2 then (if x7_1.length < 8796093022208 then (some (t155,t160,(x7_1 ++ [(⟨0,1⟩ : S35)]),t188)) else (none)) else (if t187 = 3 then ((spec_l21Rd_num.f k1 s0_0 t188 (([0,51] : List Int))).bind fun bt205 => (if x7_1.length < 8796093022208 then (some (t155,t160,(x7_1 ++ [(⟨x8_1,bt205.1⟩ : S35)]),bt205.2)) else (none))) else (if t187 = 4 then (if x7_1.length < 8796093022208 then (some (t155,t160,(x7_1 ++ [(⟨2001,1⟩ : S35)]),t188)) else (none)) else (some (t155,t160,x7_1,t188))))))) = some (r1,r2,r3,r4):=H
    have A36:=mk_ A360
    clear A360
    by_cases c37 : t187 = 0
    ·rw [if_pos c37] at H
     have c37b0 : (t187 == 0) = true:=beq_iff_eq.mpr c37
     have c37b1 : (t187 != 0) = false:=bne_eq_false_iff_eq.mpr c37
     clear c37
     obtain ⟨y189,hy189⟩ : ∃ y_ : List Int,y_ = (([0,21] : List Int)):=⟨_,rfl⟩
     replace H : ((spec_l21Rd_num.f k1 s0_0 t188 y189).bind fun bt192 => (some (bt192.1,t160,x7_1,bt192.2))) = some (r1,r2,r3,r4):=by first|(rw [hy189];with_reducible exact H)|(have H2_:=(Option.bind_some _ _).symm.trans H;rw [hy189];with_reducible exact H2_)|(have H2_:=(Option.bind_some _ _).symm.trans H;with_reducible exact H2_)|with_reducible exact H|(rw [hy189];exact H)|exact H
     have Ny189:=mk_ hy189
     clear hy189
     replace H:=Option.bind_eq_some_iff.mp H
     obtain ⟨⟨t192,t193⟩,A380,H⟩:=H
     replace H : (some (t192,t160,x7_1,t193)) = some (r1,r2,r3,r4):=H
     have A38:=mk_ A380
     clear A380
     simp only [Option.some.injEq,Prod.mk.injEq] at H
     obtain ⟨rfl,rfl,rfl,rfl⟩:=H
     go_wp2_with (first|((with_reducible refine gate_callee (f:=53) rfl ?_);refine goesL_ (some 43) rfl rfl Try.func53 (by kernel_rfl) rfl #[.pointer (some ⟨g,0,none⟩),.int .i64 75] rfl qm_ ?_;(with_reducible refine (spec_l21Rd_pick.calls k1 g s0_0 x1001_1 75 t187 t188 w0 _ ?side1 ?side2 A36.out).mono ?_);(case side1 => exact u2_ HI0);(case side2 => exact u4_ HB HI0);rintro e w39 ⟨rfl,hi,hb,hk⟩;refine ⟨_,rfl,?_⟩;have n0_:=mk_ (rm_ (Kd.R_keep (IsS72.apart (show IsS72 w0 _ g s0_0 x1001_1 from u2_ HI0) (qr_ HO_7) (by decide)) hk (fun _ h => h.2)) (fun _ h => h.1));have n1_:=mk_ (KeepBut.trans (u3_ HK) hk (.inl rfl));have n2_:=mk_ (hb);have n3_:=mk_ (hi);clear HO_7 HK HB HI0;have HO_7:=n0_;have HK:=n1_;have HB:=n2_;have HI0:=n3_;clear n0_ n1_ n2_ n3_;(try clear hb);(try clear hb2);(try clear hk);(try clear hi))|((with_reducible refine gate_dst (N:=47) rfl ?_);refine Kd.R_lit (Kd.int .i64) _ 3 ?hg (N:=47) ?hd (xs:=([0,21] : List Int)) (inner:=[.int .i64 0,.int .i64 21]) (ok:=fun _ => True) (okp:=fun _ => True) ?hr ?hp (fun _ hk => hk) trivial (Below.refl _ _) (Nat.le_refl _) (by simp) ?_;(case hd => rfl);(case hg => rfl);(case hr => first|(go_simp;done)|(go_simp;rfl));(case hp => exact (Reps.one (show Kd.M (Kd.int .i64) _ _ _ 0 [.int .i64 0] from rfl) (Reps.one (show Kd.M (Kd.int .i64) _ _ _ 21 [.int .i64 21] from rfl) (Reps.none _ _))));intro v190 w40 ho41 hb hg_ hnew_;clear hg_ hnew_;(first|rw [← Ny189.out] at ho41|(simp only [Int.reduceToNat] at ho41;rw [← Ny189.out] at ho41));have n0_:=mk_ (rb_ (qr_ HO_7) hb);have n1_:=mk_ (Kd.R_lower ho41 (keep_size (w:=w) (g:=g) (row:=none) (u3_ HK)));have n2_:=mk_ (IsS72.below (u2_ HI0) hb);have n3_:=mk_ (KeepBut.trans (u3_ HK) (KeepBut.of_below hb g none) (.inl rfl));have n4_:=mk_ (st_ (u4_ HB HI0) hb);clear HO_7 HI0 HK HB;have HO_7:=n0_;have HO191:=n1_;have HI0:=n2_;have HK:=n3_;have HB:=n4_;clear n0_ n1_ n2_ n3_ n4_ hb ho41;obtain ⟨Ao42,co42,eo42⟩:=Kd.R_slice HO191.out;subst eo42)|((with_reducible refine gate_callee (f:=52) rfl ?_);refine goesL_ (some 48) rfl rfl Try.func52 (by kernel_rfl) rfl #[.pointer (some ⟨g,0,none⟩),.slice Ao42 y189.length co42] rfl qm_ ?_;(with_reducible refine (spec_l21Rd_num.calls k1 g s0_0 t188 _ _ y189 t192 t193 w0 _ ?side1 ?side2 ?side3 ?side4 ?side5 A38.out).mono ?_);(case side1 => exact u2_ HI0);(case side2 => exact u4_ HB HI0);(case side3 => repeat (first|exact (rr_ HO191.out).2.2|(with_reducible refine ca_ ?_ _)|(with_reducible refine cn_ ?_ _)|(with_reducible refine cd_ ?_)));(case side4 => exact (rr_ HO191.out).2.1);(case side5 => exact far_slice (IsS72.own_ne HI0.out HO191.out (by decide)));rintro e w43 ⟨rfl,hi,hb,hk⟩;refine ⟨_,rfl,?_⟩;have n0_:=mk_ (rm_ (Kd.R_keep (IsS72.apart (show IsS72 w0 _ g s0_0 t188 from u2_ HI0) (qr_ HO_7) (by decide)) hk (fun _ h => h.2)) (fun _ h => h.1));have n1_:=mk_ (rm_ (Kd.R_keep (IsS72.apart (show IsS72 w0 _ g s0_0 t188 from u2_ HI0) (qr_ HO191) (by decide)) hk (fun _ h => h.2)) (fun _ h => h.1));have n2_:=mk_ (KeepBut.trans (u3_ HK) hk (.inl rfl));have n3_:=mk_ (hb);have n4_:=mk_ (hi);clear HO_7 HO191 HK HB HI0;have HO_7:=n0_;have HO191:=n1_;have HK:=n2_;have HB:=n3_;have HI0:=n4_;clear n0_ n1_ n2_ n3_ n4_;(try clear hb);(try clear hb2);(try clear hk);(try clear hi)))
     go_ret3
     exact ⟨_,qe_,qr_ HO_7,u2_ HI0,u4_ HB HI0,u3_ HK⟩
    ·rw [if_neg c37] at H
     have c37b0 : (t187 == 0) = false:=beq_eq_false_iff_ne.mpr c37
     have c37b1 : (t187 != 0) = true:=bne_iff_ne.mpr c37
     by_cases c44 : t187 = 1
     ·rw [if_pos c44] at H
      have c44b0 : (t187 == 1) = true:=beq_iff_eq.mpr c44
      have c44b1 : (t187 != 1) = false:=bne_eq_false_iff_eq.mpr c44
      clear c44
      obtain ⟨y194,hy194⟩ : ∃ y_ : List Int,y_ = (([0,101] : List Int)):=⟨_,rfl⟩
      replace H : ((spec_l21Rd_num.f k1 s0_0 t188 y194).bind fun bt197 => (some (t155,bt197.1,x7_1,bt197.2))) = some (r1,r2,r3,r4):=by first|(rw [hy194];with_reducible exact H)|(have H2_:=(Option.bind_some _ _).symm.trans H;rw [hy194];with_reducible exact H2_)|(have H2_:=(Option.bind_some _ _).symm.trans H;with_reducible exact H2_)|with_reducible exact H|(rw [hy194];exact H)|exact H
      have Ny194:=mk_ hy194
      clear hy194
      replace H:=Option.bind_eq_some_iff.mp H
      obtain ⟨⟨t197,t198⟩,A450,H⟩:=H
      replace H : (some (t155,t197,x7_1,t198)) = some (r1,r2,r3,r4):=H
      have A45:=mk_ A450
      clear A450
      simp only [Option.some.injEq,Prod.mk.injEq] at H
      obtain ⟨rfl,rfl,rfl,rfl⟩:=H
      go_wp2_with (first|((with_reducible refine gate_callee (f:=53) rfl ?_);refine goesL_ (some 43) rfl rfl Try.func53 (by kernel_rfl) rfl #[.pointer (some ⟨g,0,none⟩),.int .i64 75] rfl qm_ ?_;(with_reducible refine (spec_l21Rd_pick.calls k1 g s0_0 x1001_1 75 t187 t188 w0 _ ?side1 ?side2 A36.out).mono ?_);(case side1 => exact u2_ HI0);(case side2 => exact u4_ HB HI0);rintro e w46 ⟨rfl,hi,hb,hk⟩;refine ⟨_,rfl,?_⟩;have n0_:=mk_ (rm_ (Kd.R_keep (IsS72.apart (show IsS72 w0 _ g s0_0 x1001_1 from u2_ HI0) (qr_ HO_7) (by decide)) hk (fun _ h => h.2)) (fun _ h => h.1));have n1_:=mk_ (KeepBut.trans (u3_ HK) hk (.inl rfl));have n2_:=mk_ (hb);have n3_:=mk_ (hi);clear HO_7 HK HB HI0;have HO_7:=n0_;have HK:=n1_;have HB:=n2_;have HI0:=n3_;clear n0_ n1_ n2_ n3_;(try clear hb);(try clear hb2);(try clear hk);(try clear hi))|((with_reducible refine gate_dst (N:=52) rfl ?_);refine Kd.R_lit (Kd.int .i64) _ 3 ?hg (N:=52) ?hd (xs:=([0,101] : List Int)) (inner:=[.int .i64 0,.int .i64 101]) (ok:=fun _ => True) (okp:=fun _ => True) ?hr ?hp (fun _ hk => hk) trivial (Below.refl _ _) (Nat.le_refl _) (by simp) ?_;(case hd => rfl);(case hg => rfl);(case hr => first|(go_simp;done)|(go_simp;rfl));(case hp => exact (Reps.one (show Kd.M (Kd.int .i64) _ _ _ 0 [.int .i64 0] from rfl) (Reps.one (show Kd.M (Kd.int .i64) _ _ _ 101 [.int .i64 101] from rfl) (Reps.none _ _))));intro v195 w47 ho48 hb hg_ hnew_;clear hg_ hnew_;(first|rw [← Ny194.out] at ho48|(simp only [Int.reduceToNat] at ho48;rw [← Ny194.out] at ho48));have n0_:=mk_ (rb_ (qr_ HO_7) hb);have n1_:=mk_ (Kd.R_lower ho48 (keep_size (w:=w) (g:=g) (row:=none) (u3_ HK)));have n2_:=mk_ (IsS72.below (u2_ HI0) hb);have n3_:=mk_ (KeepBut.trans (u3_ HK) (KeepBut.of_below hb g none) (.inl rfl));have n4_:=mk_ (st_ (u4_ HB HI0) hb);clear HO_7 HI0 HK HB;have HO_7:=n0_;have HO196:=n1_;have HI0:=n2_;have HK:=n3_;have HB:=n4_;clear n0_ n1_ n2_ n3_ n4_ hb ho48;obtain ⟨Ao49,co49,eo49⟩:=Kd.R_slice HO196.out;subst eo49)|((with_reducible refine gate_callee (f:=52) rfl ?_);refine goesL_ (some 53) rfl rfl Try.func52 (by kernel_rfl) rfl #[.pointer (some ⟨g,0,none⟩),.slice Ao49 y194.length co49] rfl qm_ ?_;(with_reducible refine (spec_l21Rd_num.calls k1 g s0_0 t188 _ _ y194 t197 t198 w0 _ ?side1 ?side2 ?side3 ?side4 ?side5 A45.out).mono ?_);(case side1 => exact u2_ HI0);(case side2 => exact u4_ HB HI0);(case side3 => repeat (first|exact (rr_ HO196.out).2.2|(with_reducible refine ca_ ?_ _)|(with_reducible refine cn_ ?_ _)|(with_reducible refine cd_ ?_)));(case side4 => exact (rr_ HO196.out).2.1);(case side5 => exact far_slice (IsS72.own_ne HI0.out HO196.out (by decide)));rintro e w50 ⟨rfl,hi,hb,hk⟩;refine ⟨_,rfl,?_⟩;have n0_:=mk_ (rm_ (Kd.R_keep (IsS72.apart (show IsS72 w0 _ g s0_0 t188 from u2_ HI0) (qr_ HO_7) (by decide)) hk (fun _ h => h.2)) (fun _ h => h.1));have n1_:=mk_ (rm_ (Kd.R_keep (IsS72.apart (show IsS72 w0 _ g s0_0 t188 from u2_ HI0) (qr_ HO196) (by decide)) hk (fun _ h => h.2)) (fun _ h => h.1));have n2_:=mk_ (KeepBut.trans (u3_ HK) hk (.inl rfl));have n3_:=mk_ (hb);have n4_:=mk_ (hi);clear HO_7 HO196 HK HB HI0;have HO_7:=n0_;have HO196:=n1_;have HK:=n2_;have HB:=n3_;have HI0:=n4_;clear n0_ n1_ n2_ n3_ n4_;(try clear hb);(try clear hb2);(try clear hk);(try clear hi)))
      go_ret3
      exact ⟨_,qe_,qr_ HO_7,u2_ HI0,u4_ HB HI0,u3_ HK⟩
     ·rw [if_neg c44] at H
      have c44b0 : (t187 == 1) = false:=beq_eq_false_iff_ne.mpr c44
      have c44b1 : (t187 != 1) = true:=bne_iff_ne.mpr c44
      by_cases c51 : t187 = 2
      ·rw [if_pos c51] at H
       have c51b0 : (t187 == 2) = true:=beq_iff_eq.mpr c51
       have c51b1 : (t187 != 2) = false:=bne_eq_false_iff_eq.mpr c51
       clear c51
       by_cases c52 : x7_1.length < 8796093022208
       ·rw [if_pos c52] at H
        have LMc52:=mk_ c52
        clear c52
        obtain ⟨y199,hy199⟩ : ∃ y_ : List (S35),y_ = (x7_1 ++ [(⟨0,1⟩ : S35)]):=⟨_,rfl⟩
        replace H : (some (t155,t160,y199,t188)) = some (r1,r2,r3,r4):=by first|(rw [hy199];with_reducible exact H)|(have H2_:=(Option.bind_some _ _).symm.trans H;rw [hy199];with_reducible exact H2_)|(have H2_:=(Option.bind_some _ _).symm.trans H;with_reducible exact H2_)|with_reducible exact H|(rw [hy199];exact H)|exact H
        have Ny199:=mk_ hy199
        clear hy199
        simp only [Option.some.injEq,Prod.mk.injEq] at H
        obtain ⟨rfl,rfl,rfl,rfl⟩:=H
        go_wp2_with (first|((with_reducible refine gate_callee (f:=53) rfl ?_);refine goesL_ (some 43) rfl rfl Try.func53 (by kernel_rfl) rfl #[.pointer (some ⟨g,0,none⟩),.int .i64 75] rfl qm_ ?_;(with_reducible refine (spec_l21Rd_pick.calls k1 g s0_0 x1001_1 75 t187 t188 w0 _ ?side1 ?side2 A36.out).mono ?_);(case side1 => exact u2_ HI0);(case side2 => exact u4_ HB HI0);rintro e w53 ⟨rfl,hi,hb,hk⟩;refine ⟨_,rfl,?_⟩;have n0_:=mk_ (rm_ (Kd.R_keep (IsS72.apart (show IsS72 w0 _ g s0_0 x1001_1 from u2_ HI0) (qr_ HO_7) (by decide)) hk (fun _ h => h.2)) (fun _ h => h.1));have n1_:=mk_ (KeepBut.trans (u3_ HK) hk (.inl rfl));have n2_:=mk_ (hb);have n3_:=mk_ (hi);clear HO_7 HK HB HI0;have HO_7:=n0_;have HK:=n1_;have HB:=n2_;have HI0:=n3_;clear n0_ n1_ n2_ n3_;(try clear hb);(try clear hb2);(try clear hk);(try clear hi))|((with_reducible refine gate_builtin (b:=.append) (xs:=#[.tmp 56,.tmp 58]) rfl ?_);at_builtin;refine Kd.R_append k35 w.heap.size rfl (.tmp 56) (.tmp 58) 25 35 (.agg #[(.int .i64 0),(.int .i64 0)]) 16 rfl Try.underlying25 info35 rfl (by decide) (by omega) u7 x7_1 (⟨0,1⟩ : S35) [.int .i64 0,.int .i64 1] (fun _ => True) (fun _ => False) rfl rfl ?aP (fun _ hk => hk.elim) ?aF ?aO (Below.refl _ _) ?aS ?aL ?_;(case aP => exact k35_mkM _ _ _ (⟨0,1⟩ : S35));(case aF => exact (fun _ _ => trivial));(case aO => exact (qr_ HO_7));(case aS => exact (keep_size (w:=w) (g:=g) (row:=none) (u3_ HK)));(case aL => have:=LMc52.out;omega);intro v200 w54 ho hb hg hat;rw [← Ny199.out] at ho;have n0_:=mk_ (IsS72.grown (u2_ HI0) hg (IsS72.own_ne HI0.out HO_7.out (by decide)));have n1_:=mk_ (below_weaken (u4_ HB HI0) HL.out hb);have n2_:=mk_ (KeepBut.trans (u3_ HK) (KeepBut.of_grown hg g) (Kd.R_base2 HO_7.out));have n3_:=mk_ (ho);clear HI0 HB HK HO_7;have HI0:=n0_;have HB:=n1_;have HK:=n2_;have HO201:=n3_;clear n0_ n1_ n2_ n3_ ho hb hg hat))
        go_ret3
        exact ⟨_,qe_,qr_ HO201,u2_ HI0,u4_ HB HI0,u3_ HK⟩
       ·rw [if_neg c52] at H
        exact absurd H (by simp)
      ·rw [if_neg c51] at H
       have c51b0 : (t187 == 2) = false:=beq_eq_false_iff_ne.mpr c51
       have c51b1 : (t187 != 2) = true:=bne_iff_ne.mpr c51
       by_cases c55 : t187 = 3
       ·rw [if_pos c55] at H
        have c55b0 : (t187 == 3) = true:=beq_iff_eq.mpr c55
        have c55b1 : (t187 != 3) = false:=bne_eq_false_iff_eq.mpr c55
        clear c55
        obtain ⟨y202,hy202⟩ : ∃ y_ : List Int,y_ = (([0,51] : List Int)):=⟨_,rfl⟩
        replace H : ((spec_l21Rd_num.f k1 s0_0 t188 y202).bind fun bt205 => (if x7_1.length < 8796093022208 then (some (t155,t160,(x7_1 ++ [(⟨x8_1,bt205.1⟩ : S35)]),bt205.2)) else (none))) = some (r1,r2,r3,r4):=by first|(rw [hy202];with_reducible exact H)|(have H2_:=(Option.bind_some _ _).symm.trans H;rw [hy202];with_reducible exact H2_)|(have H2_:=(Option.bind_some _ _).symm.trans H;with_reducible exact H2_)|with_reducible exact H|(rw [hy202];exact H)|exact H
        have Ny202:=mk_ hy202
        clear hy202
        replace H:=Option.bind_eq_some_iff.mp H
        obtain ⟨⟨t205,t206⟩,A560,H⟩:=H
        replace H : (if x7_1.length < 8796093022208 then (some (t155,t160,(x7_1 ++ [(⟨x8_1,t205⟩ : S35)]),t206)) else (none)) = some (r1,r2,r3,r4):=H
        have A56:=mk_ A560
        clear A560
        by_cases c57 : x7_1.length < 8796093022208
        ·rw [if_pos c57] at H
         have LMc57:=mk_ c57
         clear c57
         obtain ⟨y207,hy207⟩ : ∃ y_ : List (S35),y_ = (x7_1 ++ [(⟨x8_1,t205⟩ : S35)]):=⟨_,rfl⟩
         replace H : (some (t155,t160,y207,t206)) = some (r1,r2,r3,r4):=by first|(rw [hy207];with_reducible exact H)|(have H2_:=(Option.bind_some _ _).symm.trans H;rw [hy207];with_reducible exact H2_)|(have H2_:=(Option.bind_some _ _).symm.trans H;with_reducible exact H2_)|with_reducible exact H|(rw [hy207];exact H)|exact H
         have Ny207:=mk_ hy207
         clear hy207
         simp only [Option.some.injEq,Prod.mk.injEq] at H
         obtain ⟨rfl,rfl,rfl,rfl⟩:=H
         go_wp2_with (first|((with_reducible refine gate_callee (f:=53) rfl ?_);refine goesL_ (some 43) rfl rfl Try.func53 (by kernel_rfl) rfl #[.pointer (some ⟨g,0,none⟩),.int .i64 75] rfl qm_ ?_;(with_reducible refine (spec_l21Rd_pick.calls k1 g s0_0 x1001_1 75 t187 t188 w0 _ ?side1 ?side2 A36.out).mono ?_);(case side1 => exact u2_ HI0);(case side2 => exact u4_ HB HI0);rintro e w58 ⟨rfl,hi,hb,hk⟩;refine ⟨_,rfl,?_⟩;have n0_:=mk_ (rm_ (Kd.R_keep (IsS72.apart (show IsS72 w0 _ g s0_0 x1001_1 from u2_ HI0) (qr_ HO_7) (by decide)) hk (fun _ h => h.2)) (fun _ h => h.1));have n1_:=mk_ (KeepBut.trans (u3_ HK) hk (.inl rfl));have n2_:=mk_ (hb);have n3_:=mk_ (hi);clear HO_7 HK HB HI0;have HO_7:=n0_;have HK:=n1_;have HB:=n2_;have HI0:=n3_;clear n0_ n1_ n2_ n3_;(try clear hb);(try clear hb2);(try clear hk);(try clear hi))|((with_reducible refine gate_dst (N:=65) rfl ?_);refine Kd.R_lit (Kd.int .i64) _ 3 ?hg (N:=65) ?hd (xs:=([0,51] : List Int)) (inner:=[.int .i64 0,.int .i64 51]) (ok:=fun _ => True) (okp:=fun _ => True) ?hr ?hp (fun _ hk => hk) trivial (Below.refl _ _) (Nat.le_refl _) (by simp) ?_;(case hd => rfl);(case hg => rfl);(case hr => first|(go_simp;done)|(go_simp;rfl));(case hp => exact (Reps.one (show Kd.M (Kd.int .i64) _ _ _ 0 [.int .i64 0] from rfl) (Reps.one (show Kd.M (Kd.int .i64) _ _ _ 51 [.int .i64 51] from rfl) (Reps.none _ _))));intro v203 w59 ho60 hb hg_ hnew_;clear hg_ hnew_;(first|rw [← Ny202.out] at ho60|(simp only [Int.reduceToNat] at ho60;rw [← Ny202.out] at ho60));have n0_:=mk_ (rb_ (qr_ HO_7) hb);have n1_:=mk_ (Kd.R_lower ho60 (keep_size (w:=w) (g:=g) (row:=none) (u3_ HK)));have n2_:=mk_ (IsS72.below (u2_ HI0) hb);have n3_:=mk_ (KeepBut.trans (u3_ HK) (KeepBut.of_below hb g none) (.inl rfl));have n4_:=mk_ (st_ (u4_ HB HI0) hb);clear HO_7 HI0 HK HB;have HO_7:=n0_;have HO204:=n1_;have HI0:=n2_;have HK:=n3_;have HB:=n4_;clear n0_ n1_ n2_ n3_ n4_ hb ho60;obtain ⟨Ao61,co61,eo61⟩:=Kd.R_slice HO204.out;subst eo61)|((with_reducible refine gate_callee (f:=52) rfl ?_);refine goesL_ (some 66) rfl rfl Try.func52 (by kernel_rfl) rfl #[.pointer (some ⟨g,0,none⟩),.slice Ao61 y202.length co61] rfl qm_ ?_;(with_reducible refine (spec_l21Rd_num.calls k1 g s0_0 t188 _ _ y202 t205 t206 w0 _ ?side1 ?side2 ?side3 ?side4 ?side5 A56.out).mono ?_);(case side1 => exact u2_ HI0);(case side2 => exact u4_ HB HI0);(case side3 => repeat (first|exact (rr_ HO204.out).2.2|(with_reducible refine ca_ ?_ _)|(with_reducible refine cn_ ?_ _)|(with_reducible refine cd_ ?_)));(case side4 => exact (rr_ HO204.out).2.1);(case side5 => exact far_slice (IsS72.own_ne HI0.out HO204.out (by decide)));rintro e w62 ⟨rfl,hi,hb,hk⟩;refine ⟨_,rfl,?_⟩;have n0_:=mk_ (rm_ (Kd.R_keep (IsS72.apart (show IsS72 w0 _ g s0_0 t188 from u2_ HI0) (qr_ HO_7) (by decide)) hk (fun _ h => h.2)) (fun _ h => h.1));have n1_:=mk_ (rm_ (Kd.R_keep (IsS72.apart (show IsS72 w0 _ g s0_0 t188 from u2_ HI0) (qr_ HO204) (by decide)) hk (fun _ h => h.2)) (fun _ h => h.1));have n2_:=mk_ (KeepBut.trans (u3_ HK) hk (.inl rfl));have n3_:=mk_ (hb);have n4_:=mk_ (hi);clear HO_7 HO204 HK HB HI0;have HO_7:=n0_;have HO204:=n1_;have HK:=n2_;have HB:=n3_;have HI0:=n4_;clear n0_ n1_ n2_ n3_ n4_;(try clear hb);(try clear hb2);(try clear hk);(try clear hi))|((with_reducible refine gate_builtin (b:=.append) (xs:=#[.tmp 62,.tmp 68]) rfl ?_);at_builtin;refine Kd.R_append k35 w.heap.size rfl (.tmp 62) (.tmp 68) 25 35 (.agg #[(.int .i64 0),(.int .i64 0)]) 16 rfl Try.underlying25 info35 rfl (by decide) (by omega) u7 x7_1 (⟨x8_1,t205⟩ : S35) [.int .i64 x8_1,.int .i64 t205] (fun _ => True) (fun _ => False) rfl rfl ?aP (fun _ hk => hk.elim) ?aF ?aO (Below.refl _ _) ?aS ?aL ?_;(case aP => exact k35_mkM _ _ _ (⟨x8_1,t205⟩ : S35));(case aF => exact (fun _ _ => trivial));(case aO => exact (qr_ HO_7));(case aS => exact (keep_size (w:=w) (g:=g) (row:=none) (u3_ HK)));(case aL => have:=LMc57.out;omega);intro v208 w63 ho hb hg hat;rw [← Ny207.out] at ho;have n0_:=mk_ (IsS72.grown (u2_ HI0) hg (IsS72.own_ne HI0.out HO_7.out (by decide)));have n1_:=mk_ (Kd.R_over' (qr_ HO204) (Kd.R_typed (qr_ HO_7)) (by decide) hg);have n2_:=mk_ (below_weaken (u4_ HB HI0) HL.out hb);have n3_:=mk_ (KeepBut.trans (u3_ HK) (KeepBut.of_grown hg g) (Kd.R_base2 HO_7.out));have n4_:=mk_ (ho);clear HI0 HO204 HB HK HO_7;have HI0:=n0_;have HO204:=n1_;have HB:=n2_;have HK:=n3_;have HO209:=n4_;clear n0_ n1_ n2_ n3_ n4_ ho hb hg hat))
         go_ret3
         exact ⟨_,qe_,qr_ HO209,u2_ HI0,u4_ HB HI0,u3_ HK⟩
        ·rw [if_neg c57] at H
         exact absurd H (by simp)
       ·rw [if_neg c55] at H
        have c55b0 : (t187 == 3) = false:=beq_eq_false_iff_ne.mpr c55
        have c55b1 : (t187 != 3) = true:=bne_iff_ne.mpr c55
        by_cases c64 : t187 = 4
        ·rw [if_pos c64] at H
         have c64b0 : (t187 == 4) = true:=beq_iff_eq.mpr c64
         have c64b1 : (t187 != 4) = false:=bne_eq_false_iff_eq.mpr c64
         clear c64
         by_cases c65 : x7_1.length < 8796093022208
         ·rw [if_pos c65] at H
          have LMc65:=mk_ c65
          clear c65
          obtain ⟨y210,hy210⟩ : ∃ y_ : List (S35),y_ = (x7_1 ++ [(⟨2001,1⟩ : S35)]):=⟨_,rfl⟩
          replace H : (some (t155,t160,y210,t188)) = some (r1,r2,r3,r4):=by first|(rw [hy210];with_reducible exact H)|(have H2_:=(Option.bind_some _ _).symm.trans H;rw [hy210];with_reducible exact H2_)|(have H2_:=(Option.bind_some _ _).symm.trans H;with_reducible exact H2_)|with_reducible exact H|(rw [hy210];exact H)|exact H
          have Ny210:=mk_ hy210
          clear hy210
          simp only [Option.some.injEq,Prod.mk.injEq] at H
          obtain ⟨rfl,rfl,rfl,rfl⟩:=H
          go_wp2_with (first|((with_reducible refine gate_callee (f:=53) rfl ?_);refine goesL_ (some 43) rfl rfl Try.func53 (by kernel_rfl) rfl #[.pointer (some ⟨g,0,none⟩),.int .i64 75] rfl qm_ ?_;(with_reducible refine (spec_l21Rd_pick.calls k1 g s0_0 x1001_1 75 t187 t188 w0 _ ?side1 ?side2 A36.out).mono ?_);(case side1 => exact u2_ HI0);(case side2 => exact u4_ HB HI0);rintro e w66 ⟨rfl,hi,hb,hk⟩;refine ⟨_,rfl,?_⟩;have n0_:=mk_ (rm_ (Kd.R_keep (IsS72.apart (show IsS72 w0 _ g s0_0 x1001_1 from u2_ HI0) (qr_ HO_7) (by decide)) hk (fun _ h => h.2)) (fun _ h => h.1));have n1_:=mk_ (KeepBut.trans (u3_ HK) hk (.inl rfl));have n2_:=mk_ (hb);have n3_:=mk_ (hi);clear HO_7 HK HB HI0;have HO_7:=n0_;have HK:=n1_;have HB:=n2_;have HI0:=n3_;clear n0_ n1_ n2_ n3_;(try clear hb);(try clear hb2);(try clear hk);(try clear hi))|((with_reducible refine gate_builtin (b:=.append) (xs:=#[.tmp 72,.tmp 74]) rfl ?_);at_builtin;refine Kd.R_append k35 w.heap.size rfl (.tmp 72) (.tmp 74) 25 35 (.agg #[(.int .i64 0),(.int .i64 0)]) 16 rfl Try.underlying25 info35 rfl (by decide) (by omega) u7 x7_1 (⟨2001,1⟩ : S35) [.int .i64 2001,.int .i64 1] (fun _ => True) (fun _ => False) rfl rfl ?aP (fun _ hk => hk.elim) ?aF ?aO (Below.refl _ _) ?aS ?aL ?_;(case aP => exact k35_mkM _ _ _ (⟨2001,1⟩ : S35));(case aF => exact (fun _ _ => trivial));(case aO => exact (qr_ HO_7));(case aS => exact (keep_size (w:=w) (g:=g) (row:=none) (u3_ HK)));(case aL => have:=LMc65.out;omega);intro v211 w67 ho hb hg hat;rw [← Ny210.out] at ho;have n0_:=mk_ (IsS72.grown (u2_ HI0) hg (IsS72.own_ne HI0.out HO_7.out (by decide)));have n1_:=mk_ (below_weaken (u4_ HB HI0) HL.out hb);have n2_:=mk_ (KeepBut.trans (u3_ HK) (KeepBut.of_grown hg g) (Kd.R_base2 HO_7.out));have n3_:=mk_ (ho);clear HI0 HB HK HO_7;have HI0:=n0_;have HB:=n1_;have HK:=n2_;have HO212:=n3_;clear n0_ n1_ n2_ n3_ ho hb hg hat))
          go_ret3
          exact ⟨_,qe_,qr_ HO212,u2_ HI0,u4_ HB HI0,u3_ HK⟩
         ·rw [if_neg c65] at H
          exact absurd H (by simp)
        ·rw [if_neg c64] at H
         have c64b0 : (t187 == 4) = false:=beq_eq_false_iff_ne.mpr c64
         have c64b1 : (t187 != 4) = true:=bne_iff_ne.mpr c64
         simp only [Option.some.injEq,Prod.mk.injEq] at H
         obtain ⟨rfl,rfl,rfl,rfl⟩:=H
         go_wp2_with (first|((with_reducible refine gate_callee (f:=53) rfl ?_);refine goesL_ (some 43) rfl rfl Try.func53 (by kernel_rfl) rfl #[.pointer (some ⟨g,0,none⟩),.int .i64 75] rfl qm_ ?_;(with_reducible refine (spec_l21Rd_pick.calls k1 g s0_0 x1001_1 75 t187 t188 w0 _ ?side1 ?side2 A36.out).mono ?_);(case side1 => exact u2_ HI0);(case side2 => exact u4_ HB HI0);rintro e w68 ⟨rfl,hi,hb,hk⟩;refine ⟨_,rfl,?_⟩;have n0_:=mk_ (rm_ (Kd.R_keep (IsS72.apart (show IsS72 w0 _ g s0_0 x1001_1 from u2_ HI0) (qr_ HO_7) (by decide)) hk (fun _ h => h.2)) (fun _ h => h.1));have n1_:=mk_ (KeepBut.trans (u3_ HK) hk (.inl rfl));have n2_:=mk_ (hb);have n3_:=mk_ (hi);clear HO_7 HK HB HI0;have HO_7:=n0_;have HK:=n1_;have HB:=n2_;have HI0:=n3_;clear n0_ n1_ n2_ n3_;(try clear hb);(try clear hb2);(try clear hk);(try clear hi)))
         go_ret3
         exact ⟨_,qe_,qr_ HO_7,u2_ HI0,u4_ HB HI0,u3_ HK⟩

/-! ### spec_l21Open: function 49 -/
def spec_l21Open.f (l0 : List Int) : Option (List Int × Int):=if (l0.length : Int) > 2000 then (if 2000 ≤ (l0.length : Int) then (some (l0.take 2000,0)) else (none)) else (some (l0,0))
set_option maxHeartbeats 8000000 in
set_option maxRecDepth 100000 in
theorem spec_l21Open.calls (A0 : Option Addr) (c0 : Nat) (l0 : List Int) (r1 : List Int) (r2 : Int) (w0 w : World) (hB : Below w0.heap.size w0 w) (hr0 : Kd.C (Kd.int .u8) w0 A0 l0.length l0) (hc0 : l0.length ≤ c0) (h : spec_l21Open.f l0 = some (r1,r2)) :
  Calls Try.prog 49 #[.slice A0 l0.length c0] w fun e w' => ∃ g_ : Nat,e = .returned (.pointer (some ⟨g_,0,none⟩)) ∧ IsS72 w0 w' g_ r1 r2 ∧ Below w0.heap.size w0 w' ∧ Below w.heap.size w w':=by
 have hu72:=Try.underlying72
 have HR0:=mk_ hr0
 have HC0:=mk_ hc0
 clear hr0 hc0
 have HBW:=mk_ (Below.refl w.heap.size w)
 have HW0:=mk_ hB.size
 have HB:=mk_ hB
 clear hB
 have H : (if (l0.length : Int) > 2000 then (if 2000 ≤ (l0.length : Int) then (some (l0.take 2000,0)) else (none)) else (some (l0,0))) = some (r1,r2):=h
 clear h
 by_cases c2 : (l0.length : Int) > 2000
 ·rw [if_pos c2] at H
  have c2b0 : decide (2000 < (l0.length : Int)) = true:=decide_eq_true c2
  have c2b1 : decide (2000 < l0.length) = true:=decide_eq_true (by omega)
  clear c2
  by_cases c3 : 2000 ≤ (l0.length : Int)
  ·rw [if_pos c3] at H
   have c3b0:=eq_true c3
   have c3b1 : decide (2000 ≤ (l0.length : Int)) = true:=decide_eq_true c3
   clear c3
   simp only [Option.some.injEq,Prod.mk.injEq] at H
   obtain ⟨rfl,rfl⟩:=H
   obtain ⟨i04,hi04,_,hsz4,_⟩:=info_parts info5
   obtain ⟨hcut4,hA4,hC4⟩:=print_take_of (P:=Try.prog) (Value.int .u8) 0 29 5 .i64 Try.underlying29 hi04 hsz4 A0 c0 l0 2000 (by omega) (od_ qa_) HC0.out
   have HR213:=mk_ (Kd.C_of_reads (h1:=fun _ => rfl) (hA4 _ (Kd.reads_of_C HR0.out)))
   have HC213:=mk_ hC4
   clear hA4 hC4 hi04 hsz4
   go_enter Try.func49,Try.ntmps49
   go_wp2_with (first|((with_reducible refine gate_dst (N:=10) rfl ?_);refine box_event ?hg (N:=10) ?hd (cs:=#[.slice A0 (l0.take 2000).length c0,.int .i64 0]) (t:=72) ?hr ?_;(case hd => rfl);(case hg => rfl);(case hr => first|(go_simp;done)|(go_simp;rfl));intro gb214 hg w5 hbox hb;have n0_:=mk_ (st_ HBW.out hb);have n1_:=mk_ (st_ (qb_ HB) hb);have n2_:=mk_ (hbox);have n3_:=mk_ ((by rw [hg];exact (bz_ (u0_ HBW)) : w.heap.size ≤ gb214));have n4_:=mk_ ((Nat.le_trans HW0.out (by rw [hg];exact (bz_ (u0_ HBW)) : w.heap.size ≤ gb214) : w0.heap.size ≤ gb214));clear HBW HB;have HBW:=n0_;have HB:=n1_;have BK214:=n2_;have GW214:=n3_;have GE214:=n4_;clear n0_ n1_ n2_ n3_ n4_ hb hbox hg))
   go_ret
   exact ⟨_,rfl,(show IsS72 w0 _ gb214 (l0.take 2000) 0 from ⟨_,_,qk_ BK214,GE214.out,HR213.out⟩),u1_ HB GE214,u1_ HBW GW214⟩
  ·rw [if_neg c3] at H
   exact absurd H (by simp)
 ·rw [if_neg c2] at H
  have c2b0 : decide (2000 < (l0.length : Int)) = false:=decide_eq_false c2
  have c2b1 : decide (2000 < l0.length) = false:=decide_eq_false (by omega)
  clear c2
  simp only [Option.some.injEq,Prod.mk.injEq] at H
  obtain ⟨rfl,rfl⟩:=H
  go_enter Try.func49,Try.ntmps49
  go_wp2_with (first|((with_reducible refine gate_dst (N:=10) rfl ?_);refine box_event ?hg (N:=10) ?hd (cs:=#[.slice A0 l0.length c0,.int .i64 0]) (t:=72) ?hr ?_;(case hd => rfl);(case hg => rfl);(case hr => first|(go_simp;done)|(go_simp;rfl));intro gb215 hg w6 hbox hb;have n0_:=mk_ (st_ HBW.out hb);have n1_:=mk_ (st_ (qb_ HB) hb);have n2_:=mk_ (hbox);have n3_:=mk_ ((by rw [hg];exact (bz_ (u0_ HBW)) : w.heap.size ≤ gb215));have n4_:=mk_ ((Nat.le_trans HW0.out (by rw [hg];exact (bz_ (u0_ HBW)) : w.heap.size ≤ gb215) : w0.heap.size ≤ gb215));clear HBW HB;have HBW:=n0_;have HB:=n1_;have BK215:=n2_;have GW215:=n3_;have GE215:=n4_;clear n0_ n1_ n2_ n3_ n4_ hb hbox hg))
  go_ret
  exact ⟨_,rfl,(show IsS72 w0 _ gb215 l0 0 from ⟨_,_,qk_ BK215,GE215.out,HR0.out⟩),u1_ HB GE215,u1_ HBW GW215⟩

/-! ### spec_DrawConforms: function 32 -/
def spec_DrawConforms.l0 : Nat → Int → Int → List (S35) → List Int → Int → Option (Int × Int × (List (S35)))
 | 0,_,_,_,_,_ => none
 | k + 1,x6,x7,x8,x9,x10 => if x10 < (x9.length : Int) then (if 0 ≤ x10 then (if x10 < (x8.length : Int) then (spec_DrawConforms.l0 k x6 x7 (x8.set (x10 : Int).toNat (⟨mn (rd x9 x10) 2000,(rd_T35 x8 x10).f1⟩ : S35)) x9 (wrap64 (x10 + 1))) else (none)) else (none)) else (some (x6,x7,x8))
def spec_DrawConforms.f (k : Nat) (l0 : List Int) : Option (Int × Int × (List (S35))):=(spec_l21Open.f l0).bind fun bt216 => ((spec_l14Draw.f k bt216.1 bt216.2).bind fun bt219 => ((spec_l21Rd_pick.f k bt216.1 bt219.2.2.2 2).bind fun bt225 => (if bt225.1 = 0 then ((spec_ShapePulses.f k bt219.1 bt219.2.1 bt219.2.2.1).bind fun t227 => (spec_DrawConforms.l0 k bt219.1 bt219.2.1 bt219.2.2.1 t227 0)) else (some (bt219.1,bt219.2.1,bt219.2.2.1)))))
theorem spec_DrawConforms.mono_l : ∀ k,(∀ y0 y1 y2 y3 y4,LeO (spec_DrawConforms.l0 k y0 y1 y2 y3 y4) (spec_DrawConforms.l0 (k + 1) y0 y1 y2 y3 y4))
 | 0 => fun _ _ _ _ _ r h => by simp [spec_DrawConforms.l0] at h
 | k + 1 => by
  have ih0:=spec_DrawConforms.mono_l k
  ·intro y0 y1 y2 y3 y4
   unfold spec_DrawConforms.l0
   repeat' first
   | (with_reducible exact ih0 _ _ _ _ _)
   | (with_reducible exact spec_ShapePulses.mono _ _ _ _)
   | (with_reducible exact spec_l14Draw.mono _ _ _)
   | (with_reducible exact spec_l21Rd_pick.mono _ _ _ _)
   | (with_reducible exact LeO.refl _)
   | (with_reducible exact LeO.none _)
   | (with_reducible refine LeO.ite ?_ ?_)
   | (with_reducible refine LeO.bind ?_ (fun _ => ?_))
   | exact ih0 _ _ _ _ _
   | exact spec_ShapePulses.mono _ _ _ _
   | exact spec_l14Draw.mono _ _ _
   | exact spec_l21Rd_pick.mono _ _ _ _
   | exact LeO.none _
   | refine LeO.ite ?_ ?_
   | refine LeO.bind ?_ (fun _ => ?_)
theorem spec_DrawConforms.mono : ∀ a0 k,LeO (spec_DrawConforms.f k a0) (spec_DrawConforms.f (k + 1) a0):=by
 intro a0 k
 have ih0:=spec_DrawConforms.mono_l k
 unfold spec_DrawConforms.f
 repeat' first
   | (with_reducible exact ih0 _ _ _ _ _)
   | (with_reducible exact spec_ShapePulses.mono _ _ _ _)
   | (with_reducible exact spec_l14Draw.mono _ _ _)
   | (with_reducible exact spec_l21Rd_pick.mono _ _ _ _)
   | (with_reducible exact LeO.refl _)
   | (with_reducible exact LeO.none _)
   | (with_reducible refine LeO.ite ?_ ?_)
   | (with_reducible refine LeO.bind ?_ (fun _ => ?_))
   | exact ih0 _ _ _ _ _
   | exact spec_ShapePulses.mono _ _ _ _
   | exact spec_l14Draw.mono _ _ _
   | exact spec_l21Rd_pick.mono _ _ _ _
   | exact LeO.none _
   | refine LeO.ite ?_ ?_
   | refine LeO.bind ?_ (fun _ => ?_)
set_option maxHeartbeats 8000000 in
set_option maxRecDepth 100000 in
theorem spec_DrawConforms.calls (k : Nat) (A0 : Option Addr) (c0 : Nat) (l0 : List Int) (r1 : Int) (r2 : Int) (r3 : List (S35)) (w : World) (hr0 : Kd.C (Kd.int .u8) w A0 l0.length l0) (hc0 : l0.length ≤ c0) (h : spec_DrawConforms.f k l0 = some (r1,r2,r3)) :
  Calls Try.prog 32 #[.slice A0 l0.length c0] w fun e w' => ∃ v2_ : Value,e = .returned (.tuple #[.int .i64 r1,.int .i64 r2,v2_]) ∧ Kd.R k35 35 w' w.heap.size (fun _ => True) v2_ r3 ∧ Below w.heap.size w w':=by
 have HR0:=mk_ hr0
 have HC0:=mk_ hc0
 clear hr0 hc0
 have HB:=mk_ (Below.refl w.heap.size w)
 have H : ((spec_l21Open.f l0).bind fun bt216 => ((spec_l14Draw.f k bt216.1 bt216.2).bind fun bt219 => ((spec_l21Rd_pick.f k bt216.1 bt219.2.2.2 2).bind fun bt225 => (if bt225.1 = 0 then ((spec_ShapePulses.f k bt219.1 bt219.2.1 bt219.2.2.1).bind fun t227 => (spec_DrawConforms.l0 k bt219.1 bt219.2.1 bt219.2.2.1 t227 0)) else (some (bt219.1,bt219.2.1,bt219.2.2.1)))))) = some (r1,r2,r3):=h
 clear h
 replace H:=Option.bind_eq_some_iff.mp H
 obtain ⟨⟨t216,t217⟩,A20,H⟩:=H
 replace H : ((spec_l14Draw.f k t216 t217).bind fun bt219 => ((spec_l21Rd_pick.f k t216 bt219.2.2.2 2).bind fun bt225 => (if bt225.1 = 0 then ((spec_ShapePulses.f k bt219.1 bt219.2.1 bt219.2.2.1).bind fun t227 => (spec_DrawConforms.l0 k bt219.1 bt219.2.1 bt219.2.2.1 t227 0)) else (some (bt219.1,bt219.2.1,bt219.2.2.1))))) = some (r1,r2,r3):=H
 have A2:=mk_ A20
 clear A20
 replace H:=Option.bind_eq_some_iff.mp H
 obtain ⟨⟨t219,t220,t221,t224⟩,A30,H⟩:=H
 replace H : ((spec_l21Rd_pick.f k t216 t224 2).bind fun bt225 => (if bt225.1 = 0 then ((spec_ShapePulses.f k t219 t220 t221).bind fun t227 => (spec_DrawConforms.l0 k t219 t220 t221 t227 0)) else (some (t219,t220,t221)))) = some (r1,r2,r3):=H
 have A3:=mk_ A30
 clear A30
 replace H:=Option.bind_eq_some_iff.mp H
 obtain ⟨⟨t225,t226⟩,A40,H⟩:=H
 replace H : (if t225 = 0 then ((spec_ShapePulses.f k t219 t220 t221).bind fun t227 => (spec_DrawConforms.l0 k t219 t220 t221 t227 0)) else (some (t219,t220,t221))) = some (r1,r2,r3):=H
 have A4:=mk_ A40
 clear A40
 by_cases c5 : t225 = 0
 ·rw [if_pos c5] at H
  have c5b0 : (t225 == 0) = true:=beq_iff_eq.mpr c5
  have c5b1 : (t225 != 0) = false:=bne_eq_false_iff_eq.mpr c5
  clear c5
  replace H:=Option.bind_eq_some_iff.mp H
  obtain ⟨t227,A60,H⟩:=H
  replace H : (spec_DrawConforms.l0 k t219 t220 t221 t227 0) = some (r1,r2,r3):=H
  have A6:=mk_ A60
  clear A60
  have H':=mk_ H
  clear H
  go_enter Try.func32,Try.ntmps32
  go_wp2_with (first|((with_reducible refine gate_callee (f:=49) rfl ?_);refine goesL_ (some 12) rfl rfl Try.func49 (by kernel_rfl) rfl #[.slice A0 l0.length c0] rfl qm_ ?_;(with_reducible refine (spec_l21Open.calls _ _ l0 t216 t217 w _ ?side1 ?side2 ?side3 A2.out).mono ?_);(case side1 => exact u0_ HB);(case side2 => exact HR0.out);(case side3 => exact HC0.out);rintro e w7 ⟨g218,rfl,hi,hb,hb2⟩;refine ⟨_,rfl,?_⟩;have n0_:=mk_ (hb);have n1_:=mk_ (hi);clear HB;have HB:=n0_;have HI218:=n1_;clear n0_ n1_;(try clear hb);(try clear hb2);(try clear hk);(try clear hi))|((with_reducible refine gate_callee (f:=48) rfl ?_);refine goesL_ (some 15) rfl rfl Try.func48 (by kernel_rfl) rfl #[.pointer (some ⟨g218,0,none⟩)] rfl qm_ ?_;(with_reducible refine (spec_l14Draw.calls k g218 t216 t217 t219 t220 t221 t224 w _ ?side1 ?side2 A3.out).mono ?_);(case side1 => exact u2_ HI218);(case side2 => exact u4_ HB HI218);rintro e w8 ⟨v222,rfl,ho0,hi,hb,hk⟩;refine ⟨_,rfl,?_⟩;have n0_:=mk_ (Kd.R_lower ho0 (bz_ (u4_ HB HI218)));have n1_:=mk_ (hb);have n2_:=mk_ (hi);clear HB HI218;have HO223:=n0_;have HB:=n1_;have HI218:=n2_;clear n0_ n1_ n2_;(try clear hb);(try clear hb2);(try clear hk);(try clear hi);(try clear ho0))|((with_reducible refine gate_callee (f:=53) rfl ?_);refine goesL_ (some 20) rfl rfl Try.func53 (by kernel_rfl) rfl #[.pointer (some ⟨g218,0,none⟩),.int .i64 2] rfl qm_ ?_;(with_reducible refine (spec_l21Rd_pick.calls k g218 t216 t224 2 t225 t226 w _ ?side1 ?side2 A4.out).mono ?_);(case side1 => exact u2_ HI218);(case side2 => exact u4_ HB HI218);rintro e w9 ⟨rfl,hi,hb,hk⟩;refine ⟨_,rfl,?_⟩;have n0_:=mk_ (rm_ (Kd.R_keep (IsS72.apart (show IsS72 w _ g218 t216 t224 from u2_ HI218) (qr_ HO223) (by decide)) hk (fun _ h => h.2)) (fun _ h => h.1));have n1_:=mk_ (hb);have n2_:=mk_ (hi);clear HO223 HB HI218;have HO223:=n0_;have HB:=n1_;have HI218:=n2_;clear n0_ n1_ n2_;(try clear hb);(try clear hb2);(try clear hk);(try clear hi);obtain ⟨Ao10,co10,eo10⟩:=Kd.R_slice HO223.out;subst eo10)|((with_reducible refine gate_callee (f:=38) rfl ?_);refine goesL_ (some 25) rfl rfl Try.func38 (by kernel_rfl) rfl #[.int .i64 t219,.int .i64 t220,.slice Ao10 t221.length co10] rfl qm_ ?_;(with_reducible refine (spec_ShapePulses.calls k t219 t220 _ _ t221 t227 _ ?side1 ?side2 A6.out).mono ?_);(case side1 => repeat (first|exact (rr_ HO223.out).2.2|(with_reducible refine ca_ ?_ _)|(with_reducible refine cn_ ?_ _)|(with_reducible refine cd_ ?_)));(case side2 => exact (rr_ HO223.out).2.1);rintro e w11 ⟨v228,rfl,ho0,hb⟩;refine ⟨_,rfl,?_⟩;have n0_:=mk_ (rb_ (qr_ HO223) hb);have n1_:=mk_ (Kd.R_lower ho0 (bz_ (u4_ HB HI218)));have n2_:=mk_ (IsS72.below (u2_ HI218) hb);have n3_:=mk_ (st_ (u4_ HB HI218) hb);clear HO223 HI218 HB;have HO223:=n0_;have HO229:=n1_;have HI218:=n2_;have HB:=n3_;clear n0_ n1_ n2_ n3_;(try clear hb);(try clear hb2);(try clear hk);(try clear hi);(try clear ho0)))
  go_loopg [10] k (fun kq v10 w' => ∃ (x8_1 : List (S35)) (x10_1 : Int),v10 = .int .i64 x10_1 ∧ Aside0 (spec_DrawConforms.l0 kq t219 t220 x8_1 t227 x10_1 = some (r1,r2,r3)) ∧ Aside0 (kq ≤ k) ∧ Aside0 (Kd.R k35 35 w' w.heap.size (fun _ => True) (.slice Ao10 t221.length co10) x8_1) ∧ Aside0 (Kd.R (Kd.int .i64) 3 w' w.heap.size (fun _ => True) v228 t227) ∧ Aside0 (Below w.heap.size w w'))
  case atStart => exact ⟨(t221),(0),qf_,H',⟨Nat.le_refl _⟩,⟨qr_ HO223⟩,⟨qr_ HO229⟩,⟨u4_ HB HI218⟩⟩
  case round =>
   clear H'
   try clear p2
   try clear c3
   try clear c4
   try clear c5
   try clear c5b0
   try clear c5b1
   obtain ⟨x8_1,x10_1,rfl,HA,HK1,HO_8,HO_9,HB⟩:=hrel
   have hl8_1:=(rr_ HO_8.out).1
   rw [hl8_1] at HO_8
   (try simp only [hl8_1])
   (try simp only [hl8_1] at HO_9)
   cases gk with
   | zero => exact absurd HA.out (by simp [spec_DrawConforms.l0])
   | succ k1 =>
    have H:=HA.out
    clear HA
    simp only [spec_DrawConforms.l0] at H
    by_cases c12 : x10_1 < (t227.length : Int)
    ·rw [if_pos c12] at H
     have c12b0 : decide (x10_1 < (t227.length : Int)) = true:=decide_eq_true c12
     clear c12
     by_cases c13 : 0 ≤ x10_1
     ·rw [if_pos c13] at H
      have c13b0 : decide (0 ≤ x10_1) = true:=decide_eq_true c13
      clear c13
      obtain ⟨ji14,hji14⟩ : ∃ j_ : Int,(mn (rd t227 x10_1) 2000) = j_:=⟨_,rfl⟩
      replace H : (if x10_1 < (x8_1.length : Int) then (spec_DrawConforms.l0 k1 t219 t220 (x8_1.set (x10_1 : Int).toNat (⟨ji14,(rd_T35 x8_1 x10_1).f1⟩ : S35)) t227 (wrap64 (x10_1 + 1))) else (none)) = some (r1,r2,r3):=by first|(rw [hji14] at H;exact H)|(simp only [hji14] at H ⊢;exact H)
      have hji14_ : (if 2000 < (rd t227 x10_1) then 2000 else (rd t227 x10_1)) = ji14:=hji14
      by_cases c15 : x10_1 < (x8_1.length : Int)
      ·rw [if_pos c15] at H
       have c15b0 : decide (x10_1 < (x8_1.length : Int)) = true:=decide_eq_true c15
       clear c15
       obtain ⟨y231,hy231⟩ : ∃ y_ : List (S35),y_ = (x8_1.set (x10_1 : Int).toNat (⟨ji14,(rd_T35 x8_1 x10_1).f1⟩ : S35)):=⟨_,rfl⟩
       replace H : (spec_DrawConforms.l0 k1 t219 t220 y231 t227 (wrap64 (x10_1 + 1))) = some (r1,r2,r3):=by first|(rw [hy231];with_reducible exact H)|(have H2_:=(Option.bind_some _ _).symm.trans H;rw [hy231];with_reducible exact H2_)|(have H2_:=(Option.bind_some _ _).symm.trans H;with_reducible exact H2_)|with_reducible exact H|(rw [hy231];exact H)|exact H
       have Ny231:=mk_ hy231
       clear hy231
       have H':=mk_ H
       clear H
       obtain ⟨Ao17,co17,eo17⟩:=Kd.R_slice HO_9.out
       subst eo17
       have p230 : 0 ≤ (x10_1 : Int):=od_ qa_
       have q230 : x10_1 < (t227.length : Int):=od_ qa_
       obtain ⟨ad230,e230,hx230_0⟩:=Kd.at_int (rr_ HO_9.out).2.2 x10_1 p230 q230
       cases e230
       replace p230:=eq_true p230
       replace q230:=eq_true q230
       have p16 : 0 ≤ (x10_1 : Int):=od_ qa_
       have q16 : (x10_1 : Int) < ((x8_1.length : Int) : Int):=od_ qa_
       obtain ⟨go16,co16,eo16,gb16,gl16,cl16,HG16⟩:=Kd.R_form HO_8.out (by omega)
       (first|cases eo16|(injection eo16 with ea_ en_ ec_;(first|subst ea_|(injection ea_ with ea_;subst ea_));subst ec_;clear en_))
       have GB16:=mk_ gb16
       have GG16:=mk_ HG16
       clear gb16 gl16 HG16
       obtain ⟨ce16,hcl16,hM16,hcc16,hfr16⟩:=Kd.R_elem HO_8.out z35 (x10_1 : Int) p16 q16
       obtain rfl:=k35_openM hM16
       have hx16_0 : wr.cell? ⟨go16,(x10_1 : Int).toNat * 2,none⟩ = some (.int .i64 ((rd_T35 x8_1 x10_1).f0)):=hcc16 0 _ rfl
       have hx16_1 : wr.cell? ⟨go16,(x10_1 : Int).toNat * 2 + 1,none⟩ = some (.int .i64 ((rd_T35 x8_1 x10_1).f1)):=hcc16 1 _ rfl
       have hf16_0 : wr.frozen? ⟨go16,(x10_1 : Int).toNat * 2,none⟩ = false:=hfr16 0
       have hf16_1 : wr.frozen? ⟨go16,(x10_1 : Int).toNat * 2 + 1,none⟩ = false:=hfr16 1
       clear hcl16 hcc16 hfr16 hM16
       replace p16:=eq_true p16
       replace q16:=eq_true q16
       have HX18:=mk_ (show Kd.R k35 35 wr w.heap.size (fun _ => True) (.slice (some ⟨go16,0,none⟩) x8_1.length co10) x8_1 from (qr_ HO_8))
       obtain ⟨ce18,hcl18,hM18,hcc18,hfr18⟩:=Kd.R_elem HX18.out z35 (x10_1 : Int) (od_ qa_) (by have h_ : (x10_1 : Int) < ((x8_1.length : Int) : Int):=od_ qa_;first|exact h_|(have e_:=(rr_ HO_8.out).1;omega)|simpa using h_)
       obtain rfl:=k35_openM hM18
       have HP18:=Kd.R_seg HX18.out (x10_1 : Int) (od_ qa_) (by have h_ : (x10_1 : Int) < ((x8_1.length : Int) : Int):=od_ qa_;first|exact h_|(have e_:=(rr_ HO_8.out).1;omega)|simpa using h_) (seg:=[.int .i64 ji14]) (j:=0) hcl18 hcc18 (show 1 ≤ 2 from by decide) (x':=(⟨ji14,(rd_T35 x8_1 x10_1).f1⟩ : S35)) (k35_mkM _ _ _ (⟨ji14,(rd_T35 x8_1 x10_1).f1⟩ : S35) ) (fun _ hk => hk)
       have hx18_0:=hcc18 0 _ rfl
       (try simp only [show (k35).sz = 2 from rfl,Nat.mul_one,Nat.add_zero] at hx18_0)
       have hf18_0:=hfr18 0
       (try simp only [show (k35).sz = 2 from rfl,Nat.mul_one,Nat.add_zero] at hf18_0)
       clear hcl18 hcc18 hfr18 hM18
       go_wp2_with (first|((with_reducible refine gate_store (t:=3) (p:=40) rfl ?_);refine store_event (t:=3) (p:=40) (v:=?vo_w19) (w1:=(wr.setCell ⟨go16,(x10_1 : Int).toNat * 2,none⟩ (.int .i64 ji14))) ?hg ?ho ?hn ?hr ?_;(case ho => rfl);(case hg => rfl);(case hn => rfl);(case hr => first|(go_simp;done)|(go_simp;rfl));intro w19 hw;have hg : wr.grownBy w19 (some go16):=(by rw [hw];exact HP18.2);have hp_ : Kd.R k35 35 w19 w.heap.size (fun _ => True) (.slice (some ⟨go16,0,none⟩) x8_1.length co10) y231:=(by rw [hw,Ny231.out];exact HP18.1);clear HP18;have n0_:=mk_ (hp_);have n1_:=mk_ (Kd.R_over' (v:=(.slice (some ⟨go16,0,none⟩) x8_1.length co10)) (qr_ HO_9) (Kd.R_typed HO_8.out) (by decide) hg);have n2_:=mk_ ((by rw [hw];exact bs_ (HB.out) GB16.out : Below w.heap.size w w19));clear HO_8 HO_9 HB;have HO_8:=n0_;have HO_9:=n1_;have HB:=n2_;clear n0_ n1_ n2_ hg hw hp_))
       (try simp only [← hl8_1])
       go_roundg k1
       case measure => have:=HK1.out;omega
       case rel => exact ⟨(y231),(wrap64 (x10_1 + 1)),qf_,H',⟨by have:=HK1.out;omega⟩,⟨by (try simp only [hl8_1]);(with_reducible repeat (first|apply ra_|apply rn_|apply rd_));exact HO_8.out⟩,⟨by (try simp only [hl8_1]);(with_reducible repeat (first|apply ra_|apply rn_|apply rd_));exact HO_9.out⟩,⟨u0_ HB⟩⟩
      ·rw [if_neg c15] at H
       exact absurd H (by simp)
     ·rw [if_neg c13] at H
      exact absurd H (by simp)
    ·rw [if_neg c12] at H
     have c12b0 : decide (x10_1 < (t227.length : Int)) = false:=decide_eq_false c12
     clear c12
     simp only [Option.some.injEq,Prod.mk.injEq] at H
     obtain ⟨rfl,rfl,rfl⟩:=H
     obtain ⟨Ao20,co20,eo20⟩:=Kd.R_slice HO_9.out
     subst eo20
     go_wp2
     go_ret3
     exact ⟨_,qe_,qr_ HO_8,u0_ HB⟩
 ·rw [if_neg c5] at H
  have c5b0 : (t225 == 0) = false:=beq_eq_false_iff_ne.mpr c5
  have c5b1 : (t225 != 0) = true:=bne_iff_ne.mpr c5
  simp only [Option.some.injEq,Prod.mk.injEq] at H
  obtain ⟨rfl,rfl,rfl⟩:=H
  go_enter Try.func32,Try.ntmps32
  go_wp2_with (first|((with_reducible refine gate_callee (f:=49) rfl ?_);refine goesL_ (some 12) rfl rfl Try.func49 (by kernel_rfl) rfl #[.slice A0 l0.length c0] rfl qm_ ?_;(with_reducible refine (spec_l21Open.calls _ _ l0 t216 t217 w _ ?side1 ?side2 ?side3 A2.out).mono ?_);(case side1 => exact u0_ HB);(case side2 => exact HR0.out);(case side3 => exact HC0.out);rintro e w21 ⟨g218,rfl,hi,hb,hb2⟩;refine ⟨_,rfl,?_⟩;have n0_:=mk_ (hb);have n1_:=mk_ (hi);clear HB;have HB:=n0_;have HI218:=n1_;clear n0_ n1_;(try clear hb);(try clear hb2);(try clear hk);(try clear hi))|((with_reducible refine gate_callee (f:=48) rfl ?_);refine goesL_ (some 15) rfl rfl Try.func48 (by kernel_rfl) rfl #[.pointer (some ⟨g218,0,none⟩)] rfl qm_ ?_;(with_reducible refine (spec_l14Draw.calls k g218 t216 t217 t219 t220 t221 t224 w _ ?side1 ?side2 A3.out).mono ?_);(case side1 => exact u2_ HI218);(case side2 => exact u4_ HB HI218);rintro e w22 ⟨v222,rfl,ho0,hi,hb,hk⟩;refine ⟨_,rfl,?_⟩;have n0_:=mk_ (Kd.R_lower ho0 (bz_ (u4_ HB HI218)));have n1_:=mk_ (hb);have n2_:=mk_ (hi);clear HB HI218;have HO223:=n0_;have HB:=n1_;have HI218:=n2_;clear n0_ n1_ n2_;(try clear hb);(try clear hb2);(try clear hk);(try clear hi);(try clear ho0))|((with_reducible refine gate_callee (f:=53) rfl ?_);refine goesL_ (some 20) rfl rfl Try.func53 (by kernel_rfl) rfl #[.pointer (some ⟨g218,0,none⟩),.int .i64 2] rfl qm_ ?_;(with_reducible refine (spec_l21Rd_pick.calls k g218 t216 t224 2 t225 t226 w _ ?side1 ?side2 A4.out).mono ?_);(case side1 => exact u2_ HI218);(case side2 => exact u4_ HB HI218);rintro e w23 ⟨rfl,hi,hb,hk⟩;refine ⟨_,rfl,?_⟩;have n0_:=mk_ (rm_ (Kd.R_keep (IsS72.apart (show IsS72 w _ g218 t216 t224 from u2_ HI218) (qr_ HO223) (by decide)) hk (fun _ h => h.2)) (fun _ h => h.1));have n1_:=mk_ (hb);have n2_:=mk_ (hi);clear HO223 HB HI218;have HO223:=n0_;have HB:=n1_;have HI218:=n2_;clear n0_ n1_ n2_;(try clear hb);(try clear hb2);(try clear hk);(try clear hi)))
  go_ret3
  exact ⟨_,qe_,qr_ HO223,u4_ HB HI218⟩

theorem recut_ {α : Type} {d : Kd α} {w : World} {A0 A1 : Option Addr} {c m : Nat} {xs ys : List α} (hA : A1 = if c = m then A0 else A0.map (·.add (m * d.sz))) (hy : ys = xs.drop m) (hC : d.C w A0 xs.length xs) (hm : m ≤ xs.length) (hc : xs.length ≤ c) : d.C w A1 ys.length ys:=by
 subst hA hy
 have h:=Kd.C_drop (m:=m) (c:=c) hC hm hc
 exact h
/-! ### laws_FnConforms: function 10 -/
mutual
def laws_FnConforms.j0 : Nat → Int → Int → List (S35) → Bool → Bool → Option (Bool)
 | 0,_,_,_,_,_ => none
 | k + 1,x3,x4,x5,x6,x37 => if x37 = true then (some false) else ((impl_PulsesValid.f k x5).bind fun t241 => (if t241 = true then (if x3 < 1 then (laws_FnConforms.j1 k x3 x4 x5 x6 true) else (if x3 > 20 then (laws_FnConforms.j1 k x3 x4 x5 x6 true) else (if x4 < 1 then (laws_FnConforms.j1 k x3 x4 x5 x6 true) else (laws_FnConforms.j1 k x3 x4 x5 x6 (decide (x4 > 100)))))) else (laws_FnConforms.j1 k x3 x4 x5 x6 true)))
def laws_FnConforms.j1 : Nat → Int → Int → List (S35) → Bool → Bool → Option (Bool)
 | 0,_,_,_,_,_ => none
 | k + 1,x3,x4,x5,x6,x56 => if x56 = true then (some (!x6)) else (laws_FnConforms.l0 k x3 x4 x5 x6 true (x5.length : Int) 0)
def laws_FnConforms.l0 : Nat → Int → Int → List (S35) → Bool → Bool → Int → Int → Option (Bool)
 | 0,_,_,_,_,_,_,_ => none
 | k + 1,x3,x4,x5,x6,x7,x60,x61 => if x61 < x60 then (if 0 ≤ x61 then (if x61 ≤ (x5.length : Int) then ((some (x5.drop (x61 : Int).toNat : List (S35))).bind fun y242 => (laws_FnConforms.l1 k x3 x4 x5 x6 x7 x61 0 x60 x61 y242 (y242.length : Int) 0)) else (none)) else (none)) else (some (x6 == x7))
def laws_FnConforms.l1 : Nat → Int → Int → List (S35) → Bool → Bool → Int → Int → Int → Int → List (S35) → Int → Int → Option (Bool)
 | 0,_,_,_,_,_,_,_,_,_,_,_,_ => none
 | k + 1,x3,x4,x5,x6,x7,x8,x9,x60,x61,x66,x67,x68 => if x68 < x67 then (if 0 ≤ x68 then (if x68 < (x66.length : Int) then (if x7 = true then (if 0 ≤ x8 then (if x8 < (x5.length : Int) then (laws_FnConforms.l1 k x3 x4 x5 x6 (decide ((wrap64 (x9 + ((rd_T35 x66 x68).f1))) ≤ (wrap64 (x4 + (wrap64 (x3 * (wrap64 (((rd_T35 x66 x68).f0) - ((rd_T35 x5 x8).f0))))))))) x8 (wrap64 (x9 + ((rd_T35 x66 x68).f1))) x60 x61 x66 x67 (wrap64 (x68 + 1))) else (none)) else (none)) else (laws_FnConforms.l1 k x3 x4 x5 x6 false x8 (wrap64 (x9 + ((rd_T35 x66 x68).f1))) x60 x61 x66 x67 (wrap64 (x68 + 1)))) else (none)) else (none)) else (laws_FnConforms.l0 k x3 x4 x5 x6 x7 x60 (wrap64 (x61 + 1)))
end
def laws_FnConforms.f (k : Nat) (l0 : List Int) : Option (Bool):=if (l0.length : Int) > 1048576 then (some true) else ((spec_DrawConforms.f k l0).bind fun bt232 => ((impl_Conforms.f bt232.1 bt232.2.1 bt232.2.2).bind fun t237 => ((spec_Conforms.f k bt232.1 bt232.2.1 bt232.2.2).bind fun t238 => (if (t237 != t238) = true then (laws_FnConforms.j0 k bt232.1 bt232.2.1 bt232.2.2 t237 true) else ((impl_PulsesValid.f k bt232.2.2).bind fun t239 => ((spec_PulsesValid.f k bt232.2.2).bind fun t240 => (laws_FnConforms.j0 k bt232.1 bt232.2.1 bt232.2.2 t237 (t239 != t240))))))))
theorem laws_FnConforms.mono_l : ∀ k,(∀ y0 y1 y2 y3 y4,LeO (laws_FnConforms.j0 k y0 y1 y2 y3 y4) (laws_FnConforms.j0 (k + 1) y0 y1 y2 y3 y4)) ∧ (∀ y0 y1 y2 y3 y4,LeO (laws_FnConforms.j1 k y0 y1 y2 y3 y4) (laws_FnConforms.j1 (k + 1) y0 y1 y2 y3 y4)) ∧ (∀ y0 y1 y2 y3 y4 y5 y6,LeO (laws_FnConforms.l0 k y0 y1 y2 y3 y4 y5 y6) (laws_FnConforms.l0 (k + 1) y0 y1 y2 y3 y4 y5 y6)) ∧ (∀ y0 y1 y2 y3 y4 y5 y6 y7 y8 y9 y10 y11,LeO (laws_FnConforms.l1 k y0 y1 y2 y3 y4 y5 y6 y7 y8 y9 y10 y11) (laws_FnConforms.l1 (k + 1) y0 y1 y2 y3 y4 y5 y6 y7 y8 y9 y10 y11))
 | 0 => ⟨fun _ _ _ _ _ r h => by simp [laws_FnConforms.j0] at h,fun _ _ _ _ _ r h => by simp [laws_FnConforms.j1] at h,fun _ _ _ _ _ _ _ r h => by simp [laws_FnConforms.l0] at h,fun _ _ _ _ _ _ _ _ _ _ _ _ r h => by simp [laws_FnConforms.l1] at h⟩
 | k + 1 => by
  obtain ⟨ih0,ih1,ih2,ih3⟩:=laws_FnConforms.mono_l k
  refine ⟨?_,?_,?_,?_⟩
  ·intro y0 y1 y2 y3 y4
   unfold laws_FnConforms.j0
   repeat' first
   | (with_reducible exact ih0 _ _ _ _ _)
   | (with_reducible exact ih1 _ _ _ _ _)
   | (with_reducible exact ih2 _ _ _ _ _ _ _)
   | (with_reducible exact ih3 _ _ _ _ _ _ _ _ _ _ _ _)
   | (with_reducible exact impl_PulsesValid.mono _ _)
   | (with_reducible exact spec_Conforms.mono _ _ _ _)
   | (with_reducible exact spec_DrawConforms.mono _ _)
   | (with_reducible exact spec_PulsesValid.mono _ _)
   | (with_reducible exact LeO.refl _)
   | (with_reducible exact LeO.none _)
   | (with_reducible refine LeO.ite ?_ ?_)
   | (with_reducible refine LeO.bind ?_ (fun _ => ?_))
   | exact ih0 _ _ _ _ _
   | exact ih1 _ _ _ _ _
   | exact ih2 _ _ _ _ _ _ _
   | exact ih3 _ _ _ _ _ _ _ _ _ _ _ _
   | exact impl_PulsesValid.mono _ _
   | exact spec_Conforms.mono _ _ _ _
   | exact spec_DrawConforms.mono _ _
   | exact spec_PulsesValid.mono _ _
   | exact LeO.none _
   | refine LeO.ite ?_ ?_
   | refine LeO.bind ?_ (fun _ => ?_)
  ·intro y0 y1 y2 y3 y4
   unfold laws_FnConforms.j1
   repeat' first
   | (with_reducible exact ih0 _ _ _ _ _)
   | (with_reducible exact ih1 _ _ _ _ _)
   | (with_reducible exact ih2 _ _ _ _ _ _ _)
   | (with_reducible exact ih3 _ _ _ _ _ _ _ _ _ _ _ _)
   | (with_reducible exact impl_PulsesValid.mono _ _)
   | (with_reducible exact spec_Conforms.mono _ _ _ _)
   | (with_reducible exact spec_DrawConforms.mono _ _)
   | (with_reducible exact spec_PulsesValid.mono _ _)
   | (with_reducible exact LeO.refl _)
   | (with_reducible exact LeO.none _)
   | (with_reducible refine LeO.ite ?_ ?_)
   | (with_reducible refine LeO.bind ?_ (fun _ => ?_))
   | exact ih0 _ _ _ _ _
   | exact ih1 _ _ _ _ _
   | exact ih2 _ _ _ _ _ _ _
   | exact ih3 _ _ _ _ _ _ _ _ _ _ _ _
   | exact impl_PulsesValid.mono _ _
   | exact spec_Conforms.mono _ _ _ _
   | exact spec_DrawConforms.mono _ _
   | exact spec_PulsesValid.mono _ _
   | exact LeO.none _
   | refine LeO.ite ?_ ?_
   | refine LeO.bind ?_ (fun _ => ?_)
  ·intro y0 y1 y2 y3 y4 y5 y6
   unfold laws_FnConforms.l0
   repeat' first
   | (with_reducible exact ih0 _ _ _ _ _)
   | (with_reducible exact ih1 _ _ _ _ _)
   | (with_reducible exact ih2 _ _ _ _ _ _ _)
   | (with_reducible exact ih3 _ _ _ _ _ _ _ _ _ _ _ _)
   | (with_reducible exact impl_PulsesValid.mono _ _)
   | (with_reducible exact spec_Conforms.mono _ _ _ _)
   | (with_reducible exact spec_DrawConforms.mono _ _)
   | (with_reducible exact spec_PulsesValid.mono _ _)
   | (with_reducible exact LeO.refl _)
   | (with_reducible exact LeO.none _)
   | (with_reducible refine LeO.ite ?_ ?_)
   | (with_reducible refine LeO.bind ?_ (fun _ => ?_))
   | exact ih0 _ _ _ _ _
   | exact ih1 _ _ _ _ _
   | exact ih2 _ _ _ _ _ _ _
   | exact ih3 _ _ _ _ _ _ _ _ _ _ _ _
   | exact impl_PulsesValid.mono _ _
   | exact spec_Conforms.mono _ _ _ _
   | exact spec_DrawConforms.mono _ _
   | exact spec_PulsesValid.mono _ _
   | exact LeO.none _
   | refine LeO.ite ?_ ?_
   | refine LeO.bind ?_ (fun _ => ?_)
  ·intro y0 y1 y2 y3 y4 y5 y6 y7 y8 y9 y10 y11
   unfold laws_FnConforms.l1
   repeat' first
   | (with_reducible exact ih0 _ _ _ _ _)
   | (with_reducible exact ih1 _ _ _ _ _)
   | (with_reducible exact ih2 _ _ _ _ _ _ _)
   | (with_reducible exact ih3 _ _ _ _ _ _ _ _ _ _ _ _)
   | (with_reducible exact impl_PulsesValid.mono _ _)
   | (with_reducible exact spec_Conforms.mono _ _ _ _)
   | (with_reducible exact spec_DrawConforms.mono _ _)
   | (with_reducible exact spec_PulsesValid.mono _ _)
   | (with_reducible exact LeO.refl _)
   | (with_reducible exact LeO.none _)
   | (with_reducible refine LeO.ite ?_ ?_)
   | (with_reducible refine LeO.bind ?_ (fun _ => ?_))
   | exact ih0 _ _ _ _ _
   | exact ih1 _ _ _ _ _
   | exact ih2 _ _ _ _ _ _ _
   | exact ih3 _ _ _ _ _ _ _ _ _ _ _ _
   | exact impl_PulsesValid.mono _ _
   | exact spec_Conforms.mono _ _ _ _
   | exact spec_DrawConforms.mono _ _
   | exact spec_PulsesValid.mono _ _
   | exact LeO.none _
   | refine LeO.ite ?_ ?_
   | refine LeO.bind ?_ (fun _ => ?_)
theorem laws_FnConforms.mono : ∀ a0 k,LeO (laws_FnConforms.f k a0) (laws_FnConforms.f (k + 1) a0):=by
 intro a0 k
 obtain ⟨ih0,ih1,ih2,ih3⟩:=laws_FnConforms.mono_l k
 unfold laws_FnConforms.f
 repeat' first
   | (with_reducible exact ih0 _ _ _ _ _)
   | (with_reducible exact ih1 _ _ _ _ _)
   | (with_reducible exact ih2 _ _ _ _ _ _ _)
   | (with_reducible exact ih3 _ _ _ _ _ _ _ _ _ _ _ _)
   | (with_reducible exact impl_PulsesValid.mono _ _)
   | (with_reducible exact spec_Conforms.mono _ _ _ _)
   | (with_reducible exact spec_DrawConforms.mono _ _)
   | (with_reducible exact spec_PulsesValid.mono _ _)
   | (with_reducible exact LeO.refl _)
   | (with_reducible exact LeO.none _)
   | (with_reducible refine LeO.ite ?_ ?_)
   | (with_reducible refine LeO.bind ?_ (fun _ => ?_))
   | exact ih0 _ _ _ _ _
   | exact ih1 _ _ _ _ _
   | exact ih2 _ _ _ _ _ _ _
   | exact ih3 _ _ _ _ _ _ _ _ _ _ _ _
   | exact impl_PulsesValid.mono _ _
   | exact spec_Conforms.mono _ _ _ _
   | exact spec_DrawConforms.mono _ _
   | exact spec_PulsesValid.mono _ _
   | exact LeO.none _
   | refine LeO.ite ?_ ?_
   | refine LeO.bind ?_ (fun _ => ?_)
set_option maxHeartbeats 8000000 in
set_option maxRecDepth 100000 in
theorem laws_FnConforms.calls (k : Nat) (A0 : Option Addr) (c0 : Nat) (l0 : List Int) (r : Bool) (w : World) (hr0 : Kd.C (Kd.int .u8) w A0 l0.length l0) (hc0 : l0.length ≤ c0) (h : laws_FnConforms.f k l0 = some r) :
  Calls Try.prog 10 #[.slice A0 l0.length c0] w fun e w' => e = .returned (.bool r) ∧ Below w.heap.size w w':=by
 have hu35:=Try.underlying35
 have HR0:=mk_ hr0
 have HC0:=mk_ hc0
 clear hr0 hc0
 have HB:=mk_ (Below.refl w.heap.size w)
 have H : (if (l0.length : Int) > 1048576 then (some true) else ((spec_DrawConforms.f k l0).bind fun bt232 => ((impl_Conforms.f bt232.1 bt232.2.1 bt232.2.2).bind fun t237 => ((spec_Conforms.f k bt232.1 bt232.2.1 bt232.2.2).bind fun t238 => (if (t237 != t238) = true then (laws_FnConforms.j0 k bt232.1 bt232.2.1 bt232.2.2 t237 true) else ((impl_PulsesValid.f k bt232.2.2).bind fun t239 => ((spec_PulsesValid.f k bt232.2.2).bind fun t240 => (laws_FnConforms.j0 k bt232.1 bt232.2.1 bt232.2.2 t237 (t239 != t240))))))))) = some r:=h
 clear h
 by_cases c2 : (l0.length : Int) > 1048576
 ·rw [if_pos c2] at H
  have c2b0 : decide (1048576 < (l0.length : Int)) = true:=decide_eq_true c2
  have c2b1 : decide (1048576 < l0.length) = true:=decide_eq_true (by omega)
  clear c2
  obtain rfl:=Option.some.inj H
  go_enter Try.func10,Try.ntmps10
  go_wp2
  repeat (go_quiet (fail);try go_wp2)
  go_ret
  exact ⟨qe_,u0_ HB⟩
 ·rw [if_neg c2] at H
  have c2b0 : decide (1048576 < (l0.length : Int)) = false:=decide_eq_false c2
  have c2b1 : decide (1048576 < l0.length) = false:=decide_eq_false (by omega)
  clear c2
  replace H:=Option.bind_eq_some_iff.mp H
  obtain ⟨⟨t232,t233,t234⟩,A30,H⟩:=H
  replace H : ((impl_Conforms.f t232 t233 t234).bind fun t237 => ((spec_Conforms.f k t232 t233 t234).bind fun t238 => (if (t237 != t238) = true then (laws_FnConforms.j0 k t232 t233 t234 t237 true) else ((impl_PulsesValid.f k t234).bind fun t239 => ((spec_PulsesValid.f k t234).bind fun t240 => (laws_FnConforms.j0 k t232 t233 t234 t237 (t239 != t240))))))) = some r:=H
  have A3:=mk_ A30
  clear A30
  replace H:=Option.bind_eq_some_iff.mp H
  obtain ⟨t237,A40,H⟩:=H
  replace H : ((spec_Conforms.f k t232 t233 t234).bind fun t238 => (if (t237 != t238) = true then (laws_FnConforms.j0 k t232 t233 t234 t237 true) else ((impl_PulsesValid.f k t234).bind fun t239 => ((spec_PulsesValid.f k t234).bind fun t240 => (laws_FnConforms.j0 k t232 t233 t234 t237 (t239 != t240)))))) = some r:=H
  have A4:=mk_ A40
  clear A40
  have HC5:=mk_ H
  clear H
  go_enter Try.func10,Try.ntmps10
  go_upto_region 5 with (first|(go_at_call 32;(with_reducible refine (spec_DrawConforms.calls k _ _ l0 t232 t233 t234 _ ?side1 ?side2 A3.out).mono ?_);(case side1 => repeat (first|exact HR0.out|(with_reducible refine ca_ ?_ _)|(with_reducible refine cn_ ?_ _)|(with_reducible refine cd_ ?_)));(case side2 => exact HC0.out);rintro e w6 ⟨v235,rfl,ho0,hb⟩;have n0_:=mk_ (Kd.R_lower ho0 (bz_ (qb_ HB)));have n1_:=mk_ (st_ (qb_ HB) hb);clear HB;have HO236:=n0_;have HB:=n1_;clear n0_ n1_;(try clear hb);(try clear hb2);(try clear hk);(try clear hi);(try clear ho0);obtain ⟨Ao7,co7,eo7⟩:=Kd.R_slice HO236.out;subst eo7)|(go_at_call 22;(with_reducible refine (impl_Conforms.calls t232 t233 _ _ t234 t237 _ ?side1 ?side2 A4.out).mono ?_);(case side1 => repeat (first|exact (rr_ HO236.out).2.2|(with_reducible refine ca_ ?_ _)|(with_reducible refine cn_ ?_ _)|(with_reducible refine cd_ ?_)));(case side2 => exact (rr_ HO236.out).2.1);rintro e w8 ⟨rfl,hb⟩;have n0_:=mk_ (rb_ (qr_ HO236) hb);have n1_:=mk_ (st_ (qb_ HB) hb);clear HO236 HB;have HO236:=n0_;have HB:=n1_;clear n0_ n1_;(try clear hb);(try clear hb2);(try clear hk);(try clear hi)))
  repeat (go_quiet (first|(go_at_call 32;(with_reducible refine (spec_DrawConforms.calls k _ _ l0 t232 t233 t234 _ ?side1 ?side2 A3.out).mono ?_);(case side1 => repeat (first|exact HR0.out|(with_reducible refine ca_ ?_ _)|(with_reducible refine cn_ ?_ _)|(with_reducible refine cd_ ?_)));(case side2 => exact HC0.out);rintro e w6 ⟨v235,rfl,ho0,hb⟩;have n0_:=mk_ (Kd.R_lower ho0 (bz_ (qb_ HB)));have n1_:=mk_ (st_ (qb_ HB) hb);clear HB;have HO236:=n0_;have HB:=n1_;clear n0_ n1_;(try clear hb);(try clear hb2);(try clear hk);(try clear hi);(try clear ho0);obtain ⟨Ao7,co7,eo7⟩:=Kd.R_slice HO236.out;subst eo7)|(go_at_call 22;(with_reducible refine (impl_Conforms.calls t232 t233 _ _ t234 t237 _ ?side1 ?side2 A4.out).mono ?_);(case side1 => repeat (first|exact (rr_ HO236.out).2.2|(with_reducible refine ca_ ?_ _)|(with_reducible refine cn_ ?_ _)|(with_reducible refine cd_ ?_)));(case side2 => exact (rr_ HO236.out).2.1);rintro e w8 ⟨rfl,hb⟩;have n0_:=mk_ (rb_ (qr_ HO236) hb);have n1_:=mk_ (st_ (qb_ HB) hb);clear HO236 HB;have HO236:=n0_;have HB:=n1_;clear n0_ n1_;(try clear hb);(try clear hb2);(try clear hk);(try clear hi)));go_upto_region 5 with (first|(go_at_call 32;(with_reducible refine (spec_DrawConforms.calls k _ _ l0 t232 t233 t234 _ ?side1 ?side2 A3.out).mono ?_);(case side1 => repeat (first|exact HR0.out|(with_reducible refine ca_ ?_ _)|(with_reducible refine cn_ ?_ _)|(with_reducible refine cd_ ?_)));(case side2 => exact HC0.out);rintro e w6 ⟨v235,rfl,ho0,hb⟩;have n0_:=mk_ (Kd.R_lower ho0 (bz_ (qb_ HB)));have n1_:=mk_ (st_ (qb_ HB) hb);clear HB;have HO236:=n0_;have HB:=n1_;clear n0_ n1_;(try clear hb);(try clear hb2);(try clear hk);(try clear hi);(try clear ho0);obtain ⟨Ao7,co7,eo7⟩:=Kd.R_slice HO236.out;subst eo7)|(go_at_call 22;(with_reducible refine (impl_Conforms.calls t232 t233 _ _ t234 t237 _ ?side1 ?side2 A4.out).mono ?_);(case side1 => repeat (first|exact (rr_ HO236.out).2.2|(with_reducible refine ca_ ?_ _)|(with_reducible refine cn_ ?_ _)|(with_reducible refine cd_ ?_)));(case side2 => exact (rr_ HO236.out).2.1);rintro e w8 ⟨rfl,hb⟩;have n0_:=mk_ (rb_ (qr_ HO236) hb);have n1_:=mk_ (st_ (qb_ HB) hb);clear HO236 HB;have HO236:=n0_;have HB:=n1_;clear n0_ n1_;(try clear hb);(try clear hb2);(try clear hk);(try clear hi))))
  (try simp only [Act.put,sx_,sy_,sz_])
  go_cut [37] (fun v37 wc => ∃ (kq : Nat) (x37_4 : Bool),v37 = .bool x37_4 ∧ Aside0 (laws_FnConforms.j0 kq t232 t233 t234 t237 x37_4 = some r) ∧ Aside0 (kq ≤ k) ∧ Aside0 (Kd.R k35 35 wc w.heap.size (fun _ => True) (.slice Ao7 t234.length co7) t234) ∧ Aside0 (Below w.heap.size w wc))
  case first =>
   have H:=HC5.out
   clear HC5
   replace H:=Option.bind_eq_some_iff.mp H
   obtain ⟨t238,A90,H⟩:=H
   replace H : (if (t237 != t238) = true then (laws_FnConforms.j0 k t232 t233 t234 t237 true) else ((impl_PulsesValid.f k t234).bind fun t239 => ((spec_PulsesValid.f k t234).bind fun t240 => (laws_FnConforms.j0 k t232 t233 t234 t237 (t239 != t240))))) = some r:=H
   have A9:=mk_ A90
   clear A90
   by_cases c10 : (t237 != t238) = true
   ·rw [if_pos c10] at H
    have c10b0 : (t237 != t238) = true:=c10
    (try (have c10b1 : decide (t237 = t238) = false:=by simpa using c10))
    (try (have c10b2 : (t237 == t238) = false:=by simpa using c10))
    (try (have c10b3 : ¬ (t237 = t238):=by simpa using c10))
    clear c10
    (first|rw [c10b0]|(simp only [i64_w,i32_w];rw [c10b0])|skip)
    have H':=mk_ H
    clear H
    go_wp2_with (first|(go_at_call 23;(with_reducible refine (spec_Conforms.calls k t232 t233 _ _ t234 t238 _ ?side1 ?side2 A9.out).mono ?_);(case side1 => repeat (first|exact (rr_ HO236.out).2.2|(with_reducible refine ca_ ?_ _)|(with_reducible refine cn_ ?_ _)|(with_reducible refine cd_ ?_)));(case side2 => exact (rr_ HO236.out).2.1);rintro e w11 ⟨rfl,hb⟩;have n0_:=mk_ (rb_ (qr_ HO236) hb);have n1_:=mk_ (st_ (qb_ HB) hb);clear HO236 HB;have HO236:=n0_;have HB:=n1_;clear n0_ n1_;(try clear hb);(try clear hb2);(try clear hk);(try clear hi)))
    repeat (go_quiet (first|(go_at_call 23;(with_reducible refine (spec_Conforms.calls k t232 t233 _ _ t234 t238 _ ?side1 ?side2 A9.out).mono ?_);(case side1 => repeat (first|exact (rr_ HO236.out).2.2|(with_reducible refine ca_ ?_ _)|(with_reducible refine cn_ ?_ _)|(with_reducible refine cd_ ?_)));(case side2 => exact (rr_ HO236.out).2.1);rintro e w11 ⟨rfl,hb⟩;have n0_:=mk_ (rb_ (qr_ HO236) hb);have n1_:=mk_ (st_ (qb_ HB) hb);clear HO236 HB;have HO236:=n0_;have HB:=n1_;clear n0_ n1_;(try clear hb);(try clear hb2);(try clear hk);(try clear hi)));try go_wp2_with (first|(go_at_call 23;(with_reducible refine (spec_Conforms.calls k t232 t233 _ _ t234 t238 _ ?side1 ?side2 A9.out).mono ?_);(case side1 => repeat (first|exact (rr_ HO236.out).2.2|(with_reducible refine ca_ ?_ _)|(with_reducible refine cn_ ?_ _)|(with_reducible refine cd_ ?_)));(case side2 => exact (rr_ HO236.out).2.1);rintro e w11 ⟨rfl,hb⟩;have n0_:=mk_ (rb_ (qr_ HO236) hb);have n1_:=mk_ (st_ (qb_ HB) hb);clear HO236 HB;have HO236:=n0_;have HB:=n1_;clear n0_ n1_;(try clear hb);(try clear hb2);(try clear hk);(try clear hi))))
    go_meet
    case rel => exact ⟨_,(true),qf_,H',⟨by first|omega|exact Nat.le_refl _⟩,⟨qr_ HO236⟩,⟨u0_ HB⟩⟩
   ·rw [if_neg c10] at H
    have c10b0 : (t237 != t238) = false:=by simpa using c10
    (try (have c10b1 : decide (t237 = t238) = true:=by simpa using c10))
    (try (have c10b2 : (t237 == t238) = true:=by simpa using c10))
    clear c10
    (first|rw [c10b0]|(simp only [i64_w,i32_w];rw [c10b0])|skip)
    replace H:=Option.bind_eq_some_iff.mp H
    obtain ⟨t239,A120,H⟩:=H
    replace H : ((spec_PulsesValid.f k t234).bind fun t240 => (laws_FnConforms.j0 k t232 t233 t234 t237 (t239 != t240))) = some r:=H
    have A12:=mk_ A120
    clear A120
    replace H:=Option.bind_eq_some_iff.mp H
    obtain ⟨t240,A130,H⟩:=H
    replace H : (laws_FnConforms.j0 k t232 t233 t234 t237 (t239 != t240)) = some r:=H
    have A13:=mk_ A130
    clear A130
    have H':=mk_ H
    clear H
    go_wp2_with (first|(go_at_call 23;(with_reducible refine (spec_Conforms.calls k t232 t233 _ _ t234 t238 _ ?side1 ?side2 A9.out).mono ?_);(case side1 => repeat (first|exact (rr_ HO236.out).2.2|(with_reducible refine ca_ ?_ _)|(with_reducible refine cn_ ?_ _)|(with_reducible refine cd_ ?_)));(case side2 => exact (rr_ HO236.out).2.1);rintro e w14 ⟨rfl,hb⟩;have n0_:=mk_ (rb_ (qr_ HO236) hb);have n1_:=mk_ (st_ (qb_ HB) hb);clear HO236 HB;have HO236:=n0_;have HB:=n1_;clear n0_ n1_;(try clear hb);(try clear hb2);(try clear hk);(try clear hi))|(go_at_call 33;(with_reducible refine (impl_PulsesValid.calls k _ _ t234 t239 _ ?side1 ?side2 A12.out).mono ?_);(case side1 => repeat (first|exact (rr_ HO236.out).2.2|(with_reducible refine ca_ ?_ _)|(with_reducible refine cn_ ?_ _)|(with_reducible refine cd_ ?_)));(case side2 => exact (rr_ HO236.out).2.1);rintro e w15 ⟨rfl,hb⟩;have n0_:=mk_ (rb_ (qr_ HO236) hb);have n1_:=mk_ (st_ (qb_ HB) hb);clear HO236 HB;have HO236:=n0_;have HB:=n1_;clear n0_ n1_;(try clear hb);(try clear hb2);(try clear hk);(try clear hi))|(go_at_call 34;(with_reducible refine (spec_PulsesValid.calls k _ _ t234 t240 _ ?side1 ?side2 A13.out).mono ?_);(case side1 => repeat (first|exact (rr_ HO236.out).2.2|(with_reducible refine ca_ ?_ _)|(with_reducible refine cn_ ?_ _)|(with_reducible refine cd_ ?_)));(case side2 => exact (rr_ HO236.out).2.1);rintro e w16 ⟨rfl,hb⟩;have n0_:=mk_ (rb_ (qr_ HO236) hb);have n1_:=mk_ (st_ (qb_ HB) hb);clear HO236 HB;have HO236:=n0_;have HB:=n1_;clear n0_ n1_;(try clear hb);(try clear hb2);(try clear hk);(try clear hi)))
    repeat (go_quiet (first|(go_at_call 23;(with_reducible refine (spec_Conforms.calls k t232 t233 _ _ t234 t238 _ ?side1 ?side2 A9.out).mono ?_);(case side1 => repeat (first|exact (rr_ HO236.out).2.2|(with_reducible refine ca_ ?_ _)|(with_reducible refine cn_ ?_ _)|(with_reducible refine cd_ ?_)));(case side2 => exact (rr_ HO236.out).2.1);rintro e w14 ⟨rfl,hb⟩;have n0_:=mk_ (rb_ (qr_ HO236) hb);have n1_:=mk_ (st_ (qb_ HB) hb);clear HO236 HB;have HO236:=n0_;have HB:=n1_;clear n0_ n1_;(try clear hb);(try clear hb2);(try clear hk);(try clear hi))|(go_at_call 33;(with_reducible refine (impl_PulsesValid.calls k _ _ t234 t239 _ ?side1 ?side2 A12.out).mono ?_);(case side1 => repeat (first|exact (rr_ HO236.out).2.2|(with_reducible refine ca_ ?_ _)|(with_reducible refine cn_ ?_ _)|(with_reducible refine cd_ ?_)));(case side2 => exact (rr_ HO236.out).2.1);rintro e w15 ⟨rfl,hb⟩;have n0_:=mk_ (rb_ (qr_ HO236) hb);have n1_:=mk_ (st_ (qb_ HB) hb);clear HO236 HB;have HO236:=n0_;have HB:=n1_;clear n0_ n1_;(try clear hb);(try clear hb2);(try clear hk);(try clear hi))|(go_at_call 34;(with_reducible refine (spec_PulsesValid.calls k _ _ t234 t240 _ ?side1 ?side2 A13.out).mono ?_);(case side1 => repeat (first|exact (rr_ HO236.out).2.2|(with_reducible refine ca_ ?_ _)|(with_reducible refine cn_ ?_ _)|(with_reducible refine cd_ ?_)));(case side2 => exact (rr_ HO236.out).2.1);rintro e w16 ⟨rfl,hb⟩;have n0_:=mk_ (rb_ (qr_ HO236) hb);have n1_:=mk_ (st_ (qb_ HB) hb);clear HO236 HB;have HO236:=n0_;have HB:=n1_;clear n0_ n1_;(try clear hb);(try clear hb2);(try clear hk);(try clear hi)));try go_wp2_with (first|(go_at_call 23;(with_reducible refine (spec_Conforms.calls k t232 t233 _ _ t234 t238 _ ?side1 ?side2 A9.out).mono ?_);(case side1 => repeat (first|exact (rr_ HO236.out).2.2|(with_reducible refine ca_ ?_ _)|(with_reducible refine cn_ ?_ _)|(with_reducible refine cd_ ?_)));(case side2 => exact (rr_ HO236.out).2.1);rintro e w14 ⟨rfl,hb⟩;have n0_:=mk_ (rb_ (qr_ HO236) hb);have n1_:=mk_ (st_ (qb_ HB) hb);clear HO236 HB;have HO236:=n0_;have HB:=n1_;clear n0_ n1_;(try clear hb);(try clear hb2);(try clear hk);(try clear hi))|(go_at_call 33;(with_reducible refine (impl_PulsesValid.calls k _ _ t234 t239 _ ?side1 ?side2 A12.out).mono ?_);(case side1 => repeat (first|exact (rr_ HO236.out).2.2|(with_reducible refine ca_ ?_ _)|(with_reducible refine cn_ ?_ _)|(with_reducible refine cd_ ?_)));(case side2 => exact (rr_ HO236.out).2.1);rintro e w15 ⟨rfl,hb⟩;have n0_:=mk_ (rb_ (qr_ HO236) hb);have n1_:=mk_ (st_ (qb_ HB) hb);clear HO236 HB;have HO236:=n0_;have HB:=n1_;clear n0_ n1_;(try clear hb);(try clear hb2);(try clear hk);(try clear hi))|(go_at_call 34;(with_reducible refine (spec_PulsesValid.calls k _ _ t234 t240 _ ?side1 ?side2 A13.out).mono ?_);(case side1 => repeat (first|exact (rr_ HO236.out).2.2|(with_reducible refine ca_ ?_ _)|(with_reducible refine cn_ ?_ _)|(with_reducible refine cd_ ?_)));(case side2 => exact (rr_ HO236.out).2.1);rintro e w16 ⟨rfl,hb⟩;have n0_:=mk_ (rb_ (qr_ HO236) hb);have n1_:=mk_ (st_ (qb_ HB) hb);clear HO236 HB;have HO236:=n0_;have HB:=n1_;clear n0_ n1_;(try clear hb);(try clear hb2);(try clear hk);(try clear hi))))
    go_meet
    case rel => exact ⟨_,((t239 != t240)),qf_,H',⟨by first|omega|exact Nat.le_refl _⟩,⟨qr_ HO236⟩,⟨u0_ HB⟩⟩
  case rest =>
   clear HC5
   try clear c1
   try clear c2
   try clear c2b0
   try clear c2b1
   try clear p2
   try clear c10
   try clear c10b0
   try clear c10b1
   try clear c10b2
   obtain ⟨kq,x37_4,rfl,HA,HJ4,HO_5,HB⟩:=hcut
   cases kq with
   | zero => exact absurd HA.out (by simp [laws_FnConforms.j0])
   | succ kj4 =>
    have H:=HA.out
    clear HA
    simp only [laws_FnConforms.j0] at H
    by_cases c17 : x37_4 = true
    ·subst c17
     have H1 : (some false) = some r:=by rw [if_pos rfl] at H;exact H
     clear H
     have H:=H1
     clear H1
     obtain rfl:=Option.some.inj H
     go_wp2
     repeat (go_quiet (fail);try go_wp2)
     go_ret
     exact ⟨qe_,u0_ HB⟩
    ·replace c17:=Bool.eq_false_iff.mpr c17
     subst c17
     have H1 : ((impl_PulsesValid.f kj4 t234).bind fun t241 => (if t241 = true then (if t232 < 1 then (laws_FnConforms.j1 kj4 t232 t233 t234 t237 true) else (if t232 > 20 then (laws_FnConforms.j1 kj4 t232 t233 t234 t237 true) else (if t233 < 1 then (laws_FnConforms.j1 kj4 t232 t233 t234 t237 true) else (laws_FnConforms.j1 kj4 t232 t233 t234 t237 (decide (t233 > 100)))))) else (laws_FnConforms.j1 kj4 t232 t233 t234 t237 true))) = some r:=by rw [if_neg (show ¬ (false = true) by decide)] at H;exact H
     clear H
     have H:=H1
     clear H1
     have HC18:=mk_ H
     clear H
     go_upto_region 7 with (fail)
     repeat (go_quiet (fail);go_upto_region 7 with (fail))
     go_cut [56] (fun v56 wc => ∃ (kq : Nat) (x56_17 : Bool),v56 = .bool x56_17 ∧ Aside0 (laws_FnConforms.j1 kq t232 t233 t234 t237 x56_17 = some r) ∧ Aside0 (kq ≤ kj4) ∧ Aside0 (Kd.R k35 35 wc w.heap.size (fun _ => True) (.slice Ao7 t234.length co7) t234) ∧ Aside0 (Below w.heap.size w wc))
     case first =>
      have H:=HC18.out
      clear HC18
      replace H:=Option.bind_eq_some_iff.mp H
      obtain ⟨t241,A190,H⟩:=H
      replace H : (if t241 = true then (if t232 < 1 then (laws_FnConforms.j1 kj4 t232 t233 t234 t237 true) else (if t232 > 20 then (laws_FnConforms.j1 kj4 t232 t233 t234 t237 true) else (if t233 < 1 then (laws_FnConforms.j1 kj4 t232 t233 t234 t237 true) else (laws_FnConforms.j1 kj4 t232 t233 t234 t237 (decide (t233 > 100)))))) else (laws_FnConforms.j1 kj4 t232 t233 t234 t237 true)) = some r:=H
      have A19:=mk_ A190
      clear A190
      by_cases c20 : t241 = true
      ·subst c20
       have H1 : (if t232 < 1 then (laws_FnConforms.j1 kj4 t232 t233 t234 t237 true) else (if t232 > 20 then (laws_FnConforms.j1 kj4 t232 t233 t234 t237 true) else (if t233 < 1 then (laws_FnConforms.j1 kj4 t232 t233 t234 t237 true) else (laws_FnConforms.j1 kj4 t232 t233 t234 t237 (decide (t233 > 100)))))) = some r:=by rw [if_pos rfl] at H;exact H
       clear H
       have H:=H1
       clear H1
       by_cases c21 : t232 < 1
       ·rw [if_pos c21] at H
        have c21b0 : decide (t232 < 1) = true:=decide_eq_true c21
        clear c21
        (first|rw [c21b0]|(simp only [i64_w,i32_w];rw [c21b0])|skip)
        have H':=mk_ H
        clear H
        go_wp2_with (first|(go_at_call 33;(with_reducible refine (impl_PulsesValid.calls kj4 _ _ t234 true _ ?side1 ?side2 A19.out).mono ?_);(case side1 => repeat (first|exact (rr_ HO_5.out).2.2|(with_reducible refine ca_ ?_ _)|(with_reducible refine cn_ ?_ _)|(with_reducible refine cd_ ?_)));(case side2 => exact (rr_ HO_5.out).2.1);rintro e w22 ⟨rfl,hb⟩;have n0_:=mk_ (rb_ (qr_ HO_5) hb);have n1_:=mk_ (st_ (qb_ HB) hb);clear HO_5 HB;have HO_5:=n0_;have HB:=n1_;clear n0_ n1_;(try clear hb);(try clear hb2);(try clear hk);(try clear hi)))
        repeat (go_quiet (first|(go_at_call 33;(with_reducible refine (impl_PulsesValid.calls kj4 _ _ t234 true _ ?side1 ?side2 A19.out).mono ?_);(case side1 => repeat (first|exact (rr_ HO_5.out).2.2|(with_reducible refine ca_ ?_ _)|(with_reducible refine cn_ ?_ _)|(with_reducible refine cd_ ?_)));(case side2 => exact (rr_ HO_5.out).2.1);rintro e w22 ⟨rfl,hb⟩;have n0_:=mk_ (rb_ (qr_ HO_5) hb);have n1_:=mk_ (st_ (qb_ HB) hb);clear HO_5 HB;have HO_5:=n0_;have HB:=n1_;clear n0_ n1_;(try clear hb);(try clear hb2);(try clear hk);(try clear hi)));try go_wp2_with (first|(go_at_call 33;(with_reducible refine (impl_PulsesValid.calls kj4 _ _ t234 true _ ?side1 ?side2 A19.out).mono ?_);(case side1 => repeat (first|exact (rr_ HO_5.out).2.2|(with_reducible refine ca_ ?_ _)|(with_reducible refine cn_ ?_ _)|(with_reducible refine cd_ ?_)));(case side2 => exact (rr_ HO_5.out).2.1);rintro e w22 ⟨rfl,hb⟩;have n0_:=mk_ (rb_ (qr_ HO_5) hb);have n1_:=mk_ (st_ (qb_ HB) hb);clear HO_5 HB;have HO_5:=n0_;have HB:=n1_;clear n0_ n1_;(try clear hb);(try clear hb2);(try clear hk);(try clear hi))))
        go_meet
        case rel => exact ⟨_,(true),qf_,H',⟨by have:=HJ4.out;first|omega|exact Nat.le_refl _⟩,⟨qr_ HO_5⟩,⟨u0_ HB⟩⟩
       ·rw [if_neg c21] at H
        have c21b0 : decide (t232 < 1) = false:=decide_eq_false c21
        clear c21
        (first|rw [c21b0]|(simp only [i64_w,i32_w];rw [c21b0])|skip)
        by_cases c23 : t232 > 20
        ·rw [if_pos c23] at H
         have c23b0 : decide (20 < t232) = true:=decide_eq_true c23
         clear c23
         have H':=mk_ H
         clear H
         go_wp2_with (first|(go_at_call 33;(with_reducible refine (impl_PulsesValid.calls kj4 _ _ t234 true _ ?side1 ?side2 A19.out).mono ?_);(case side1 => repeat (first|exact (rr_ HO_5.out).2.2|(with_reducible refine ca_ ?_ _)|(with_reducible refine cn_ ?_ _)|(with_reducible refine cd_ ?_)));(case side2 => exact (rr_ HO_5.out).2.1);rintro e w24 ⟨rfl,hb⟩;have n0_:=mk_ (rb_ (qr_ HO_5) hb);have n1_:=mk_ (st_ (qb_ HB) hb);clear HO_5 HB;have HO_5:=n0_;have HB:=n1_;clear n0_ n1_;(try clear hb);(try clear hb2);(try clear hk);(try clear hi)))
         repeat (go_quiet (first|(go_at_call 33;(with_reducible refine (impl_PulsesValid.calls kj4 _ _ t234 true _ ?side1 ?side2 A19.out).mono ?_);(case side1 => repeat (first|exact (rr_ HO_5.out).2.2|(with_reducible refine ca_ ?_ _)|(with_reducible refine cn_ ?_ _)|(with_reducible refine cd_ ?_)));(case side2 => exact (rr_ HO_5.out).2.1);rintro e w24 ⟨rfl,hb⟩;have n0_:=mk_ (rb_ (qr_ HO_5) hb);have n1_:=mk_ (st_ (qb_ HB) hb);clear HO_5 HB;have HO_5:=n0_;have HB:=n1_;clear n0_ n1_;(try clear hb);(try clear hb2);(try clear hk);(try clear hi)));try go_wp2_with (first|(go_at_call 33;(with_reducible refine (impl_PulsesValid.calls kj4 _ _ t234 true _ ?side1 ?side2 A19.out).mono ?_);(case side1 => repeat (first|exact (rr_ HO_5.out).2.2|(with_reducible refine ca_ ?_ _)|(with_reducible refine cn_ ?_ _)|(with_reducible refine cd_ ?_)));(case side2 => exact (rr_ HO_5.out).2.1);rintro e w24 ⟨rfl,hb⟩;have n0_:=mk_ (rb_ (qr_ HO_5) hb);have n1_:=mk_ (st_ (qb_ HB) hb);clear HO_5 HB;have HO_5:=n0_;have HB:=n1_;clear n0_ n1_;(try clear hb);(try clear hb2);(try clear hk);(try clear hi))))
         go_meet
         case rel => exact ⟨_,(true),qf_,H',⟨by have:=HJ4.out;first|omega|exact Nat.le_refl _⟩,⟨qr_ HO_5⟩,⟨u0_ HB⟩⟩
        ·rw [if_neg c23] at H
         have c23b0 : decide (20 < t232) = false:=decide_eq_false c23
         clear c23
         by_cases c25 : t233 < 1
         ·rw [if_pos c25] at H
          have c25b0 : decide (t233 < 1) = true:=decide_eq_true c25
          clear c25
          have H':=mk_ H
          clear H
          go_wp2_with (first|(go_at_call 33;(with_reducible refine (impl_PulsesValid.calls kj4 _ _ t234 true _ ?side1 ?side2 A19.out).mono ?_);(case side1 => repeat (first|exact (rr_ HO_5.out).2.2|(with_reducible refine ca_ ?_ _)|(with_reducible refine cn_ ?_ _)|(with_reducible refine cd_ ?_)));(case side2 => exact (rr_ HO_5.out).2.1);rintro e w26 ⟨rfl,hb⟩;have n0_:=mk_ (rb_ (qr_ HO_5) hb);have n1_:=mk_ (st_ (qb_ HB) hb);clear HO_5 HB;have HO_5:=n0_;have HB:=n1_;clear n0_ n1_;(try clear hb);(try clear hb2);(try clear hk);(try clear hi)))
          repeat (go_quiet (first|(go_at_call 33;(with_reducible refine (impl_PulsesValid.calls kj4 _ _ t234 true _ ?side1 ?side2 A19.out).mono ?_);(case side1 => repeat (first|exact (rr_ HO_5.out).2.2|(with_reducible refine ca_ ?_ _)|(with_reducible refine cn_ ?_ _)|(with_reducible refine cd_ ?_)));(case side2 => exact (rr_ HO_5.out).2.1);rintro e w26 ⟨rfl,hb⟩;have n0_:=mk_ (rb_ (qr_ HO_5) hb);have n1_:=mk_ (st_ (qb_ HB) hb);clear HO_5 HB;have HO_5:=n0_;have HB:=n1_;clear n0_ n1_;(try clear hb);(try clear hb2);(try clear hk);(try clear hi)));try go_wp2_with (first|(go_at_call 33;(with_reducible refine (impl_PulsesValid.calls kj4 _ _ t234 true _ ?side1 ?side2 A19.out).mono ?_);(case side1 => repeat (first|exact (rr_ HO_5.out).2.2|(with_reducible refine ca_ ?_ _)|(with_reducible refine cn_ ?_ _)|(with_reducible refine cd_ ?_)));(case side2 => exact (rr_ HO_5.out).2.1);rintro e w26 ⟨rfl,hb⟩;have n0_:=mk_ (rb_ (qr_ HO_5) hb);have n1_:=mk_ (st_ (qb_ HB) hb);clear HO_5 HB;have HO_5:=n0_;have HB:=n1_;clear n0_ n1_;(try clear hb);(try clear hb2);(try clear hk);(try clear hi))))
          go_meet
          case rel => exact ⟨_,(true),qf_,H',⟨by have:=HJ4.out;first|omega|exact Nat.le_refl _⟩,⟨qr_ HO_5⟩,⟨u0_ HB⟩⟩
         ·rw [if_neg c25] at H
          have c25b0 : decide (t233 < 1) = false:=decide_eq_false c25
          clear c25
          have H':=mk_ H
          clear H
          go_wp2_with (first|(go_at_call 33;(with_reducible refine (impl_PulsesValid.calls kj4 _ _ t234 true _ ?side1 ?side2 A19.out).mono ?_);(case side1 => repeat (first|exact (rr_ HO_5.out).2.2|(with_reducible refine ca_ ?_ _)|(with_reducible refine cn_ ?_ _)|(with_reducible refine cd_ ?_)));(case side2 => exact (rr_ HO_5.out).2.1);rintro e w27 ⟨rfl,hb⟩;have n0_:=mk_ (rb_ (qr_ HO_5) hb);have n1_:=mk_ (st_ (qb_ HB) hb);clear HO_5 HB;have HO_5:=n0_;have HB:=n1_;clear n0_ n1_;(try clear hb);(try clear hb2);(try clear hk);(try clear hi)))
          repeat (go_quiet (first|(go_at_call 33;(with_reducible refine (impl_PulsesValid.calls kj4 _ _ t234 true _ ?side1 ?side2 A19.out).mono ?_);(case side1 => repeat (first|exact (rr_ HO_5.out).2.2|(with_reducible refine ca_ ?_ _)|(with_reducible refine cn_ ?_ _)|(with_reducible refine cd_ ?_)));(case side2 => exact (rr_ HO_5.out).2.1);rintro e w27 ⟨rfl,hb⟩;have n0_:=mk_ (rb_ (qr_ HO_5) hb);have n1_:=mk_ (st_ (qb_ HB) hb);clear HO_5 HB;have HO_5:=n0_;have HB:=n1_;clear n0_ n1_;(try clear hb);(try clear hb2);(try clear hk);(try clear hi)));try go_wp2_with (first|(go_at_call 33;(with_reducible refine (impl_PulsesValid.calls kj4 _ _ t234 true _ ?side1 ?side2 A19.out).mono ?_);(case side1 => repeat (first|exact (rr_ HO_5.out).2.2|(with_reducible refine ca_ ?_ _)|(with_reducible refine cn_ ?_ _)|(with_reducible refine cd_ ?_)));(case side2 => exact (rr_ HO_5.out).2.1);rintro e w27 ⟨rfl,hb⟩;have n0_:=mk_ (rb_ (qr_ HO_5) hb);have n1_:=mk_ (st_ (qb_ HB) hb);clear HO_5 HB;have HO_5:=n0_;have HB:=n1_;clear n0_ n1_;(try clear hb);(try clear hb2);(try clear hk);(try clear hi))))
          go_meet
          case rel => exact ⟨_,(decide (t233 > 100)),qf_,H',⟨by have:=HJ4.out;first|omega|exact Nat.le_refl _⟩,⟨qr_ HO_5⟩,⟨u0_ HB⟩⟩
      ·replace c20:=Bool.eq_false_iff.mpr c20
       subst c20
       have H1 : (laws_FnConforms.j1 kj4 t232 t233 t234 t237 true) = some r:=by rw [if_neg (show ¬ (false = true) by decide)] at H;exact H
       clear H
       have H:=H1
       clear H1
       have H':=mk_ H
       clear H
       go_wp2_with (first|(go_at_call 33;(with_reducible refine (impl_PulsesValid.calls kj4 _ _ t234 false _ ?side1 ?side2 A19.out).mono ?_);(case side1 => repeat (first|exact (rr_ HO_5.out).2.2|(with_reducible refine ca_ ?_ _)|(with_reducible refine cn_ ?_ _)|(with_reducible refine cd_ ?_)));(case side2 => exact (rr_ HO_5.out).2.1);rintro e w28 ⟨rfl,hb⟩;have n0_:=mk_ (rb_ (qr_ HO_5) hb);have n1_:=mk_ (st_ (qb_ HB) hb);clear HO_5 HB;have HO_5:=n0_;have HB:=n1_;clear n0_ n1_;(try clear hb);(try clear hb2);(try clear hk);(try clear hi)))
       repeat (go_quiet (first|(go_at_call 33;(with_reducible refine (impl_PulsesValid.calls kj4 _ _ t234 false _ ?side1 ?side2 A19.out).mono ?_);(case side1 => repeat (first|exact (rr_ HO_5.out).2.2|(with_reducible refine ca_ ?_ _)|(with_reducible refine cn_ ?_ _)|(with_reducible refine cd_ ?_)));(case side2 => exact (rr_ HO_5.out).2.1);rintro e w28 ⟨rfl,hb⟩;have n0_:=mk_ (rb_ (qr_ HO_5) hb);have n1_:=mk_ (st_ (qb_ HB) hb);clear HO_5 HB;have HO_5:=n0_;have HB:=n1_;clear n0_ n1_;(try clear hb);(try clear hb2);(try clear hk);(try clear hi)));try go_wp2_with (first|(go_at_call 33;(with_reducible refine (impl_PulsesValid.calls kj4 _ _ t234 false _ ?side1 ?side2 A19.out).mono ?_);(case side1 => repeat (first|exact (rr_ HO_5.out).2.2|(with_reducible refine ca_ ?_ _)|(with_reducible refine cn_ ?_ _)|(with_reducible refine cd_ ?_)));(case side2 => exact (rr_ HO_5.out).2.1);rintro e w28 ⟨rfl,hb⟩;have n0_:=mk_ (rb_ (qr_ HO_5) hb);have n1_:=mk_ (st_ (qb_ HB) hb);clear HO_5 HB;have HO_5:=n0_;have HB:=n1_;clear n0_ n1_;(try clear hb);(try clear hb2);(try clear hk);(try clear hi))))
       go_meet
       case rel => exact ⟨_,(true),qf_,H',⟨by have:=HJ4.out;first|omega|exact Nat.le_refl _⟩,⟨qr_ HO_5⟩,⟨u0_ HB⟩⟩
     case rest =>
      clear HC18
      try clear c1
      try clear c2
      try clear c2b0
      try clear c2b1
      try clear p2
      try clear c10
      try clear c10b0
      try clear c10b1
      try clear c10b2
      try clear c17
      try clear c20
      try clear c21
      try clear c21b0
      try clear c23
      try clear c23b0
      try clear c25
      try clear c25b0
      try clear p2
      obtain ⟨kq,x56_17,rfl,HA,HJ17,HO_5,HB⟩:=hcut
      cases kq with
      | zero => exact absurd HA.out (by simp [laws_FnConforms.j1])
      | succ kj17 =>
       have H:=HA.out
       clear HA
       simp only [laws_FnConforms.j1] at H
       by_cases c29 : x56_17 = true
       ·subst c29
        have H1 : (some (!t237)) = some r:=by rw [if_pos rfl] at H;exact H
        clear H
        have H:=H1
        clear H1
        obtain rfl:=Option.some.inj H
        go_wp2
        repeat (go_quiet (fail);try go_wp2)
        go_ret
        exact ⟨qe_,u0_ HB⟩
       ·replace c29:=Bool.eq_false_iff.mpr c29
        subst c29
        have H1 : (laws_FnConforms.l0 kj17 t232 t233 t234 t237 true (t234.length : Int) 0) = some r:=by rw [if_neg (show ¬ (false = true) by decide)] at H;exact H
        clear H
        have H:=H1
        clear H1
        have H':=mk_ H
        clear H
        go_wp2
        repeat (go_quiet (fail);try go_wp2)
        go_loopg [7,61] kj17 (fun kq v7 v61 w' => ∃ (x7_3 : Bool) (x61_3 : Int),v7 = .bool x7_3 ∧ v61 = .int .i64 x61_3 ∧ Aside0 (laws_FnConforms.l0 kq t232 t233 t234 t237 x7_3 (t234.length : Int) x61_3 = some r) ∧ Aside0 (kq ≤ kj17) ∧ Aside0 (Kd.R k35 35 w' w.heap.size (fun _ => True) (.slice Ao7 t234.length co7) t234) ∧ Aside0 (Below w.heap.size w w'))
        case atStart => exact ⟨(true),(0),qf_,qf_,H',⟨Nat.le_refl _⟩,⟨qr_ HO_5⟩,⟨u0_ HB⟩⟩
        case round =>
         clear H'
         try clear c1
         try clear c2
         try clear c2b0
         try clear c2b1
         try clear p2
         try clear c10
         try clear c10b0
         try clear c10b1
         try clear c10b2
         try clear c17
         try clear c20
         try clear c21
         try clear c21b0
         try clear c23
         try clear c23b0
         try clear c25
         try clear c25b0
         try clear c29
         try clear p2
         obtain ⟨x7_3,x61_3,rfl,rfl,HA,HK3,HO_5,HB⟩:=hrel
         cases gk with
         | zero => exact absurd HA.out (by simp [laws_FnConforms.l0])
         | succ k3 =>
          have H:=HA.out
          clear HA
          simp only [laws_FnConforms.l0] at H
          by_cases c30 : x61_3 < (t234.length : Int)
          ·rw [if_pos c30] at H
           have c30b0 : decide (x61_3 < (t234.length : Int)) = true:=decide_eq_true c30
           clear c30
           by_cases c31 : 0 ≤ x61_3
           ·rw [if_pos c31] at H
            have c31b0:=eq_true c31
            have c31b1 : decide (0 ≤ x61_3) = true:=decide_eq_true c31
            clear c31
            by_cases c32 : x61_3 ≤ (t234.length : Int)
            ·rw [if_pos c32] at H
             have c32b0:=eq_true c32
             have c32b1 : decide (x61_3 ≤ (t234.length : Int)) = true:=decide_eq_true c32
             clear c32
             obtain ⟨y242,hy242⟩ : ∃ y_ : List (S35),y_ = (t234.drop (x61_3 : Int).toNat):=⟨_,rfl⟩
             replace H : (laws_FnConforms.l1 k3 t232 t233 t234 t237 x7_3 x61_3 0 (t234.length : Int) x61_3 y242 (y242.length : Int) 0) = some r:=by first|(rw [hy242];with_reducible exact H)|(have H2_:=(Option.bind_some _ _).symm.trans H;rw [hy242];with_reducible exact H2_)|(have H2_:=(Option.bind_some _ _).symm.trans H;with_reducible exact H2_)|with_reducible exact H|(rw [hy242];exact H)|exact H
             have Ny242:=mk_ hy242
             clear hy242
             have H':=mk_ H
             clear H
             have q33 : (x61_3 : Int) ≤ ((t234.length : Int) : Int):=od_ qa_
             obtain ⟨i033,hi033,_,hsz33,_⟩:=info_parts info35
             have hroom33 : t234.length ≤ co7:=(rr_ HO_5.out).2.1
             have hC33 : Kd.C k35 _ Ao7 t234.length t234:=(rr_ HO_5.out).2.2
             have q033 : (0 : Int) ≤ (x61_3 : Int):=od_ qa_
             have hcut33:=cut_from (P:=Try.prog) 25 35 .i64 Try.underlying25 hi033 2 hsz33 Ao7 t234.length co7 x61_3 q033 q33
             have hr33:=Kd.C_drop (m:=(x61_3 : Int).toNat) (c:=co7) hC33 (by omega) hroom33
             obtain ⟨A33,hA33⟩ : ∃ A1,A1 = (if co7 = (x61_3 : Int).toNat then Ao7 else (Ao7 : Option Addr).map (·.add ((x61_3 : Int).toNat * 2))):=⟨_,rfl⟩
             obtain ⟨c33,hc33⟩ : ∃ c1,c1 = co7 - (x61_3 : Int).toNat:=⟨_,rfl⟩
             have hy33 : y242.length = t234.length - (x61_3 : Int).toNat:=(by rw [Ny242.out,List.length_drop] <;> omega)
             rw [show (t234).drop (x61_3 : Int).toNat = y242 from Ny242.out.symm] at hr33
             replace hr33 : Kd.C k35 _ A33 y242.length y242:=(by rw [hA33];exact hr33)
             rw [← hy33,← hA33,← hc33] at hcut33
             have HR245:=mk_ hr33
             have HC245:=mk_ (show y242.length ≤ c33 from by rw [hy33,hc33];exact Nat.sub_le_sub_right hroom33 _)
             clear hr33 hC33 hroom33 hi033 hsz33 hc33
             have KY33:=mk_ hy33
             have KA33:=mk_ hA33
             clear hy33 hA33
             have KL33:=mk_ (show (x61_3 : Int).toNat ≤ t234.length from by omega)
             replace q33:=eq_true q33
             go_wp2
             repeat (go_quiet (fail);try go_wp2)
             go_loopg [7,9,68] k3 (fun kq v7 v9 v68 w' => ∃ (x7_4 : Bool) (x9_4 : Int) (x68_4 : Int),v7 = .bool x7_4 ∧ v9 = .int .i64 x9_4 ∧ v68 = .int .i64 x68_4 ∧ Aside0 (laws_FnConforms.l1 kq t232 t233 t234 t237 x7_4 x61_3 x9_4 (t234.length : Int) x61_3 y242 (y242.length : Int) x68_4 = some r) ∧ Aside0 (kq ≤ k3) ∧ Aside0 (Kd.R k35 35 w' w.heap.size (fun _ => True) (.slice Ao7 t234.length co7) t234) ∧ Aside0 (Kd.C k35 w' A33 y242.length y242) ∧ Aside0 (Below w.heap.size w w'))
             case atStart => exact ⟨(x7_3),(0),(0),qf_,qf_,qf_,H',⟨Nat.le_refl _⟩,⟨qr_ HO_5⟩,⟨by repeat (first|(with_reducible exact HR245.out)|(with_reducible refine ca_ ?_ _)|(with_reducible refine cn_ ?_ _)|(with_reducible refine cd_ ?_)|exact HR245.out)⟩,⟨u0_ HB⟩⟩
             case round =>
              clear H'
              try clear c1
              try clear c2
              try clear c2b0
              try clear c2b1
              try clear p2
              try clear c3
              try clear q3
              try clear c10
              try clear c10b0
              try clear c10b1
              try clear c10b2
              try clear c17
              try clear c20
              try clear c21
              try clear c21b0
              try clear c23
              try clear c23b0
              try clear c25
              try clear c25b0
              try clear c29
              try clear c30
              try clear c30b0
              try clear c31
              try clear c31b0
              try clear c31b1
              try clear c32
              try clear c32b0
              try clear c32b1
              try clear c33
              try clear q33
              try clear p2
              try clear q033
              try clear q33
              obtain ⟨x7_4,x9_4,x68_4,rfl,rfl,rfl,HA,HK4,HO_5,HR245,HB⟩:=hrel
              cases gk with
              | zero => exact absurd HA.out (by simp [laws_FnConforms.l1])
              | succ k4 =>
               have H:=HA.out
               clear HA
               simp only [laws_FnConforms.l1] at H
               by_cases c34 : x68_4 < (y242.length : Int)
               ·rw [if_pos c34] at H
                have c34b0 : decide (x68_4 < (y242.length : Int)) = true:=decide_eq_true c34
                clear c34
                by_cases c35 : 0 ≤ x68_4
                ·rw [if_pos c35] at H
                 have c35b0 : decide (0 ≤ x68_4) = true:=decide_eq_true c35
                 clear c35
                 by_cases c36 : x68_4 < (y242.length : Int)
                 ·rw [if_pos c36] at H
                  have c36b0 : decide (x68_4 < (y242.length : Int)) = true:=decide_eq_true c36
                  clear c36
                  by_cases c37 : x7_4 = true
                  ·subst c37
                   have H1 : (if 0 ≤ x61_3 then (if x61_3 < (t234.length : Int) then (laws_FnConforms.l1 k4 t232 t233 t234 t237 (decide ((wrap64 (x9_4 + ((rd_T35 y242 x68_4).f1))) ≤ (wrap64 (t233 + (wrap64 (t232 * (wrap64 (((rd_T35 y242 x68_4).f0) - ((rd_T35 t234 x61_3).f0))))))))) x61_3 (wrap64 (x9_4 + ((rd_T35 y242 x68_4).f1))) (t234.length : Int) x61_3 y242 (y242.length : Int) (wrap64 (x68_4 + 1))) else (none)) else (none)) = some r:=by rw [if_pos rfl] at H;exact H
                   clear H
                   have H:=H1
                   clear H1
                   by_cases c38 : 0 ≤ x61_3
                   ·rw [if_pos c38] at H
                    have c38b0 : decide (0 ≤ x61_3) = true:=decide_eq_true c38
                    clear c38
                    by_cases c39 : x61_3 < (t234.length : Int)
                    ·rw [if_pos c39] at H
                     have c39b0 : decide (x61_3 < (t234.length : Int)) = true:=decide_eq_true c39
                     clear c39
                     have H':=mk_ H
                     clear H
                     have p246 : 0 ≤ (x68_4 : Int):=od_ qa_
                     have q246 : x68_4 < (y242.length : Int):=od_ qa_
                     obtain ⟨ad246,e246,hx246_0,hx246_1⟩:=at_T35 HR245.out x68_4 p246 q246
                     cases e246
                     replace p246:=eq_true p246
                     replace q246:=eq_true q246
                     go_wp2_with (first|((with_reducible refine gate_dst (N:=11) rfl ?_);refine box_event ?hg (N:=11) ?hd (cs:=#[.int .i64 0,.int .i64 0]) (t:=35) ?hr ?_;(case hd => rfl);(case hg => rfl);(case hr => first|(go_simp;done)|(go_simp;rfl));intro gb247 hg w40 hbox hb;have n0_:=mk_ (rb_ (Kd.R_elderB (qr_ HO_5) gb247 (Nat.le_of_eq hg.symm)) hb);have n1_:=mk_ (cb_ (by repeat (first|(with_reducible exact HR245.out)|(with_reducible refine ca_ ?_ _)|(with_reducible refine cn_ ?_ _)|(with_reducible refine cd_ ?_)|exact HR245.out)) hb);have n2_:=mk_ (st_ (qb_ HB) hb);have n3_:=mk_ (hbox);have n4_:=mk_ ((by rw [hg];exact (bz_ (qb_ HB)) : w.heap.size ≤ gb247));have n5_:=mk_ ((by rw [hg];exact (bz_ (qb_ HB)) : w.heap.size ≤ gb247));clear HO_5 HR245 HB;have HO_5:=n0_;have HR245:=n1_;have HB:=n2_;have BK247:=n3_;have GW247:=n4_;have GE247:=n5_;clear n0_ n1_ n2_ n3_ n4_ n5_ hb hbox hg;have hcz41_0 : w40.cell? ⟨gb247,0,none⟩ = some (.int .i64 0):=(bc_ BK247.out 0).trans rfl;have hcz41_1 : w40.cell? ⟨gb247,1,none⟩ = some (.int .i64 0):=(bc_ BK247.out 1).trans rfl;have hfz41_0:=bf_ BK247.out 0;have hfz41_1:=bf_ BK247.out 1;have p248 : 0 ≤ (x61_3 : Int):=od_ qa_;have q248 : x61_3 < (t234.length : Int):=od_ qa_;obtain ⟨ad248,e248,hx248_0,hx248_1⟩:=at_T35 (rr_ HO_5.out).2.2 x61_3 p248 q248;cases e248;have hn248_0 : ad248.block ≠ gb247:=Kd.own_blk (Kd.R_away HO_5.out (λ_ h=>h.2));have hn248_1 : ad248.block ≠ gb247:=Kd.own_blk (Kd.R_away HO_5.out (λ_ h=>h.2));replace hx248_0:=(cell_far (p:=⟨gb247,0,none⟩) (by first|(rw [add_block];exact hn248_0)|(show (Addr.add _ _).block ≠ _;rw [add_block];exact hn248_0)|exact hn248_0) (.int .i64 ((rd_T35 y242 x68_4).f0))).trans hx248_0;replace hx248_1:=(cell_far (p:=⟨gb247,0,none⟩) (by first|(rw [add_block];exact hn248_0)|(show (Addr.add _ _).block ≠ _;rw [add_block];exact hn248_0)|exact hn248_0) (.int .i64 ((rd_T35 y242 x68_4).f0))).trans hx248_1;replace hx248_0:=(cell_far (p:=⟨gb247,1,none⟩) (by first|(rw [add_block];exact hn248_1)|(show (Addr.add _ _).block ≠ _;rw [add_block];exact hn248_1)|exact hn248_1) (.int .i64 ((rd_T35 y242 x68_4).f1))).trans hx248_0;replace hx248_1:=(cell_far (p:=⟨gb247,1,none⟩) (by first|(rw [add_block];exact hn248_1)|(show (Addr.add _ _).block ≠ _;rw [add_block];exact hn248_1)|exact hn248_1) (.int .i64 ((rd_T35 y242 x68_4).f1))).trans hx248_1;(try have hy248_0:=fun (n_ : Nat) => (show ((((w40.drewN n_).setCell ⟨gb247,0,none⟩ (.int .i64 ((rd_T35 y242 x68_4).f0))).setCell ⟨gb247,1,none⟩ (.int .i64 ((rd_T35 y242 x68_4).f1)))).cell? _ = some _ from hx248_0));(try have hy248_1:=fun (n_ : Nat) => (show ((((w40.drewN n_).setCell ⟨gb247,0,none⟩ (.int .i64 ((rd_T35 y242 x68_4).f0))).setCell ⟨gb247,1,none⟩ (.int .i64 ((rd_T35 y242 x68_4).f1)))).cell? _ = some _ from hx248_1));clear hn248_0 hn248_1;replace p248:=eq_true p248;replace q248:=eq_true q248))
                     repeat (go_quiet (first|((with_reducible refine gate_dst (N:=11) rfl ?_);refine box_event ?hg (N:=11) ?hd (cs:=#[.int .i64 0,.int .i64 0]) (t:=35) ?hr ?_;(case hd => rfl);(case hg => rfl);(case hr => first|(go_simp;done)|(go_simp;rfl));intro gb247 hg w40 hbox hb;have n0_:=mk_ (rb_ (Kd.R_elderB (qr_ HO_5) gb247 (Nat.le_of_eq hg.symm)) hb);have n1_:=mk_ (cb_ (by repeat (first|(with_reducible exact HR245.out)|(with_reducible refine ca_ ?_ _)|(with_reducible refine cn_ ?_ _)|(with_reducible refine cd_ ?_)|exact HR245.out)) hb);have n2_:=mk_ (st_ (qb_ HB) hb);have n3_:=mk_ (hbox);have n4_:=mk_ ((by rw [hg];exact (bz_ (qb_ HB)) : w.heap.size ≤ gb247));have n5_:=mk_ ((by rw [hg];exact (bz_ (qb_ HB)) : w.heap.size ≤ gb247));clear HO_5 HR245 HB;have HO_5:=n0_;have HR245:=n1_;have HB:=n2_;have BK247:=n3_;have GW247:=n4_;have GE247:=n5_;clear n0_ n1_ n2_ n3_ n4_ n5_ hb hbox hg;have hcz41_0 : w40.cell? ⟨gb247,0,none⟩ = some (.int .i64 0):=(bc_ BK247.out 0).trans rfl;have hcz41_1 : w40.cell? ⟨gb247,1,none⟩ = some (.int .i64 0):=(bc_ BK247.out 1).trans rfl;have hfz41_0:=bf_ BK247.out 0;have hfz41_1:=bf_ BK247.out 1;have p248 : 0 ≤ (x61_3 : Int):=od_ qa_;have q248 : x61_3 < (t234.length : Int):=od_ qa_;obtain ⟨ad248,e248,hx248_0,hx248_1⟩:=at_T35 (rr_ HO_5.out).2.2 x61_3 p248 q248;cases e248;have hn248_0 : ad248.block ≠ gb247:=Kd.own_blk (Kd.R_away HO_5.out (λ_ h=>h.2));have hn248_1 : ad248.block ≠ gb247:=Kd.own_blk (Kd.R_away HO_5.out (λ_ h=>h.2));replace hx248_0:=(cell_far (p:=⟨gb247,0,none⟩) (by first|(rw [add_block];exact hn248_0)|(show (Addr.add _ _).block ≠ _;rw [add_block];exact hn248_0)|exact hn248_0) (.int .i64 ((rd_T35 y242 x68_4).f0))).trans hx248_0;replace hx248_1:=(cell_far (p:=⟨gb247,0,none⟩) (by first|(rw [add_block];exact hn248_0)|(show (Addr.add _ _).block ≠ _;rw [add_block];exact hn248_0)|exact hn248_0) (.int .i64 ((rd_T35 y242 x68_4).f0))).trans hx248_1;replace hx248_0:=(cell_far (p:=⟨gb247,1,none⟩) (by first|(rw [add_block];exact hn248_1)|(show (Addr.add _ _).block ≠ _;rw [add_block];exact hn248_1)|exact hn248_1) (.int .i64 ((rd_T35 y242 x68_4).f1))).trans hx248_0;replace hx248_1:=(cell_far (p:=⟨gb247,1,none⟩) (by first|(rw [add_block];exact hn248_1)|(show (Addr.add _ _).block ≠ _;rw [add_block];exact hn248_1)|exact hn248_1) (.int .i64 ((rd_T35 y242 x68_4).f1))).trans hx248_1;(try have hy248_0:=fun (n_ : Nat) => (show ((((w40.drewN n_).setCell ⟨gb247,0,none⟩ (.int .i64 ((rd_T35 y242 x68_4).f0))).setCell ⟨gb247,1,none⟩ (.int .i64 ((rd_T35 y242 x68_4).f1)))).cell? _ = some _ from hx248_0));(try have hy248_1:=fun (n_ : Nat) => (show ((((w40.drewN n_).setCell ⟨gb247,0,none⟩ (.int .i64 ((rd_T35 y242 x68_4).f0))).setCell ⟨gb247,1,none⟩ (.int .i64 ((rd_T35 y242 x68_4).f1)))).cell? _ = some _ from hx248_1));clear hn248_0 hn248_1;replace p248:=eq_true p248;replace q248:=eq_true q248));try go_wp2_with (first|((with_reducible refine gate_dst (N:=11) rfl ?_);refine box_event ?hg (N:=11) ?hd (cs:=#[.int .i64 0,.int .i64 0]) (t:=35) ?hr ?_;(case hd => rfl);(case hg => rfl);(case hr => first|(go_simp;done)|(go_simp;rfl));intro gb247 hg w40 hbox hb;have n0_:=mk_ (rb_ (Kd.R_elderB (qr_ HO_5) gb247 (Nat.le_of_eq hg.symm)) hb);have n1_:=mk_ (cb_ (by repeat (first|(with_reducible exact HR245.out)|(with_reducible refine ca_ ?_ _)|(with_reducible refine cn_ ?_ _)|(with_reducible refine cd_ ?_)|exact HR245.out)) hb);have n2_:=mk_ (st_ (qb_ HB) hb);have n3_:=mk_ (hbox);have n4_:=mk_ ((by rw [hg];exact (bz_ (qb_ HB)) : w.heap.size ≤ gb247));have n5_:=mk_ ((by rw [hg];exact (bz_ (qb_ HB)) : w.heap.size ≤ gb247));clear HO_5 HR245 HB;have HO_5:=n0_;have HR245:=n1_;have HB:=n2_;have BK247:=n3_;have GW247:=n4_;have GE247:=n5_;clear n0_ n1_ n2_ n3_ n4_ n5_ hb hbox hg;have hcz41_0 : w40.cell? ⟨gb247,0,none⟩ = some (.int .i64 0):=(bc_ BK247.out 0).trans rfl;have hcz41_1 : w40.cell? ⟨gb247,1,none⟩ = some (.int .i64 0):=(bc_ BK247.out 1).trans rfl;have hfz41_0:=bf_ BK247.out 0;have hfz41_1:=bf_ BK247.out 1;have p248 : 0 ≤ (x61_3 : Int):=od_ qa_;have q248 : x61_3 < (t234.length : Int):=od_ qa_;obtain ⟨ad248,e248,hx248_0,hx248_1⟩:=at_T35 (rr_ HO_5.out).2.2 x61_3 p248 q248;cases e248;have hn248_0 : ad248.block ≠ gb247:=Kd.own_blk (Kd.R_away HO_5.out (λ_ h=>h.2));have hn248_1 : ad248.block ≠ gb247:=Kd.own_blk (Kd.R_away HO_5.out (λ_ h=>h.2));replace hx248_0:=(cell_far (p:=⟨gb247,0,none⟩) (by first|(rw [add_block];exact hn248_0)|(show (Addr.add _ _).block ≠ _;rw [add_block];exact hn248_0)|exact hn248_0) (.int .i64 ((rd_T35 y242 x68_4).f0))).trans hx248_0;replace hx248_1:=(cell_far (p:=⟨gb247,0,none⟩) (by first|(rw [add_block];exact hn248_0)|(show (Addr.add _ _).block ≠ _;rw [add_block];exact hn248_0)|exact hn248_0) (.int .i64 ((rd_T35 y242 x68_4).f0))).trans hx248_1;replace hx248_0:=(cell_far (p:=⟨gb247,1,none⟩) (by first|(rw [add_block];exact hn248_1)|(show (Addr.add _ _).block ≠ _;rw [add_block];exact hn248_1)|exact hn248_1) (.int .i64 ((rd_T35 y242 x68_4).f1))).trans hx248_0;replace hx248_1:=(cell_far (p:=⟨gb247,1,none⟩) (by first|(rw [add_block];exact hn248_1)|(show (Addr.add _ _).block ≠ _;rw [add_block];exact hn248_1)|exact hn248_1) (.int .i64 ((rd_T35 y242 x68_4).f1))).trans hx248_1;(try have hy248_0:=fun (n_ : Nat) => (show ((((w40.drewN n_).setCell ⟨gb247,0,none⟩ (.int .i64 ((rd_T35 y242 x68_4).f0))).setCell ⟨gb247,1,none⟩ (.int .i64 ((rd_T35 y242 x68_4).f1)))).cell? _ = some _ from hx248_0));(try have hy248_1:=fun (n_ : Nat) => (show ((((w40.drewN n_).setCell ⟨gb247,0,none⟩ (.int .i64 ((rd_T35 y242 x68_4).f0))).setCell ⟨gb247,1,none⟩ (.int .i64 ((rd_T35 y242 x68_4).f1)))).cell? _ = some _ from hx248_1));clear hn248_0 hn248_1;replace p248:=eq_true p248;replace q248:=eq_true q248)))
                     go_roundg k4
                     case measure => have:=HJ4.out;have:=HJ17.out;have:=HK3.out;have:=HK4.out;omega
                     case rel => exact ⟨(decide ((wrap64 (x9_4 + ((rd_T35 y242 x68_4).f1))) ≤ (wrap64 (t233 + (wrap64 (t232 * (wrap64 (((rd_T35 y242 x68_4).f0) - ((rd_T35 t234 x61_3).f0))))))))),(wrap64 (x9_4 + ((rd_T35 y242 x68_4).f1))),(wrap64 (x68_4 + 1)),qf_,qf_,qf_,H',⟨by have:=HJ4.out;have:=HJ17.out;have:=HK3.out;have:=HK4.out;omega⟩,⟨by (with_reducible repeat (first|apply ra_|apply rn_|apply rd_));exact rm_ (rf_ (p:=⟨gb247,1,none⟩) (rf_ (p:=⟨gb247,0,none⟩) (rm_ HO_5.out (fun k_ hk => (⟨hk,hk.2⟩ : _ ∧ k_ ≠ gb247))) (λ_ h=>h.2) (.int .i64 ((rd_T35 y242 x68_4).f0))) (λ_ h=>h.2) (.int .i64 ((rd_T35 y242 x68_4).f1))) (λ_ _=>trivial)⟩,⟨(recut_ (m:=(x61_3 : Int).toNat) (c:=co7) KA33.out Ny242.out (rr_ (by (with_reducible repeat (first|apply ra_|apply rn_|apply rd_));exact (rm_ (rf_ (p:=⟨gb247,1,none⟩) (rf_ (p:=⟨gb247,0,none⟩) (rm_ HO_5.out (fun k_ hk => (⟨hk,hk.2⟩ : _ ∧ k_ ≠ gb247))) (λ_ h=>h.2) (.int .i64 ((rd_T35 y242 x68_4).f0))) (λ_ h=>h.2) (.int .i64 ((rd_T35 y242 x68_4).f1))) (λ_ h=>h.1)))).2.2 KL33.out (rr_ HO_5.out).2.1)⟩,⟨u1_ HB GE247⟩⟩
                    ·rw [if_neg c39] at H
                     exact absurd H (by simp)
                   ·rw [if_neg c38] at H
                    exact absurd H (by simp)
                  ·replace c37:=Bool.eq_false_iff.mpr c37
                   subst c37
                   have H1 : (laws_FnConforms.l1 k4 t232 t233 t234 t237 false x61_3 (wrap64 (x9_4 + ((rd_T35 y242 x68_4).f1))) (t234.length : Int) x61_3 y242 (y242.length : Int) (wrap64 (x68_4 + 1))) = some r:=by rw [if_neg (show ¬ (false = true) by decide)] at H;exact H
                   clear H
                   have H:=H1
                   clear H1
                   have H':=mk_ H
                   clear H
                   have p246 : 0 ≤ (x68_4 : Int):=od_ qa_
                   have q246 : x68_4 < (y242.length : Int):=od_ qa_
                   obtain ⟨ad246,e246,hx246_0,hx246_1⟩:=at_T35 HR245.out x68_4 p246 q246
                   cases e246
                   replace p246:=eq_true p246
                   replace q246:=eq_true q246
                   go_wp2_with (first|((with_reducible refine gate_dst (N:=11) rfl ?_);refine box_event ?hg (N:=11) ?hd (cs:=#[.int .i64 0,.int .i64 0]) (t:=35) ?hr ?_;(case hd => rfl);(case hg => rfl);(case hr => first|(go_simp;done)|(go_simp;rfl));intro gb247 hg w42 hbox hb;have n0_:=mk_ (rb_ (Kd.R_elderB (qr_ HO_5) gb247 (Nat.le_of_eq hg.symm)) hb);have n1_:=mk_ (cb_ (by repeat (first|(with_reducible exact HR245.out)|(with_reducible refine ca_ ?_ _)|(with_reducible refine cn_ ?_ _)|(with_reducible refine cd_ ?_)|exact HR245.out)) hb);have n2_:=mk_ (st_ (qb_ HB) hb);have n3_:=mk_ (hbox);have n4_:=mk_ ((by rw [hg];exact (bz_ (qb_ HB)) : w.heap.size ≤ gb247));have n5_:=mk_ ((by rw [hg];exact (bz_ (qb_ HB)) : w.heap.size ≤ gb247));clear HO_5 HR245 HB;have HO_5:=n0_;have HR245:=n1_;have HB:=n2_;have BK247:=n3_;have GW247:=n4_;have GE247:=n5_;clear n0_ n1_ n2_ n3_ n4_ n5_ hb hbox hg;have hcz43_0 : w42.cell? ⟨gb247,0,none⟩ = some (.int .i64 0):=(bc_ BK247.out 0).trans rfl;have hcz43_1 : w42.cell? ⟨gb247,1,none⟩ = some (.int .i64 0):=(bc_ BK247.out 1).trans rfl;have hfz43_0:=bf_ BK247.out 0;have hfz43_1:=bf_ BK247.out 1))
                   repeat (go_quiet (first|((with_reducible refine gate_dst (N:=11) rfl ?_);refine box_event ?hg (N:=11) ?hd (cs:=#[.int .i64 0,.int .i64 0]) (t:=35) ?hr ?_;(case hd => rfl);(case hg => rfl);(case hr => first|(go_simp;done)|(go_simp;rfl));intro gb247 hg w42 hbox hb;have n0_:=mk_ (rb_ (Kd.R_elderB (qr_ HO_5) gb247 (Nat.le_of_eq hg.symm)) hb);have n1_:=mk_ (cb_ (by repeat (first|(with_reducible exact HR245.out)|(with_reducible refine ca_ ?_ _)|(with_reducible refine cn_ ?_ _)|(with_reducible refine cd_ ?_)|exact HR245.out)) hb);have n2_:=mk_ (st_ (qb_ HB) hb);have n3_:=mk_ (hbox);have n4_:=mk_ ((by rw [hg];exact (bz_ (qb_ HB)) : w.heap.size ≤ gb247));have n5_:=mk_ ((by rw [hg];exact (bz_ (qb_ HB)) : w.heap.size ≤ gb247));clear HO_5 HR245 HB;have HO_5:=n0_;have HR245:=n1_;have HB:=n2_;have BK247:=n3_;have GW247:=n4_;have GE247:=n5_;clear n0_ n1_ n2_ n3_ n4_ n5_ hb hbox hg;have hcz43_0 : w42.cell? ⟨gb247,0,none⟩ = some (.int .i64 0):=(bc_ BK247.out 0).trans rfl;have hcz43_1 : w42.cell? ⟨gb247,1,none⟩ = some (.int .i64 0):=(bc_ BK247.out 1).trans rfl;have hfz43_0:=bf_ BK247.out 0;have hfz43_1:=bf_ BK247.out 1));try go_wp2_with (first|((with_reducible refine gate_dst (N:=11) rfl ?_);refine box_event ?hg (N:=11) ?hd (cs:=#[.int .i64 0,.int .i64 0]) (t:=35) ?hr ?_;(case hd => rfl);(case hg => rfl);(case hr => first|(go_simp;done)|(go_simp;rfl));intro gb247 hg w42 hbox hb;have n0_:=mk_ (rb_ (Kd.R_elderB (qr_ HO_5) gb247 (Nat.le_of_eq hg.symm)) hb);have n1_:=mk_ (cb_ (by repeat (first|(with_reducible exact HR245.out)|(with_reducible refine ca_ ?_ _)|(with_reducible refine cn_ ?_ _)|(with_reducible refine cd_ ?_)|exact HR245.out)) hb);have n2_:=mk_ (st_ (qb_ HB) hb);have n3_:=mk_ (hbox);have n4_:=mk_ ((by rw [hg];exact (bz_ (qb_ HB)) : w.heap.size ≤ gb247));have n5_:=mk_ ((by rw [hg];exact (bz_ (qb_ HB)) : w.heap.size ≤ gb247));clear HO_5 HR245 HB;have HO_5:=n0_;have HR245:=n1_;have HB:=n2_;have BK247:=n3_;have GW247:=n4_;have GE247:=n5_;clear n0_ n1_ n2_ n3_ n4_ n5_ hb hbox hg;have hcz43_0 : w42.cell? ⟨gb247,0,none⟩ = some (.int .i64 0):=(bc_ BK247.out 0).trans rfl;have hcz43_1 : w42.cell? ⟨gb247,1,none⟩ = some (.int .i64 0):=(bc_ BK247.out 1).trans rfl;have hfz43_0:=bf_ BK247.out 0;have hfz43_1:=bf_ BK247.out 1)))
                   go_roundg k4
                   case measure => have:=HJ4.out;have:=HJ17.out;have:=HK3.out;have:=HK4.out;omega
                   case rel => exact ⟨(false),(wrap64 (x9_4 + ((rd_T35 y242 x68_4).f1))),(wrap64 (x68_4 + 1)),qf_,qf_,qf_,H',⟨by have:=HJ4.out;have:=HJ17.out;have:=HK3.out;have:=HK4.out;omega⟩,⟨by (with_reducible repeat (first|apply ra_|apply rn_|apply rd_));exact rm_ (rf_ (p:=⟨gb247,1,none⟩) (rf_ (p:=⟨gb247,0,none⟩) (rm_ HO_5.out (fun k_ hk => (⟨hk,hk.2⟩ : _ ∧ k_ ≠ gb247))) (λ_ h=>h.2) (.int .i64 ((rd_T35 y242 x68_4).f0))) (λ_ h=>h.2) (.int .i64 ((rd_T35 y242 x68_4).f1))) (λ_ _=>trivial)⟩,⟨(recut_ (m:=(x61_3 : Int).toNat) (c:=co7) KA33.out Ny242.out (rr_ (by (with_reducible repeat (first|apply ra_|apply rn_|apply rd_));exact (rm_ (rf_ (p:=⟨gb247,1,none⟩) (rf_ (p:=⟨gb247,0,none⟩) (rm_ HO_5.out (fun k_ hk => (⟨hk,hk.2⟩ : _ ∧ k_ ≠ gb247))) (λ_ h=>h.2) (.int .i64 ((rd_T35 y242 x68_4).f0))) (λ_ h=>h.2) (.int .i64 ((rd_T35 y242 x68_4).f1))) (λ_ h=>h.1)))).2.2 KL33.out (rr_ HO_5.out).2.1)⟩,⟨u1_ HB GE247⟩⟩
                 ·rw [if_neg c36] at H
                  exact absurd H (by simp)
                ·rw [if_neg c35] at H
                 exact absurd H (by simp)
               ·rw [if_neg c34] at H
                have c34b0 : decide (x68_4 < (y242.length : Int)) = false:=decide_eq_false c34
                clear c34
                have H':=mk_ H
                clear H
                go_wp2
                repeat (go_quiet (fail);try go_wp2)
                go_roundg k4
                case measure => have:=HJ4.out;have:=HJ17.out;have:=HK3.out;have:=HK4.out;omega
                case rel => exact ⟨(x7_4),(wrap64 (x61_3 + 1)),qf_,qf_,H',⟨by have:=HJ4.out;have:=HJ17.out;have:=HK3.out;have:=HK4.out;omega⟩,⟨qr_ HO_5⟩,⟨u0_ HB⟩⟩
            ·rw [if_neg c32] at H
             exact absurd H (by simp)
           ·rw [if_neg c31] at H
            exact absurd H (by simp)
          ·rw [if_neg c30] at H
           have c30b0 : decide (x61_3 < (t234.length : Int)) = false:=decide_eq_false c30
           clear c30
           obtain rfl:=Option.some.inj H
           go_wp2
           repeat (go_quiet (fail);try go_wp2)
           go_ret
           exact ⟨qe_,u0_ HB⟩

/-- THE ONE PURE STATEMENT of laws_FnConforms: yours. -/
def laws_FnConforms.Pure : Prop:=∀ (l0 : List Int),l0.length ≤ maxLen → l0.length * 1 ≤ 140737488351232 → (∀ x ∈ l0,(Lit.int .u8 x).wf = true) → ∃ k,laws_FnConforms.f k l0 = some true
theorem laws_FnConforms.walk (P : laws_FnConforms.Pure) (a0 : Option Addr) (len0 cap0 : Nat) (z0 : List Int) (w : World) (w0 : (a0 = none ∧ len0 = 0 ∧ cap0 = 0 ∧ z0 = []) ∨ ∃ x,a0 = some x ∧ len0 ≤ cap0 ∧ cap0 ≤ maxLen ∧ z0.length = cap0 ∧ (∀ i,i < z0.length → w.cell? (x.add i) = some (.int .u8 (z0.getD i 0))) ∧ ∀ n ∈ z0,(Lit.int .u8 n).wf = true) (y0 : len0 * 1 ≤ 140737488351232) :
  Calls Try.prog 10 #[.slice a0 len0 cap0] w fun e w' => e = .returned (.bool true) ∧ Below w.heap.size w w':=by
 obtain ⟨l0,rfl,hr0,hm0,hw0,hc0⟩:=ReadsInt.ofRowC w0
 obtain ⟨k,h⟩:=P l0 hm0 y0 hw0
 refine (laws_FnConforms.calls k _ _ l0 true w (Kd.C_of_reads (d:=(0 : Int)) (h1:=fun _ => rfl) hr0) hc0 h).mono ?_
 rintro e w' ⟨rfl,hd⟩
 exact ⟨rfl,hd⟩

end Go.Proofs.Ytfbicfnokibobaa.PAll
