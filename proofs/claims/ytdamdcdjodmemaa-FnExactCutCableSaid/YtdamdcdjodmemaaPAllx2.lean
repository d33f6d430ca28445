/- Proved here: contracts of functions of the given program, or lemmas on them, for the laws of this seat. Written by xprint.py, a program of this session, on the ground of the kit's print; parts by hand: wip/x/ext. -/
import Derived.Test.YtdamdcdjodmemaaPAllx0
import Derived.Test.YtdamdcdjodmemaaPAllx1
import Derived.Test.YtdamdcdjodmemaaPAllx4
namespace Go.Proofs.Ytdamdcdjodmemaa.PAll
open Go.RowKit Go.Proofs.YtdamdcdjodmemaaW.PrintWords Go.Proofs.YtdamdcdjodmemaaW.PrintLast Go.Proofs.YtdamdcdjodmemaaW.PrintMore
attribute [local go_sem] max2_int min2_int max_two min_two max_three min_three max_four min_four   -- for this text's walks alone
set_option linter.unusedVariables false
set_option linter.unusedSimpArgs false

/-! ### spec_l10Vlan: function 41 -/
def spec_l10Vlan.f (a0 : Int) : Option (Bool):=(spec_l1In.f a0 1 9).bind fun t156 => (some t156)
set_option maxHeartbeats 8000000 in
set_option maxRecDepth 100000 in
theorem spec_l10Vlan.calls (a0 : Int) (r : Bool) (w : World) (h : spec_l10Vlan.f a0 = some r) :
  Calls Try.prog 41 #[.int .i64 a0] w fun e w' => e = .returned (.bool r) ∧ Drawn0 w w':=by
 have H : ((spec_l1In.f a0 1 9).bind fun t156 => (some t156)) = some r:=h
 clear h
 replace H:=Option.bind_eq_some_iff.mp H
 obtain ⟨t156,A20,H⟩:=H
 replace H : (some t156) = some r:=H
 have A2:=mk_ A20
 clear A20
 obtain rfl:=Option.some.inj H
 go_enter Try.func41,Try.ntmps41
 go_wp2_with (first|((with_reducible refine gate_callee (f:=40) rfl ?_);refine goesL_ (some 4) rfl rfl Try.func40 (by kernel_rfl) rfl #[.int .i64 a0,.int .i64 1,.int .i64 9] rfl qm_ ?_;(with_reducible refine (spec_l1In.calls a0 1 9 t156 _ A2.out).mono ?_);rintro e w' ⟨rfl,⟨nd,rfl⟩⟩;refine ⟨_,rfl,?_⟩))
 go_ret
 exact ⟨by first|rfl|(simp;done)|(simp [*];done),by repeat (first|exact Drawn0.refl _|apply Drawn0.step)⟩

/-! ### spec_CablesValid: function 42 -/
mutual
def spec_CablesValid.j0 : Nat → Int → List (S51) → Bool → Option (Bool)
 | 0,_,_,_ => none
 | k + 1,x0,x1,x14 => if x14 = true then (some false) else (spec_CablesValid.l0 k x0 x1 0)
def spec_CablesValid.l0 : Nat → Int → List (S51) → Int → Option (Bool)
 | 0,_,_,_ => none
 | k + 1,x0,x1,x5 => if x5 < (x1.length : Int) then (if 0 ≤ x5 then ((spec_l1In.f ((rd_T51 x1 x5).f0) 0 (wrap64 (x0 - 1))).bind fun t160 => (if t160 = true then ((spec_l1In.f ((rd_T51 x1 x5).f1) 0 (wrap64 (x0 - 1))).bind fun t161 => (if t161 = true then (if ((rd_T51 x1 x5).f0) = ((rd_T51 x1 x5).f1) then (some false) else ((spec_l1In.f ((rd_T51 x1 x5).f2) 1 99).bind fun t162 => (if t162 = true then (spec_CablesValid.l0 k x0 x1 (wrap64 (x5 + 1))) else (some false)))) else (some false))) else (some false))) else (none)) else (some true)
end
def spec_CablesValid.f (k : Nat) (a0 : Int) (l1 : List (S51)) : Option (Bool):=(spec_l1In.f a0 1 8).bind fun t157 => (if t157 = true then (spec_CablesValid.j0 k a0 l1 (decide ((l1.length : Int) > 20))) else (spec_CablesValid.j0 k a0 l1 true))
theorem spec_CablesValid.mono_l : ∀ k,(∀ y0 y1 y2,LeO (spec_CablesValid.j0 k y0 y1 y2) (spec_CablesValid.j0 (k + 1) y0 y1 y2)) ∧ (∀ y0 y1 y2,LeO (spec_CablesValid.l0 k y0 y1 y2) (spec_CablesValid.l0 (k + 1) y0 y1 y2))
 | 0 => ⟨fun _ _ _ r h => by simp [spec_CablesValid.j0] at h,fun _ _ _ r h => by simp [spec_CablesValid.l0] at h⟩
 | k + 1 => by
  obtain ⟨ih0,ih1⟩:=spec_CablesValid.mono_l k
  refine ⟨?_,?_⟩
  ·intro y0 y1 y2
   unfold spec_CablesValid.j0
   repeat' first
   | (with_reducible exact ih0 _ _ _)
   | (with_reducible exact ih1 _ _ _)
   | (with_reducible exact LeO.refl _)
   | (with_reducible exact LeO.none _)
   | (with_reducible refine LeO.ite ?_ ?_)
   | (with_reducible refine LeO.bind ?_ (fun _ => ?_))
   | exact ih0 _ _ _
   | exact ih1 _ _ _
   | exact LeO.none _
   | refine LeO.ite ?_ ?_
   | refine LeO.bind ?_ (fun _ => ?_)
  ·intro y0 y1 y2
   unfold spec_CablesValid.l0
   repeat' first
   | (with_reducible exact ih0 _ _ _)
   | (with_reducible exact ih1 _ _ _)
   | (with_reducible exact LeO.refl _)
   | (with_reducible exact LeO.none _)
   | (with_reducible refine LeO.ite ?_ ?_)
   | (with_reducible refine LeO.bind ?_ (fun _ => ?_))
   | exact ih0 _ _ _
   | exact ih1 _ _ _
   | exact LeO.none _
   | refine LeO.ite ?_ ?_
   | refine LeO.bind ?_ (fun _ => ?_)
theorem spec_CablesValid.mono : ∀ a0 a1 k,LeO (spec_CablesValid.f k a0 a1) (spec_CablesValid.f (k + 1) a0 a1):=by
 intro a0 a1 k
 obtain ⟨ih0,ih1⟩:=spec_CablesValid.mono_l k
 unfold spec_CablesValid.f
 repeat' first
   | (with_reducible exact ih0 _ _ _)
   | (with_reducible exact ih1 _ _ _)
   | (with_reducible exact LeO.refl _)
   | (with_reducible exact LeO.none _)
   | (with_reducible refine LeO.ite ?_ ?_)
   | (with_reducible refine LeO.bind ?_ (fun _ => ?_))
   | exact ih0 _ _ _
   | exact ih1 _ _ _
   | exact LeO.none _
   | refine LeO.ite ?_ ?_
   | refine LeO.bind ?_ (fun _ => ?_)
set_option maxHeartbeats 8000000 in
set_option maxRecDepth 100000 in
theorem spec_CablesValid.calls (k : Nat) (a0 : Int) (A1 : Option Addr) (c1 : Nat) (l1 : List (S51)) (r : Bool) (w : World) (hr1 : Kd.C k51 w A1 l1.length l1) (hc1 : l1.length ≤ c1) (h : spec_CablesValid.f k a0 l1 = some r) :
  Calls Try.prog 42 #[.int .i64 a0,.slice A1 l1.length c1] w fun e w' => e = .returned (.bool r) ∧ Below w.heap.size w w':=by
 have hu51:=Try.underlying51
 have HR1:=mk_ hr1
 have HC1:=mk_ hc1
 clear hr1 hc1
 have HB:=mk_ (Below.refl w.heap.size w)
 have H : ((spec_l1In.f a0 1 8).bind fun t157 => (if t157 = true then (spec_CablesValid.j0 k a0 l1 (decide ((l1.length : Int) > 20))) else (spec_CablesValid.j0 k a0 l1 true))) = some r:=h
 clear h
 have HC3:=mk_ H
 clear H
 go_enter Try.func42,Try.ntmps42
 go_upto_region 1 with (fail)
 go_cut [14] (fun v14 wc => ∃ (kq : Nat) (x14_2 : Bool),v14 = .bool x14_2 ∧ Aside0 (spec_CablesValid.j0 kq a0 l1 x14_2 = some r) ∧ Aside0 (kq ≤ k) ∧ Aside0 (Below w.heap.size w wc))
 case first =>
  have H:=HC3.out
  clear HC3
  replace H:=Option.bind_eq_some_iff.mp H
  obtain ⟨t157,A40,H⟩:=H
  replace H : (if t157 = true then (spec_CablesValid.j0 k a0 l1 (decide ((l1.length : Int) > 20))) else (spec_CablesValid.j0 k a0 l1 true)) = some r:=H
  have A4:=mk_ A40
  clear A40
  by_cases c5 : t157 = true
  ·subst c5
   have H1 : (spec_CablesValid.j0 k a0 l1 (decide ((l1.length : Int) > 20))) = some r:=by rw [if_pos rfl] at H;exact H
   clear H
   have H:=H1
   clear H1
   have H':=mk_ H
   clear H
   go_wp2_with (first|((with_reducible refine gate_callee (f:=40) rfl ?_);refine goesL_ (some 8) rfl rfl Try.func40 (by kernel_rfl) rfl #[.int .i64 a0,.int .i64 1,.int .i64 8] rfl qm_ ?_;(with_reducible refine (spec_l1In.calls a0 1 8 true _ A4.out).mono ?_);rintro e w' ⟨rfl,⟨nd,rfl⟩⟩;refine ⟨_,rfl,?_⟩))
   go_meet
   case rel => exact ⟨_,(decide ((l1.length : Int) > 20)),qf_,H',⟨by first|omega|exact Nat.le_refl _⟩,⟨u2_ HB⟩⟩
  ·replace c5:=Bool.eq_false_iff.mpr c5
   subst c5
   have H1 : (spec_CablesValid.j0 k a0 l1 true) = some r:=by rw [if_neg (show ¬ (false = true) by decide)] at H;exact H
   clear H
   have H:=H1
   clear H1
   have H':=mk_ H
   clear H
   go_wp2_with (first|((with_reducible refine gate_callee (f:=40) rfl ?_);refine goesL_ (some 8) rfl rfl Try.func40 (by kernel_rfl) rfl #[.int .i64 a0,.int .i64 1,.int .i64 8] rfl qm_ ?_;(with_reducible refine (spec_l1In.calls a0 1 8 false _ A4.out).mono ?_);rintro e w' ⟨rfl,⟨nd,rfl⟩⟩;refine ⟨_,rfl,?_⟩))
   go_meet
   case rel => exact ⟨_,(true),qf_,H',⟨by first|omega|exact Nat.le_refl _⟩,⟨u2_ HB⟩⟩
 case rest =>
  clear HC3
  try clear c1
  try clear p2
  try clear c4
  try clear c5
  obtain ⟨kq,x14_2,rfl,HA,HJ2,HB⟩:=hcut
  cases kq with
  | zero => exact absurd HA.out (by simp [spec_CablesValid.j0])
  | succ kj2 =>
   have H:=HA.out
   clear HA
   simp only [spec_CablesValid.j0] at H
   by_cases c6 : x14_2 = true
   ·subst c6
    have H1 : (some false) = some r:=by rw [if_pos rfl] at H;exact H
    clear H
    have H:=H1
    clear H1
    obtain rfl:=Option.some.inj H
    go_wp2
    go_ret
    exact ⟨qe_,u2_ HB⟩
   ·replace c6:=Bool.eq_false_iff.mpr c6
    subst c6
    have H1 : (spec_CablesValid.l0 kj2 a0 l1 0) = some r:=by rw [if_neg (show ¬ (false = true) by decide)] at H;exact H
    clear H
    have H:=H1
    clear H1
    have H':=mk_ H
    clear H
    go_wp2
    go_loopg [5] kj2 (fun kq v5 w' => ∃ (x5_2 : Int),v5 = .int .i64 x5_2 ∧ Aside0 (spec_CablesValid.l0 kq a0 l1 x5_2 = some r) ∧ Aside0 (kq ≤ kj2) ∧ Aside0 (Below w.heap.size w w'))
    case atStart => exact ⟨(0),qf_,H',⟨Nat.le_refl _⟩,⟨u2_ HB⟩⟩
    case round =>
     clear H'
     try clear c1
     try clear p2
     try clear c4
     try clear c5
     try clear c6
     try clear p2
     obtain ⟨x5_2,rfl,HA,HK2,HB⟩:=hrel
     cases gk with
     | zero => exact absurd HA.out (by simp [spec_CablesValid.l0])
     | succ k2 =>
      have H:=HA.out
      clear HA
      simp only [spec_CablesValid.l0] at H
      by_cases c7 : x5_2 < (l1.length : Int)
      ·rw [if_pos c7] at H
       have c7b0 : decide (x5_2 < (l1.length : Int)) = true:=decide_eq_true c7
       clear c7
       by_cases c8 : 0 ≤ x5_2
       ·rw [if_pos c8] at H
        have c8b0 : decide (0 ≤ x5_2) = true:=decide_eq_true c8
        clear c8
        replace H:=Option.bind_eq_some_iff.mp H
        obtain ⟨t160,A90,H⟩:=H
        replace H : (if t160 = true then ((spec_l1In.f ((rd_T51 l1 x5_2).f1) 0 (wrap64 (a0 - 1))).bind fun t161 => (if t161 = true then (if ((rd_T51 l1 x5_2).f0) = ((rd_T51 l1 x5_2).f1) then (some false) else ((spec_l1In.f ((rd_T51 l1 x5_2).f2) 1 99).bind fun t162 => (if t162 = true then (spec_CablesValid.l0 k2 a0 l1 (wrap64 (x5_2 + 1))) else (some false)))) else (some false))) else (some false)) = some r:=H
        have A9:=mk_ A90
        clear A90
        by_cases c10 : t160 = true
        ·subst c10
         have H1 : ((spec_l1In.f ((rd_T51 l1 x5_2).f1) 0 (wrap64 (a0 - 1))).bind fun t161 => (if t161 = true then (if ((rd_T51 l1 x5_2).f0) = ((rd_T51 l1 x5_2).f1) then (some false) else ((spec_l1In.f ((rd_T51 l1 x5_2).f2) 1 99).bind fun t162 => (if t162 = true then (spec_CablesValid.l0 k2 a0 l1 (wrap64 (x5_2 + 1))) else (some false)))) else (some false))) = some r:=by rw [if_pos rfl] at H;exact H
         clear H
         have H:=H1
         clear H1
         replace H:=Option.bind_eq_some_iff.mp H
         obtain ⟨t161,A110,H⟩:=H
         replace H : (if t161 = true then (if ((rd_T51 l1 x5_2).f0) = ((rd_T51 l1 x5_2).f1) then (some false) else ((spec_l1In.f ((rd_T51 l1 x5_2).f2) 1 99).bind fun t162 => (if t162 = true then (spec_CablesValid.l0 k2 a0 l1 (wrap64 (x5_2 + 1))) else (some false)))) else (some false)) = some r:=H
         have A11:=mk_ A110
         clear A110
         by_cases c12 : t161 = true
         ·subst c12
          have H1 : (if ((rd_T51 l1 x5_2).f0) = ((rd_T51 l1 x5_2).f1) then (some false) else ((spec_l1In.f ((rd_T51 l1 x5_2).f2) 1 99).bind fun t162 => (if t162 = true then (spec_CablesValid.l0 k2 a0 l1 (wrap64 (x5_2 + 1))) else (some false)))) = some r:=by rw [if_pos rfl] at H;exact H
          clear H
          have H:=H1
          clear H1
          by_cases c13 : ((rd_T51 l1 x5_2).f0) = ((rd_T51 l1 x5_2).f1)
          ·rw [if_pos c13] at H
           have c13b0 : (((rd_T51 l1 x5_2).f0) == ((rd_T51 l1 x5_2).f1)) = true:=beq_iff_eq.mpr c13
           have c13b1 : (((rd_T51 l1 x5_2).f0) != ((rd_T51 l1 x5_2).f1)) = false:=bne_eq_false_iff_eq.mpr c13
           clear c13
           obtain rfl:=Option.some.inj H
           have p158 : 0 ≤ (x5_2 : Int):=od_ qa_
           have q158 : x5_2 < (l1.length : Int):=od_ qa_
           obtain ⟨ad158,e158,hx158_0,hx158_1,hx158_2⟩:=at_T51 HR1.out x5_2 p158 q158
           cases e158
           replace hx158_0:=(HB.out.cell (wl_ w _ hx158_0)).trans hx158_0
           replace hx158_1:=(HB.out.cell (wl_ w _ hx158_1)).trans hx158_1
           replace hx158_2:=(HB.out.cell (wl_ w _ hx158_2)).trans hx158_2
           replace p158:=eq_true p158
           replace q158:=eq_true q158
           go_wp2_with (first|((with_reducible refine gate_dst (N:=6) rfl ?_);(try (refine gate_guard (by rfl) ?_;dsimp only));refine box_event ?hg (N:=6) ?hd (cs:=#[.int .i64 0,.int .i64 0,.int .i64 0]) (t:=51) ?hr ?_;(case hd => rfl);(case hg => rfl);(case hr => first|(go_simp;done)|(go_simp;rfl));intro gb159 hg w14 hbox hb;have n0_:=mk_ (st_ (qb_ HB) hb);have n1_:=mk_ (hbox);have n2_:=mk_ ((by rw [hg];exact (bz_ (qb_ HB)) : w.heap.size ≤ gb159));have n3_:=mk_ ((by rw [hg];exact (bz_ (qb_ HB)) : w.heap.size ≤ gb159));clear HB;have HB:=n0_;have BK159:=n1_;have GW159:=n2_;have GE159:=n3_;clear n0_ n1_ n2_ n3_ hb hbox hg;have hcz15_0 : w14.cell? ⟨gb159,0,none⟩ = some (.int .i64 0):=(bc_ BK159.out 0).trans rfl;have hcz15_1 : w14.cell? ⟨gb159,1,none⟩ = some (.int .i64 0):=(bc_ BK159.out 1).trans rfl;have hcz15_2 : w14.cell? ⟨gb159,2,none⟩ = some (.int .i64 0):=(bc_ BK159.out 2).trans rfl;have hfz15_0:=bf_ BK159.out 0;have hfz15_1:=bf_ BK159.out 1;have hfz15_2:=bf_ BK159.out 2)|((with_reducible refine gate_callee (f:=40) rfl ?_);refine goesL_ (some 29) rfl rfl Try.func40 (by kernel_rfl) rfl #[.int .i64 ((rd_T51 l1 x5_2).f0),.int .i64 0,.int .i64 (wrap64 (a0 - 1))] rfl qm_ ?_;(with_reducible refine (spec_l1In.calls ((rd_T51 l1 x5_2).f0) 0 (wrap64 (a0 - 1)) true _ A9.out).mono ?_);rintro e w' ⟨rfl,⟨nd,rfl⟩⟩;refine ⟨_,rfl,?_⟩)|(go_at_call 40;(with_reducible refine (spec_l1In.calls ((rd_T51 l1 x5_2).f1) 0 (wrap64 (a0 - 1)) true _ A11.out).mono ?_);rintro e w' ⟨rfl,⟨nd,rfl⟩⟩))
           go_ret
           exact ⟨qe_,u0_ HB GE159⟩
          ·rw [if_neg c13] at H
           have c13b0 : (((rd_T51 l1 x5_2).f0) == ((rd_T51 l1 x5_2).f1)) = false:=beq_eq_false_iff_ne.mpr c13
           have c13b1 : (((rd_T51 l1 x5_2).f0) != ((rd_T51 l1 x5_2).f1)) = true:=bne_iff_ne.mpr c13
           replace H:=Option.bind_eq_some_iff.mp H
           obtain ⟨t162,A160,H⟩:=H
           replace H : (if t162 = true then (spec_CablesValid.l0 k2 a0 l1 (wrap64 (x5_2 + 1))) else (some false)) = some r:=H
           have A16:=mk_ A160
           clear A160
           by_cases c17 : t162 = true
           ·subst c17
            have H1 : (spec_CablesValid.l0 k2 a0 l1 (wrap64 (x5_2 + 1))) = some r:=by rw [if_pos rfl] at H;exact H
            clear H
            have H:=H1
            clear H1
            have H':=mk_ H
            clear H
            have p158 : 0 ≤ (x5_2 : Int):=od_ qa_
            have q158 : x5_2 < (l1.length : Int):=od_ qa_
            obtain ⟨ad158,e158,hx158_0,hx158_1,hx158_2⟩:=at_T51 HR1.out x5_2 p158 q158
            cases e158
            replace hx158_0:=(HB.out.cell (wl_ w _ hx158_0)).trans hx158_0
            replace hx158_1:=(HB.out.cell (wl_ w _ hx158_1)).trans hx158_1
            replace hx158_2:=(HB.out.cell (wl_ w _ hx158_2)).trans hx158_2
            replace p158:=eq_true p158
            replace q158:=eq_true q158
            go_wp2_with (first|((with_reducible refine gate_dst (N:=6) rfl ?_);(try (refine gate_guard (by rfl) ?_;dsimp only));refine box_event ?hg (N:=6) ?hd (cs:=#[.int .i64 0,.int .i64 0,.int .i64 0]) (t:=51) ?hr ?_;(case hd => rfl);(case hg => rfl);(case hr => first|(go_simp;done)|(go_simp;rfl));intro gb159 hg w18 hbox hb;have n0_:=mk_ (st_ (qb_ HB) hb);have n1_:=mk_ (hbox);have n2_:=mk_ ((by rw [hg];exact (bz_ (qb_ HB)) : w.heap.size ≤ gb159));have n3_:=mk_ ((by rw [hg];exact (bz_ (qb_ HB)) : w.heap.size ≤ gb159));clear HB;have HB:=n0_;have BK159:=n1_;have GW159:=n2_;have GE159:=n3_;clear n0_ n1_ n2_ n3_ hb hbox hg;have hcz19_0 : w18.cell? ⟨gb159,0,none⟩ = some (.int .i64 0):=(bc_ BK159.out 0).trans rfl;have hcz19_1 : w18.cell? ⟨gb159,1,none⟩ = some (.int .i64 0):=(bc_ BK159.out 1).trans rfl;have hcz19_2 : w18.cell? ⟨gb159,2,none⟩ = some (.int .i64 0):=(bc_ BK159.out 2).trans rfl;have hfz19_0:=bf_ BK159.out 0;have hfz19_1:=bf_ BK159.out 1;have hfz19_2:=bf_ BK159.out 2)|((with_reducible refine gate_callee (f:=40) rfl ?_);refine goesL_ (some 29) rfl rfl Try.func40 (by kernel_rfl) rfl #[.int .i64 ((rd_T51 l1 x5_2).f0),.int .i64 0,.int .i64 (wrap64 (a0 - 1))] rfl qm_ ?_;(with_reducible refine (spec_l1In.calls ((rd_T51 l1 x5_2).f0) 0 (wrap64 (a0 - 1)) true _ A9.out).mono ?_);rintro e w' ⟨rfl,⟨nd,rfl⟩⟩;refine ⟨_,rfl,?_⟩)|(go_at_call 40;(with_reducible refine (spec_l1In.calls ((rd_T51 l1 x5_2).f1) 0 (wrap64 (a0 - 1)) true _ A11.out).mono ?_);rintro e w' ⟨rfl,⟨nd,rfl⟩⟩)|(go_at_call 40;(with_reducible refine (spec_l1In.calls ((rd_T51 l1 x5_2).f2) 1 99 true _ A16.out).mono ?_);rintro e w' ⟨rfl,⟨nd,rfl⟩⟩))
            go_roundg k2
            case measure => have:=HJ2.out;have:=HK2.out;omega
            case rel => exact ⟨(wrap64 (x5_2 + 1)),qf_,H',⟨by have:=HJ2.out;have:=HK2.out;omega⟩,⟨u0_ HB GE159⟩⟩
           ·replace c17:=Bool.eq_false_iff.mpr c17
            subst c17
            have H1 : (some false) = some r:=by rw [if_neg (show ¬ (false = true) by decide)] at H;exact H
            clear H
            have H:=H1
            clear H1
            obtain rfl:=Option.some.inj H
            have p158 : 0 ≤ (x5_2 : Int):=od_ qa_
            have q158 : x5_2 < (l1.length : Int):=od_ qa_
            obtain ⟨ad158,e158,hx158_0,hx158_1,hx158_2⟩:=at_T51 HR1.out x5_2 p158 q158
            cases e158
            replace hx158_0:=(HB.out.cell (wl_ w _ hx158_0)).trans hx158_0
            replace hx158_1:=(HB.out.cell (wl_ w _ hx158_1)).trans hx158_1
            replace hx158_2:=(HB.out.cell (wl_ w _ hx158_2)).trans hx158_2
            replace p158:=eq_true p158
            replace q158:=eq_true q158
            go_wp2_with (first|((with_reducible refine gate_dst (N:=6) rfl ?_);(try (refine gate_guard (by rfl) ?_;dsimp only));refine box_event ?hg (N:=6) ?hd (cs:=#[.int .i64 0,.int .i64 0,.int .i64 0]) (t:=51) ?hr ?_;(case hd => rfl);(case hg => rfl);(case hr => first|(go_simp;done)|(go_simp;rfl));intro gb159 hg w20 hbox hb;have n0_:=mk_ (st_ (qb_ HB) hb);have n1_:=mk_ (hbox);have n2_:=mk_ ((by rw [hg];exact (bz_ (qb_ HB)) : w.heap.size ≤ gb159));have n3_:=mk_ ((by rw [hg];exact (bz_ (qb_ HB)) : w.heap.size ≤ gb159));clear HB;have HB:=n0_;have BK159:=n1_;have GW159:=n2_;have GE159:=n3_;clear n0_ n1_ n2_ n3_ hb hbox hg;have hcz21_0 : w20.cell? ⟨gb159,0,none⟩ = some (.int .i64 0):=(bc_ BK159.out 0).trans rfl;have hcz21_1 : w20.cell? ⟨gb159,1,none⟩ = some (.int .i64 0):=(bc_ BK159.out 1).trans rfl;have hcz21_2 : w20.cell? ⟨gb159,2,none⟩ = some (.int .i64 0):=(bc_ BK159.out 2).trans rfl;have hfz21_0:=bf_ BK159.out 0;have hfz21_1:=bf_ BK159.out 1;have hfz21_2:=bf_ BK159.out 2)|((with_reducible refine gate_callee (f:=40) rfl ?_);refine goesL_ (some 29) rfl rfl Try.func40 (by kernel_rfl) rfl #[.int .i64 ((rd_T51 l1 x5_2).f0),.int .i64 0,.int .i64 (wrap64 (a0 - 1))] rfl qm_ ?_;(with_reducible refine (spec_l1In.calls ((rd_T51 l1 x5_2).f0) 0 (wrap64 (a0 - 1)) true _ A9.out).mono ?_);rintro e w' ⟨rfl,⟨nd,rfl⟩⟩;refine ⟨_,rfl,?_⟩)|(go_at_call 40;(with_reducible refine (spec_l1In.calls ((rd_T51 l1 x5_2).f1) 0 (wrap64 (a0 - 1)) true _ A11.out).mono ?_);rintro e w' ⟨rfl,⟨nd,rfl⟩⟩)|(go_at_call 40;(with_reducible refine (spec_l1In.calls ((rd_T51 l1 x5_2).f2) 1 99 false _ A16.out).mono ?_);rintro e w' ⟨rfl,⟨nd,rfl⟩⟩))
            go_ret
            exact ⟨qe_,u0_ HB GE159⟩
         ·replace c12:=Bool.eq_false_iff.mpr c12
          subst c12
          have H1 : (some false) = some r:=by rw [if_neg (show ¬ (false = true) by decide)] at H;exact H
          clear H
          have H:=H1
          clear H1
          obtain rfl:=Option.some.inj H
          have p158 : 0 ≤ (x5_2 : Int):=od_ qa_
          have q158 : x5_2 < (l1.length : Int):=od_ qa_
          obtain ⟨ad158,e158,hx158_0,hx158_1,hx158_2⟩:=at_T51 HR1.out x5_2 p158 q158
          cases e158
          replace hx158_0:=(HB.out.cell (wl_ w _ hx158_0)).trans hx158_0
          replace hx158_1:=(HB.out.cell (wl_ w _ hx158_1)).trans hx158_1
          replace hx158_2:=(HB.out.cell (wl_ w _ hx158_2)).trans hx158_2
          replace p158:=eq_true p158
          replace q158:=eq_true q158
          go_wp2_with (first|((with_reducible refine gate_dst (N:=6) rfl ?_);(try (refine gate_guard (by rfl) ?_;dsimp only));refine box_event ?hg (N:=6) ?hd (cs:=#[.int .i64 0,.int .i64 0,.int .i64 0]) (t:=51) ?hr ?_;(case hd => rfl);(case hg => rfl);(case hr => first|(go_simp;done)|(go_simp;rfl));intro gb159 hg w22 hbox hb;have n0_:=mk_ (st_ (qb_ HB) hb);have n1_:=mk_ (hbox);have n2_:=mk_ ((by rw [hg];exact (bz_ (qb_ HB)) : w.heap.size ≤ gb159));have n3_:=mk_ ((by rw [hg];exact (bz_ (qb_ HB)) : w.heap.size ≤ gb159));clear HB;have HB:=n0_;have BK159:=n1_;have GW159:=n2_;have GE159:=n3_;clear n0_ n1_ n2_ n3_ hb hbox hg;have hcz23_0 : w22.cell? ⟨gb159,0,none⟩ = some (.int .i64 0):=(bc_ BK159.out 0).trans rfl;have hcz23_1 : w22.cell? ⟨gb159,1,none⟩ = some (.int .i64 0):=(bc_ BK159.out 1).trans rfl;have hcz23_2 : w22.cell? ⟨gb159,2,none⟩ = some (.int .i64 0):=(bc_ BK159.out 2).trans rfl;have hfz23_0:=bf_ BK159.out 0;have hfz23_1:=bf_ BK159.out 1;have hfz23_2:=bf_ BK159.out 2)|((with_reducible refine gate_callee (f:=40) rfl ?_);refine goesL_ (some 29) rfl rfl Try.func40 (by kernel_rfl) rfl #[.int .i64 ((rd_T51 l1 x5_2).f0),.int .i64 0,.int .i64 (wrap64 (a0 - 1))] rfl qm_ ?_;(with_reducible refine (spec_l1In.calls ((rd_T51 l1 x5_2).f0) 0 (wrap64 (a0 - 1)) true _ A9.out).mono ?_);rintro e w' ⟨rfl,⟨nd,rfl⟩⟩;refine ⟨_,rfl,?_⟩)|(go_at_call 40;(with_reducible refine (spec_l1In.calls ((rd_T51 l1 x5_2).f1) 0 (wrap64 (a0 - 1)) false _ A11.out).mono ?_);rintro e w' ⟨rfl,⟨nd,rfl⟩⟩))
          go_ret
          exact ⟨qe_,u0_ HB GE159⟩
        ·replace c10:=Bool.eq_false_iff.mpr c10
         subst c10
         have H1 : (some false) = some r:=by rw [if_neg (show ¬ (false = true) by decide)] at H;exact H
         clear H
         have H:=H1
         clear H1
         obtain rfl:=Option.some.inj H
         have p158 : 0 ≤ (x5_2 : Int):=od_ qa_
         have q158 : x5_2 < (l1.length : Int):=od_ qa_
         obtain ⟨ad158,e158,hx158_0,hx158_1,hx158_2⟩:=at_T51 HR1.out x5_2 p158 q158
         cases e158
         replace hx158_0:=(HB.out.cell (wl_ w _ hx158_0)).trans hx158_0
         replace hx158_1:=(HB.out.cell (wl_ w _ hx158_1)).trans hx158_1
         replace hx158_2:=(HB.out.cell (wl_ w _ hx158_2)).trans hx158_2
         replace p158:=eq_true p158
         replace q158:=eq_true q158
         go_wp2_with (first|((with_reducible refine gate_dst (N:=6) rfl ?_);(try (refine gate_guard (by rfl) ?_;dsimp only));refine box_event ?hg (N:=6) ?hd (cs:=#[.int .i64 0,.int .i64 0,.int .i64 0]) (t:=51) ?hr ?_;(case hd => rfl);(case hg => rfl);(case hr => first|(go_simp;done)|(go_simp;rfl));intro gb159 hg w24 hbox hb;have n0_:=mk_ (st_ (qb_ HB) hb);have n1_:=mk_ (hbox);have n2_:=mk_ ((by rw [hg];exact (bz_ (qb_ HB)) : w.heap.size ≤ gb159));have n3_:=mk_ ((by rw [hg];exact (bz_ (qb_ HB)) : w.heap.size ≤ gb159));clear HB;have HB:=n0_;have BK159:=n1_;have GW159:=n2_;have GE159:=n3_;clear n0_ n1_ n2_ n3_ hb hbox hg;have hcz25_0 : w24.cell? ⟨gb159,0,none⟩ = some (.int .i64 0):=(bc_ BK159.out 0).trans rfl;have hcz25_1 : w24.cell? ⟨gb159,1,none⟩ = some (.int .i64 0):=(bc_ BK159.out 1).trans rfl;have hcz25_2 : w24.cell? ⟨gb159,2,none⟩ = some (.int .i64 0):=(bc_ BK159.out 2).trans rfl;have hfz25_0:=bf_ BK159.out 0;have hfz25_1:=bf_ BK159.out 1;have hfz25_2:=bf_ BK159.out 2)|((with_reducible refine gate_callee (f:=40) rfl ?_);refine goesL_ (some 29) rfl rfl Try.func40 (by kernel_rfl) rfl #[.int .i64 ((rd_T51 l1 x5_2).f0),.int .i64 0,.int .i64 (wrap64 (a0 - 1))] rfl qm_ ?_;(with_reducible refine (spec_l1In.calls ((rd_T51 l1 x5_2).f0) 0 (wrap64 (a0 - 1)) false _ A9.out).mono ?_);rintro e w' ⟨rfl,⟨nd,rfl⟩⟩;refine ⟨_,rfl,?_⟩))
         go_ret
         exact ⟨qe_,u0_ HB GE159⟩
       ·rw [if_neg c8] at H
        exact absurd H (by simp)
      ·rw [if_neg c7] at H
       have c7b0 : decide (x5_2 < (l1.length : Int)) = false:=decide_eq_false c7
       clear c7
       obtain rfl:=Option.some.inj H
       go_wp2
       go_ret
       exact ⟨qe_,u2_ HB⟩

/-! ### spec_NetValid: function 13 -/
mutual
def spec_NetValid.l0 : Nat → Int → Int → List (S51) → List Int → List Int → Option (Bool)
 | 0,_,_,_,_,_ => none
 | k + 1,x3,z0_,z1_,z2_,z3_ => if x3 < (z2_.length : Int) then (if 0 ≤ x3 then ((spec_l1In.f (rd z2_ x3) 0 (wrap64 (z0_ - 1))).bind fun t165 => (if t165 = true then (spec_NetValid.l0 k (wrap64 (x3 + 1)) z0_ z1_ z2_ z3_) else (some false))) else (none)) else (spec_NetValid.l1 k 0 z0_ z1_ z2_ z3_)
def spec_NetValid.l1 : Nat → Int → Int → List (S51) → List Int → List Int → Option (Bool)
 | 0,_,_,_,_,_ => none
 | k + 1,x4,z0_,z1_,z2_,z3_ => if x4 < (z3_.length : Int) then (if 0 ≤ x4 then ((spec_l10Vlan.f (rd z3_ x4)).bind fun t167 => (if t167 = true then (spec_NetValid.l1 k (wrap64 (x4 + 1)) z0_ z1_ z2_ z3_) else (some false))) else (none)) else ((spec_CablesValid.f k z0_ z1_).bind fun t168 => (if t168 = true then (if (z2_.length : Int) = (z3_.length : Int) then (some (decide ((z2_.length : Int) ≤ 15))) else (some false)) else (some false)))
end
def spec_NetValid.f (k : Nat) (a0_0 : Int) (l0_1 : List (S51)) (l0_2 : List Int) (l0_3 : List Int) : Option (Bool):=spec_NetValid.l0 k 0 a0_0 l0_1 l0_2 l0_3
theorem spec_NetValid.mono_l : ∀ k,(∀ y0 y1 y2 y3 y4,LeO (spec_NetValid.l0 k y0 y1 y2 y3 y4) (spec_NetValid.l0 (k + 1) y0 y1 y2 y3 y4)) ∧ (∀ y0 y1 y2 y3 y4,LeO (spec_NetValid.l1 k y0 y1 y2 y3 y4) (spec_NetValid.l1 (k + 1) y0 y1 y2 y3 y4))
 | 0 => ⟨fun _ _ _ _ _ r h => by simp [spec_NetValid.l0] at h,fun _ _ _ _ _ r h => by simp [spec_NetValid.l1] at h⟩
 | k + 1 => by
  obtain ⟨ih0,ih1⟩:=spec_NetValid.mono_l k
  refine ⟨?_,?_⟩
  ·intro y0 y1 y2 y3 y4
   unfold spec_NetValid.l0
   repeat' first
   | (with_reducible exact ih0 _ _ _ _ _)
   | (with_reducible exact ih1 _ _ _ _ _)
   | (with_reducible exact spec_CablesValid.mono _ _ _)
   | (with_reducible exact LeO.refl _)
   | (with_reducible exact LeO.none _)
   | (with_reducible refine LeO.ite ?_ ?_)
   | (with_reducible refine LeO.bind ?_ (fun _ => ?_))
   | exact ih0 _ _ _ _ _
   | exact ih1 _ _ _ _ _
   | exact spec_CablesValid.mono _ _ _
   | exact LeO.none _
   | refine LeO.ite ?_ ?_
   | refine LeO.bind ?_ (fun _ => ?_)
  ·intro y0 y1 y2 y3 y4
   unfold spec_NetValid.l1
   repeat' first
   | (with_reducible exact ih0 _ _ _ _ _)
   | (with_reducible exact ih1 _ _ _ _ _)
   | (with_reducible exact spec_CablesValid.mono _ _ _)
   | (with_reducible exact LeO.refl _)
   | (with_reducible exact LeO.none _)
   | (with_reducible refine LeO.ite ?_ ?_)
   | (with_reducible refine LeO.bind ?_ (fun _ => ?_))
   | exact ih0 _ _ _ _ _
   | exact ih1 _ _ _ _ _
   | exact spec_CablesValid.mono _ _ _
   | exact LeO.none _
   | refine LeO.ite ?_ ?_
   | refine LeO.bind ?_ (fun _ => ?_)
theorem spec_NetValid.mono : ∀ a0 a1 a2 a3 k,LeO (spec_NetValid.f k a0 a1 a2 a3) (spec_NetValid.f (k + 1) a0 a1 a2 a3):=by
 intro a0 a1 a2 a3 k
 obtain ⟨ih0,ih1⟩:=spec_NetValid.mono_l k
 unfold spec_NetValid.f
 repeat' first
   | (with_reducible exact ih0 _ _ _ _ _)
   | (with_reducible exact ih1 _ _ _ _ _)
   | (with_reducible exact spec_CablesValid.mono _ _ _)
   | (with_reducible exact LeO.refl _)
   | (with_reducible exact LeO.none _)
   | (with_reducible refine LeO.ite ?_ ?_)
   | (with_reducible refine LeO.bind ?_ (fun _ => ?_))
   | exact ih0 _ _ _ _ _
   | exact ih1 _ _ _ _ _
   | exact spec_CablesValid.mono _ _ _
   | exact LeO.none _
   | refine LeO.ite ?_ ?_
   | refine LeO.bind ?_ (fun _ => ?_)
set_option maxHeartbeats 8000000 in
set_option maxRecDepth 100000 in
theorem spec_NetValid.calls (k : Nat) (a0_0 : Int) (A0_1 : Option Addr) (c0_1 : Nat) (l0_1 : List (S51)) (A0_2 : Option Addr) (c0_2 : Nat) (l0_2 : List Int) (A0_3 : Option Addr) (c0_3 : Nat) (l0_3 : List Int) (r : Bool) (w : World) (hr0_1 : Kd.C k51 w A0_1 l0_1.length l0_1) (hc0_1 : l0_1.length ≤ c0_1) (hr0_2 : Kd.C (Kd.int .i64) w A0_2 l0_2.length l0_2) (hc0_2 : l0_2.length ≤ c0_2) (hr0_3 : Kd.C (Kd.int .i64) w A0_3 l0_3.length l0_3) (hc0_3 : l0_3.length ≤ c0_3) (h : spec_NetValid.f k a0_0 l0_1 l0_2 l0_3 = some r) :
  Calls Try.prog 13 #[.agg #[.int .i64 a0_0,.slice A0_1 l0_1.length c0_1,.slice A0_2 l0_2.length c0_2,.slice A0_3 l0_3.length c0_3]] w fun e w' => e = .returned (.bool r) ∧ Below w.heap.size w w':=by
 have hu30:=Try.underlying30
 have HR0_1:=mk_ hr0_1
 have HC0_1:=mk_ hc0_1
 clear hr0_1 hc0_1
 have HR0_2:=mk_ hr0_2
 have HC0_2:=mk_ hc0_2
 clear hr0_2 hc0_2
 have HR0_3:=mk_ hr0_3
 have HC0_3:=mk_ hc0_3
 clear hr0_3 hc0_3
 have HB:=mk_ (Below.refl w.heap.size w)
 have H : (spec_NetValid.l0 k 0 a0_0 l0_1 l0_2 l0_3) = some r:=h
 clear h
 have H':=mk_ H
 clear H
 go_enter Try.func13,Try.ntmps13
 go_wp2_with (first|((with_reducible refine gate_dst (N:=1) rfl ?_);(try (refine gate_guard (by rfl) ?_;dsimp only));refine box_event ?hg (N:=1) ?hd (cs:=#[.int .i64 a0_0,.slice A0_1 l0_1.length c0_1,.slice A0_2 l0_2.length c0_2,.slice A0_3 l0_3.length c0_3]) (t:=30) ?hr ?_;(case hd => rfl);(case hg => rfl);(case hr => first|(go_simp;done)|(go_simp;rfl));intro gb163 hg w2 hbox hb;have n0_:=mk_ (st_ (qb_ HB) hb);have n1_:=mk_ (hbox);have n2_:=mk_ ((by rw [hg];exact (bz_ (qb_ HB)) : w.heap.size ≤ gb163));have n3_:=mk_ ((by rw [hg];exact (bz_ (qb_ HB)) : w.heap.size ≤ gb163));clear HB;have HB:=n0_;have BK163:=n1_;have GW163:=n2_;have GE163:=n3_;clear n0_ n1_ n2_ n3_ hb hbox hg))
 repeat (go_quiet (first|((with_reducible refine gate_dst (N:=1) rfl ?_);(try (refine gate_guard (by rfl) ?_;dsimp only));refine box_event ?hg (N:=1) ?hd (cs:=#[.int .i64 a0_0,.slice A0_1 l0_1.length c0_1,.slice A0_2 l0_2.length c0_2,.slice A0_3 l0_3.length c0_3]) (t:=30) ?hr ?_;(case hd => rfl);(case hg => rfl);(case hr => first|(go_simp;done)|(go_simp;rfl));intro gb163 hg w2 hbox hb;have n0_:=mk_ (st_ (qb_ HB) hb);have n1_:=mk_ (hbox);have n2_:=mk_ ((by rw [hg];exact (bz_ (qb_ HB)) : w.heap.size ≤ gb163));have n3_:=mk_ ((by rw [hg];exact (bz_ (qb_ HB)) : w.heap.size ≤ gb163));clear HB;have HB:=n0_;have BK163:=n1_;have GW163:=n2_;have GE163:=n3_;clear n0_ n1_ n2_ n3_ hb hbox hg));try go_wp2_with (first|((with_reducible refine gate_dst (N:=1) rfl ?_);(try (refine gate_guard (by rfl) ?_;dsimp only));refine box_event ?hg (N:=1) ?hd (cs:=#[.int .i64 a0_0,.slice A0_1 l0_1.length c0_1,.slice A0_2 l0_2.length c0_2,.slice A0_3 l0_3.length c0_3]) (t:=30) ?hr ?_;(case hd => rfl);(case hg => rfl);(case hr => first|(go_simp;done)|(go_simp;rfl));intro gb163 hg w2 hbox hb;have n0_:=mk_ (st_ (qb_ HB) hb);have n1_:=mk_ (hbox);have n2_:=mk_ ((by rw [hg];exact (bz_ (qb_ HB)) : w.heap.size ≤ gb163));have n3_:=mk_ ((by rw [hg];exact (bz_ (qb_ HB)) : w.heap.size ≤ gb163));clear HB;have HB:=n0_;have BK163:=n1_;have GW163:=n2_;have GE163:=n3_;clear n0_ n1_ n2_ n3_ hb hbox hg)))
 go_loopg [3] k (fun kq v3 w' => ∃ (x3_1 : Int),v3 = .int .i64 x3_1 ∧ Aside0 (spec_NetValid.l0 kq x3_1 a0_0 l0_1 l0_2 l0_3 = some r) ∧ Aside0 (kq ≤ k) ∧ Aside0 (w'.heap[gb163]? = some (.cells #[.int .i64 a0_0,(.slice A0_1 l0_1.length c0_1),(.slice A0_2 l0_2.length c0_2),(.slice A0_3 l0_3.length c0_3)] 30 (0,0))) ∧ Aside0 (Below w.heap.size w w'))
 case atStart => exact ⟨(0),qf_,H',⟨Nat.le_refl _⟩,⟨qk_ BK163⟩,⟨u0_ HB GE163⟩⟩
 case round =>
  clear H'
  try clear c1
  try clear p2
  obtain ⟨x3_1,rfl,HA,HK1,BK163,HB⟩:=hrel
  cases gk with
  | zero => exact absurd HA.out (by simp [spec_NetValid.l0])
  | succ k1 =>
   have H:=HA.out
   clear HA
   simp only [spec_NetValid.l0] at H
   by_cases c3 : x3_1 < (l0_2.length : Int)
   ·rw [if_pos c3] at H
    have c3b0 : decide (x3_1 < (l0_2.length : Int)) = true:=decide_eq_true c3
    clear c3
    by_cases c4 : 0 ≤ x3_1
    ·rw [if_pos c4] at H
     have c4b0 : decide (0 ≤ x3_1) = true:=decide_eq_true c4
     clear c4
     replace H:=Option.bind_eq_some_iff.mp H
     obtain ⟨t165,A50,H⟩:=H
     replace H : (if t165 = true then (spec_NetValid.l0 k1 (wrap64 (x3_1 + 1)) a0_0 l0_1 l0_2 l0_3) else (some false)) = some r:=H
     have A5:=mk_ A50
     clear A50
     by_cases c6 : t165 = true
     ·subst c6
      have H1 : (spec_NetValid.l0 k1 (wrap64 (x3_1 + 1)) a0_0 l0_1 l0_2 l0_3) = some r:=by rw [if_pos rfl] at H;exact H
      clear H
      have H:=H1
      clear H1
      have H':=mk_ H
      clear H
      have hcz7_0 : wr.cell? ⟨gb163,0,none⟩ = some (.int .i64 a0_0):=(bc_ BK163.out 0).trans rfl
      have hcz7_1 : wr.cell? ⟨gb163,1,none⟩ = some (.slice A0_1 l0_1.length c0_1):=(bc_ BK163.out 1).trans rfl
      have hcz7_2 : wr.cell? ⟨gb163,2,none⟩ = some (.slice A0_2 l0_2.length c0_2):=(bc_ BK163.out 2).trans rfl
      have hcz7_3 : wr.cell? ⟨gb163,3,none⟩ = some (.slice A0_3 l0_3.length c0_3):=(bc_ BK163.out 3).trans rfl
      have hfz7_0:=bf_ BK163.out 0
      have hfz7_1:=bf_ BK163.out 1
      have hfz7_2:=bf_ BK163.out 2
      have hfz7_3:=bf_ BK163.out 3
      have p164 : 0 ≤ (x3_1 : Int):=od_ qa_
      have q164 : x3_1 < (l0_2.length : Int):=od_ qa_
      obtain ⟨ad164,e164,hx164_0⟩:=Kd.at_int HR0_2.out x3_1 p164 q164
      cases e164
      replace hx164_0:=(HB.out.cell (wl_ w _ hx164_0)).trans hx164_0
      replace p164:=eq_true p164
      replace q164:=eq_true q164
      go_wp2_with (first|(go_at_call 40;(with_reducible refine (spec_l1In.calls (rd l0_2 x3_1) 0 (wrap64 (a0_0 - 1)) true _ A5.out).mono ?_);rintro e w' ⟨rfl,⟨nd,rfl⟩⟩;(try first|exact ⟨rfl,_,World.drewN_drewN _ _ _⟩|exact ⟨rfl,_,Eq.trans (World.drewN_drewN _ _ _) (congrArg (World.drewN _) (Nat.add_assoc _ _ _))⟩)))
      repeat (go_quiet (first|(go_at_call 40;(with_reducible refine (spec_l1In.calls (rd l0_2 x3_1) 0 (wrap64 (a0_0 - 1)) true _ A5.out).mono ?_);rintro e w' ⟨rfl,⟨nd,rfl⟩⟩;(try first|exact ⟨rfl,_,World.drewN_drewN _ _ _⟩|exact ⟨rfl,_,Eq.trans (World.drewN_drewN _ _ _) (congrArg (World.drewN _) (Nat.add_assoc _ _ _))⟩)));try go_wp2_with (first|(go_at_call 40;(with_reducible refine (spec_l1In.calls (rd l0_2 x3_1) 0 (wrap64 (a0_0 - 1)) true _ A5.out).mono ?_);rintro e w' ⟨rfl,⟨nd,rfl⟩⟩;(try first|exact ⟨rfl,_,World.drewN_drewN _ _ _⟩|exact ⟨rfl,_,Eq.trans (World.drewN_drewN _ _ _) (congrArg (World.drewN _) (Nat.add_assoc _ _ _))⟩))))
      go_roundg k1
      case measure => have:=HK1.out;omega
      case rel => exact ⟨(wrap64 (x3_1 + 1)),qf_,H',⟨by have:=HK1.out;omega⟩,⟨qk_ BK163⟩,⟨u0_ HB GE163⟩⟩
     ·replace c6:=Bool.eq_false_iff.mpr c6
      subst c6
      have H1 : (some false) = some r:=by rw [if_neg (show ¬ (false = true) by decide)] at H;exact H
      clear H
      have H:=H1
      clear H1
      obtain rfl:=Option.some.inj H
      have hcz8_0 : wr.cell? ⟨gb163,0,none⟩ = some (.int .i64 a0_0):=(bc_ BK163.out 0).trans rfl
      have hcz8_1 : wr.cell? ⟨gb163,1,none⟩ = some (.slice A0_1 l0_1.length c0_1):=(bc_ BK163.out 1).trans rfl
      have hcz8_2 : wr.cell? ⟨gb163,2,none⟩ = some (.slice A0_2 l0_2.length c0_2):=(bc_ BK163.out 2).trans rfl
      have hcz8_3 : wr.cell? ⟨gb163,3,none⟩ = some (.slice A0_3 l0_3.length c0_3):=(bc_ BK163.out 3).trans rfl
      have hfz8_0:=bf_ BK163.out 0
      have hfz8_1:=bf_ BK163.out 1
      have hfz8_2:=bf_ BK163.out 2
      have hfz8_3:=bf_ BK163.out 3
      have p164 : 0 ≤ (x3_1 : Int):=od_ qa_
      have q164 : x3_1 < (l0_2.length : Int):=od_ qa_
      obtain ⟨ad164,e164,hx164_0⟩:=Kd.at_int HR0_2.out x3_1 p164 q164
      cases e164
      replace hx164_0:=(HB.out.cell (wl_ w _ hx164_0)).trans hx164_0
      replace p164:=eq_true p164
      replace q164:=eq_true q164
      go_wp2_with (first|(go_at_call 40;(with_reducible refine (spec_l1In.calls (rd l0_2 x3_1) 0 (wrap64 (a0_0 - 1)) false _ A5.out).mono ?_);rintro e w' ⟨rfl,⟨nd,rfl⟩⟩;(try first|exact ⟨rfl,_,World.drewN_drewN _ _ _⟩|exact ⟨rfl,_,Eq.trans (World.drewN_drewN _ _ _) (congrArg (World.drewN _) (Nat.add_assoc _ _ _))⟩)))
      repeat (go_quiet (first|(go_at_call 40;(with_reducible refine (spec_l1In.calls (rd l0_2 x3_1) 0 (wrap64 (a0_0 - 1)) false _ A5.out).mono ?_);rintro e w' ⟨rfl,⟨nd,rfl⟩⟩;(try first|exact ⟨rfl,_,World.drewN_drewN _ _ _⟩|exact ⟨rfl,_,Eq.trans (World.drewN_drewN _ _ _) (congrArg (World.drewN _) (Nat.add_assoc _ _ _))⟩)));try go_wp2_with (first|(go_at_call 40;(with_reducible refine (spec_l1In.calls (rd l0_2 x3_1) 0 (wrap64 (a0_0 - 1)) false _ A5.out).mono ?_);rintro e w' ⟨rfl,⟨nd,rfl⟩⟩;(try first|exact ⟨rfl,_,World.drewN_drewN _ _ _⟩|exact ⟨rfl,_,Eq.trans (World.drewN_drewN _ _ _) (congrArg (World.drewN _) (Nat.add_assoc _ _ _))⟩))))
      go_ret
      exact ⟨qe_,u0_ HB GE163⟩
    ·rw [if_neg c4] at H
     exact absurd H (by simp)
   ·rw [if_neg c3] at H
    have c3b0 : decide (x3_1 < (l0_2.length : Int)) = false:=decide_eq_false c3
    clear c3
    have H':=mk_ H
    clear H
    have hcz9_0 : wr.cell? ⟨gb163,0,none⟩ = some (.int .i64 a0_0):=(bc_ BK163.out 0).trans rfl
    have hcz9_1 : wr.cell? ⟨gb163,1,none⟩ = some (.slice A0_1 l0_1.length c0_1):=(bc_ BK163.out 1).trans rfl
    have hcz9_2 : wr.cell? ⟨gb163,2,none⟩ = some (.slice A0_2 l0_2.length c0_2):=(bc_ BK163.out 2).trans rfl
    have hcz9_3 : wr.cell? ⟨gb163,3,none⟩ = some (.slice A0_3 l0_3.length c0_3):=(bc_ BK163.out 3).trans rfl
    have hfz9_0:=bf_ BK163.out 0
    have hfz9_1:=bf_ BK163.out 1
    have hfz9_2:=bf_ BK163.out 2
    have hfz9_3:=bf_ BK163.out 3
    go_wp2
    repeat (go_quiet (fail);try go_wp2)
    go_loopg [4] k1 (fun kq v4 w' => ∃ (x4_2 : Int),v4 = .int .i64 x4_2 ∧ Aside0 (spec_NetValid.l1 kq x4_2 a0_0 l0_1 l0_2 l0_3 = some r) ∧ Aside0 (kq ≤ k1) ∧ Aside0 (w'.heap[gb163]? = some (.cells #[.int .i64 a0_0,(.slice A0_1 l0_1.length c0_1),(.slice A0_2 l0_2.length c0_2),(.slice A0_3 l0_3.length c0_3)] 30 (0,0))) ∧ Aside0 (Below w.heap.size w w'))
    case atStart => exact ⟨(0),qf_,H',⟨Nat.le_refl _⟩,⟨qk_ BK163⟩,⟨u0_ HB GE163⟩⟩
    case round =>
     clear H'
     try clear c1
     try clear p1
     try clear q1
     try clear hx1
     try clear p2
     try clear c3
     try clear c3b0
     try clear c4
     try clear c4b0
     try clear c6
     try clear p6
     try clear hcz7_0
     try clear hcz7_1
     try clear hcz7_2
     try clear hcz7_3
     try clear hcz8_0
     try clear hcz8_1
     try clear hcz8_2
     try clear hcz8_3
     try clear hcz9_0
     try clear hcz9_1
     try clear hcz9_2
     try clear hcz9_3
     try clear hfz7_0
     try clear hfz7_1
     try clear hfz7_2
     try clear hfz7_3
     try clear hfz8_0
     try clear hfz8_1
     try clear hfz8_2
     try clear hfz8_3
     try clear hfz9_0
     try clear hfz9_1
     try clear hfz9_2
     try clear hfz9_3
     try clear hx164_0
     try clear p164
     try clear p2
     try clear q164
     obtain ⟨x4_2,rfl,HA,HK2,BK163,HB⟩:=hrel
     cases gk with
     | zero => exact absurd HA.out (by simp [spec_NetValid.l1])
     | succ k2 =>
      have H:=HA.out
      clear HA
      simp only [spec_NetValid.l1] at H
      by_cases c10 : x4_2 < (l0_3.length : Int)
      ·rw [if_pos c10] at H
       have c10b0 : decide (x4_2 < (l0_3.length : Int)) = true:=decide_eq_true c10
       clear c10
       by_cases c11 : 0 ≤ x4_2
       ·rw [if_pos c11] at H
        have c11b0 : decide (0 ≤ x4_2) = true:=decide_eq_true c11
        clear c11
        replace H:=Option.bind_eq_some_iff.mp H
        obtain ⟨t167,A120,H⟩:=H
        replace H : (if t167 = true then (spec_NetValid.l1 k2 (wrap64 (x4_2 + 1)) a0_0 l0_1 l0_2 l0_3) else (some false)) = some r:=H
        have A12:=mk_ A120
        clear A120
        by_cases c13 : t167 = true
        ·subst c13
         have H1 : (spec_NetValid.l1 k2 (wrap64 (x4_2 + 1)) a0_0 l0_1 l0_2 l0_3) = some r:=by rw [if_pos rfl] at H;exact H
         clear H
         have H:=H1
         clear H1
         have H':=mk_ H
         clear H
         have hcz14_0 : wr.cell? ⟨gb163,0,none⟩ = some (.int .i64 a0_0):=(bc_ BK163.out 0).trans rfl
         have hcz14_1 : wr.cell? ⟨gb163,1,none⟩ = some (.slice A0_1 l0_1.length c0_1):=(bc_ BK163.out 1).trans rfl
         have hcz14_2 : wr.cell? ⟨gb163,2,none⟩ = some (.slice A0_2 l0_2.length c0_2):=(bc_ BK163.out 2).trans rfl
         have hcz14_3 : wr.cell? ⟨gb163,3,none⟩ = some (.slice A0_3 l0_3.length c0_3):=(bc_ BK163.out 3).trans rfl
         have hfz14_0:=bf_ BK163.out 0
         have hfz14_1:=bf_ BK163.out 1
         have hfz14_2:=bf_ BK163.out 2
         have hfz14_3:=bf_ BK163.out 3
         have p166 : 0 ≤ (x4_2 : Int):=od_ qa_
         have q166 : x4_2 < (l0_3.length : Int):=od_ qa_
         obtain ⟨ad166,e166,hx166_0⟩:=Kd.at_int HR0_3.out x4_2 p166 q166
         cases e166
         replace hx166_0:=(HB.out.cell (wl_ w _ hx166_0)).trans hx166_0
         replace p166:=eq_true p166
         replace q166:=eq_true q166
         go_wp2_with (first|(go_at_call 41;(with_reducible refine (spec_l10Vlan.calls (rd l0_3 x4_2) true _ A12.out).mono ?_);rintro e w' ⟨rfl,⟨nd,rfl⟩⟩;(try first|exact ⟨rfl,_,World.drewN_drewN _ _ _⟩|exact ⟨rfl,_,Eq.trans (World.drewN_drewN _ _ _) (congrArg (World.drewN _) (Nat.add_assoc _ _ _))⟩)))
         repeat (go_quiet (first|(go_at_call 41;(with_reducible refine (spec_l10Vlan.calls (rd l0_3 x4_2) true _ A12.out).mono ?_);rintro e w' ⟨rfl,⟨nd,rfl⟩⟩;(try first|exact ⟨rfl,_,World.drewN_drewN _ _ _⟩|exact ⟨rfl,_,Eq.trans (World.drewN_drewN _ _ _) (congrArg (World.drewN _) (Nat.add_assoc _ _ _))⟩)));try go_wp2_with (first|(go_at_call 41;(with_reducible refine (spec_l10Vlan.calls (rd l0_3 x4_2) true _ A12.out).mono ?_);rintro e w' ⟨rfl,⟨nd,rfl⟩⟩;(try first|exact ⟨rfl,_,World.drewN_drewN _ _ _⟩|exact ⟨rfl,_,Eq.trans (World.drewN_drewN _ _ _) (congrArg (World.drewN _) (Nat.add_assoc _ _ _))⟩))))
         go_roundg k2
         case measure => have:=HK1.out;have:=HK2.out;omega
         case rel => exact ⟨(wrap64 (x4_2 + 1)),qf_,H',⟨by have:=HK1.out;have:=HK2.out;omega⟩,⟨qk_ BK163⟩,⟨u0_ HB GE163⟩⟩
        ·replace c13:=Bool.eq_false_iff.mpr c13
         subst c13
         have H1 : (some false) = some r:=by rw [if_neg (show ¬ (false = true) by decide)] at H;exact H
         clear H
         have H:=H1
         clear H1
         obtain rfl:=Option.some.inj H
         have hcz15_0 : wr.cell? ⟨gb163,0,none⟩ = some (.int .i64 a0_0):=(bc_ BK163.out 0).trans rfl
         have hcz15_1 : wr.cell? ⟨gb163,1,none⟩ = some (.slice A0_1 l0_1.length c0_1):=(bc_ BK163.out 1).trans rfl
         have hcz15_2 : wr.cell? ⟨gb163,2,none⟩ = some (.slice A0_2 l0_2.length c0_2):=(bc_ BK163.out 2).trans rfl
         have hcz15_3 : wr.cell? ⟨gb163,3,none⟩ = some (.slice A0_3 l0_3.length c0_3):=(bc_ BK163.out 3).trans rfl
         have hfz15_0:=bf_ BK163.out 0
         have hfz15_1:=bf_ BK163.out 1
         have hfz15_2:=bf_ BK163.out 2
         have hfz15_3:=bf_ BK163.out 3
         have p166 : 0 ≤ (x4_2 : Int):=od_ qa_
         have q166 : x4_2 < (l0_3.length : Int):=od_ qa_
         obtain ⟨ad166,e166,hx166_0⟩:=Kd.at_int HR0_3.out x4_2 p166 q166
         cases e166
         replace hx166_0:=(HB.out.cell (wl_ w _ hx166_0)).trans hx166_0
         replace p166:=eq_true p166
         replace q166:=eq_true q166
         go_wp2_with (first|(go_at_call 41;(with_reducible refine (spec_l10Vlan.calls (rd l0_3 x4_2) false _ A12.out).mono ?_);rintro e w' ⟨rfl,⟨nd,rfl⟩⟩;(try first|exact ⟨rfl,_,World.drewN_drewN _ _ _⟩|exact ⟨rfl,_,Eq.trans (World.drewN_drewN _ _ _) (congrArg (World.drewN _) (Nat.add_assoc _ _ _))⟩)))
         repeat (go_quiet (first|(go_at_call 41;(with_reducible refine (spec_l10Vlan.calls (rd l0_3 x4_2) false _ A12.out).mono ?_);rintro e w' ⟨rfl,⟨nd,rfl⟩⟩;(try first|exact ⟨rfl,_,World.drewN_drewN _ _ _⟩|exact ⟨rfl,_,Eq.trans (World.drewN_drewN _ _ _) (congrArg (World.drewN _) (Nat.add_assoc _ _ _))⟩)));try go_wp2_with (first|(go_at_call 41;(with_reducible refine (spec_l10Vlan.calls (rd l0_3 x4_2) false _ A12.out).mono ?_);rintro e w' ⟨rfl,⟨nd,rfl⟩⟩;(try first|exact ⟨rfl,_,World.drewN_drewN _ _ _⟩|exact ⟨rfl,_,Eq.trans (World.drewN_drewN _ _ _) (congrArg (World.drewN _) (Nat.add_assoc _ _ _))⟩))))
         go_ret
         exact ⟨qe_,u0_ HB GE163⟩
       ·rw [if_neg c11] at H
        exact absurd H (by simp)
      ·rw [if_neg c10] at H
       have c10b0 : decide (x4_2 < (l0_3.length : Int)) = false:=decide_eq_false c10
       clear c10
       replace H:=Option.bind_eq_some_iff.mp H
       obtain ⟨t168,A160,H⟩:=H
       replace H : (if t168 = true then (if (l0_2.length : Int) = (l0_3.length : Int) then (some (decide ((l0_2.length : Int) ≤ 15))) else (some false)) else (some false)) = some r:=H
       have A16:=mk_ A160
       clear A160
       by_cases c17 : t168 = true
       ·subst c17
        have H1 : (if (l0_2.length : Int) = (l0_3.length : Int) then (some (decide ((l0_2.length : Int) ≤ 15))) else (some false)) = some r:=by rw [if_pos rfl] at H;exact H
        clear H
        have H:=H1
        clear H1
        by_cases c18 : (l0_2.length : Int) = (l0_3.length : Int)
        ·rw [if_pos c18] at H
         have c18b0 : ((l0_2.length : Int) == (l0_3.length : Int)) = true:=beq_iff_eq.mpr c18
         have c18b1 : ((l0_2.length : Int) != (l0_3.length : Int)) = false:=bne_eq_false_iff_eq.mpr c18
         have c18b2 : (l0_2.length == l0_3.length) = true:=by first|simpa using c18|(simp at c18 ⊢;omega)
         clear c18
         obtain rfl:=Option.some.inj H
         have hcz19_0 : wr.cell? ⟨gb163,0,none⟩ = some (.int .i64 a0_0):=(bc_ BK163.out 0).trans rfl
         have hcz19_1 : wr.cell? ⟨gb163,1,none⟩ = some (.slice A0_1 l0_1.length c0_1):=(bc_ BK163.out 1).trans rfl
         have hcz19_2 : wr.cell? ⟨gb163,2,none⟩ = some (.slice A0_2 l0_2.length c0_2):=(bc_ BK163.out 2).trans rfl
         have hcz19_3 : wr.cell? ⟨gb163,3,none⟩ = some (.slice A0_3 l0_3.length c0_3):=(bc_ BK163.out 3).trans rfl
         have hfz19_0:=bf_ BK163.out 0
         have hfz19_1:=bf_ BK163.out 1
         have hfz19_2:=bf_ BK163.out 2
         have hfz19_3:=bf_ BK163.out 3
         go_wp2_with (first|(go_at_call 42;(with_reducible refine (spec_CablesValid.calls k2 a0_0 _ _ l0_1 true _ ?side1 ?side2 A16.out).mono ?_);(case side1 => exact qn_ HR0_1 HB);(case side2 => exact HC0_1.out);rintro e w20 ⟨rfl,hb⟩;have n0_:=mk_ (blk_below (g:=gb163) (o:=.cells #[.int .i64 a0_0,.slice A0_1 l0_1.length c0_1,.slice A0_2 l0_2.length c0_2,.slice A0_3 l0_3.length c0_3] 30 (0,0)) (qk_ BK163) hb);have n1_:=mk_ (st_ (qc_ HB GE163) hb);clear BK163 HB;have BK163:=n0_;have HB:=n1_;clear n0_ n1_;(try clear hb);(try clear hb2);(try clear hk);(try clear hi);have hcz21_0 : w20.cell? ⟨gb163,0,none⟩ = some (.int .i64 a0_0):=(bc_ BK163.out 0).trans rfl;have hcz21_1 : w20.cell? ⟨gb163,1,none⟩ = some (.slice A0_1 l0_1.length c0_1):=(bc_ BK163.out 1).trans rfl;have hcz21_2 : w20.cell? ⟨gb163,2,none⟩ = some (.slice A0_2 l0_2.length c0_2):=(bc_ BK163.out 2).trans rfl;have hcz21_3 : w20.cell? ⟨gb163,3,none⟩ = some (.slice A0_3 l0_3.length c0_3):=(bc_ BK163.out 3).trans rfl;have hfz21_0:=bf_ BK163.out 0;have hfz21_1:=bf_ BK163.out 1;have hfz21_2:=bf_ BK163.out 2;have hfz21_3:=bf_ BK163.out 3))
         repeat (go_quiet (first|(go_at_call 42;(with_reducible refine (spec_CablesValid.calls k2 a0_0 _ _ l0_1 true _ ?side1 ?side2 A16.out).mono ?_);(case side1 => exact qn_ HR0_1 HB);(case side2 => exact HC0_1.out);rintro e w20 ⟨rfl,hb⟩;have n0_:=mk_ (blk_below (g:=gb163) (o:=.cells #[.int .i64 a0_0,.slice A0_1 l0_1.length c0_1,.slice A0_2 l0_2.length c0_2,.slice A0_3 l0_3.length c0_3] 30 (0,0)) (qk_ BK163) hb);have n1_:=mk_ (st_ (qc_ HB GE163) hb);clear BK163 HB;have BK163:=n0_;have HB:=n1_;clear n0_ n1_;(try clear hb);(try clear hb2);(try clear hk);(try clear hi);have hcz21_0 : w20.cell? ⟨gb163,0,none⟩ = some (.int .i64 a0_0):=(bc_ BK163.out 0).trans rfl;have hcz21_1 : w20.cell? ⟨gb163,1,none⟩ = some (.slice A0_1 l0_1.length c0_1):=(bc_ BK163.out 1).trans rfl;have hcz21_2 : w20.cell? ⟨gb163,2,none⟩ = some (.slice A0_2 l0_2.length c0_2):=(bc_ BK163.out 2).trans rfl;have hcz21_3 : w20.cell? ⟨gb163,3,none⟩ = some (.slice A0_3 l0_3.length c0_3):=(bc_ BK163.out 3).trans rfl;have hfz21_0:=bf_ BK163.out 0;have hfz21_1:=bf_ BK163.out 1;have hfz21_2:=bf_ BK163.out 2;have hfz21_3:=bf_ BK163.out 3));try go_wp2_with (first|(go_at_call 42;(with_reducible refine (spec_CablesValid.calls k2 a0_0 _ _ l0_1 true _ ?side1 ?side2 A16.out).mono ?_);(case side1 => exact qn_ HR0_1 HB);(case side2 => exact HC0_1.out);rintro e w20 ⟨rfl,hb⟩;have n0_:=mk_ (blk_below (g:=gb163) (o:=.cells #[.int .i64 a0_0,.slice A0_1 l0_1.length c0_1,.slice A0_2 l0_2.length c0_2,.slice A0_3 l0_3.length c0_3] 30 (0,0)) (qk_ BK163) hb);have n1_:=mk_ (st_ (qc_ HB GE163) hb);clear BK163 HB;have BK163:=n0_;have HB:=n1_;clear n0_ n1_;(try clear hb);(try clear hb2);(try clear hk);(try clear hi);have hcz21_0 : w20.cell? ⟨gb163,0,none⟩ = some (.int .i64 a0_0):=(bc_ BK163.out 0).trans rfl;have hcz21_1 : w20.cell? ⟨gb163,1,none⟩ = some (.slice A0_1 l0_1.length c0_1):=(bc_ BK163.out 1).trans rfl;have hcz21_2 : w20.cell? ⟨gb163,2,none⟩ = some (.slice A0_2 l0_2.length c0_2):=(bc_ BK163.out 2).trans rfl;have hcz21_3 : w20.cell? ⟨gb163,3,none⟩ = some (.slice A0_3 l0_3.length c0_3):=(bc_ BK163.out 3).trans rfl;have hfz21_0:=bf_ BK163.out 0;have hfz21_1:=bf_ BK163.out 1;have hfz21_2:=bf_ BK163.out 2;have hfz21_3:=bf_ BK163.out 3)))
         go_ret
         exact ⟨qe_,u0_ HB GE163⟩
        ·rw [if_neg c18] at H
         have c18b0 : ((l0_2.length : Int) == (l0_3.length : Int)) = false:=beq_eq_false_iff_ne.mpr c18
         have c18b1 : ((l0_2.length : Int) != (l0_3.length : Int)) = true:=bne_iff_ne.mpr c18
         have c18b2 : (l0_2.length == l0_3.length) = false:=by first|simpa using c18|(simp at c18 ⊢;omega)
         obtain rfl:=Option.some.inj H
         have hcz22_0 : wr.cell? ⟨gb163,0,none⟩ = some (.int .i64 a0_0):=(bc_ BK163.out 0).trans rfl
         have hcz22_1 : wr.cell? ⟨gb163,1,none⟩ = some (.slice A0_1 l0_1.length c0_1):=(bc_ BK163.out 1).trans rfl
         have hcz22_2 : wr.cell? ⟨gb163,2,none⟩ = some (.slice A0_2 l0_2.length c0_2):=(bc_ BK163.out 2).trans rfl
         have hcz22_3 : wr.cell? ⟨gb163,3,none⟩ = some (.slice A0_3 l0_3.length c0_3):=(bc_ BK163.out 3).trans rfl
         have hfz22_0:=bf_ BK163.out 0
         have hfz22_1:=bf_ BK163.out 1
         have hfz22_2:=bf_ BK163.out 2
         have hfz22_3:=bf_ BK163.out 3
         go_wp2_with (first|(go_at_call 42;(with_reducible refine (spec_CablesValid.calls k2 a0_0 _ _ l0_1 true _ ?side1 ?side2 A16.out).mono ?_);(case side1 => exact qn_ HR0_1 HB);(case side2 => exact HC0_1.out);rintro e w23 ⟨rfl,hb⟩;have n0_:=mk_ (blk_below (g:=gb163) (o:=.cells #[.int .i64 a0_0,.slice A0_1 l0_1.length c0_1,.slice A0_2 l0_2.length c0_2,.slice A0_3 l0_3.length c0_3] 30 (0,0)) (qk_ BK163) hb);have n1_:=mk_ (st_ (qc_ HB GE163) hb);clear BK163 HB;have BK163:=n0_;have HB:=n1_;clear n0_ n1_;(try clear hb);(try clear hb2);(try clear hk);(try clear hi);have hcz24_0 : w23.cell? ⟨gb163,0,none⟩ = some (.int .i64 a0_0):=(bc_ BK163.out 0).trans rfl;have hcz24_1 : w23.cell? ⟨gb163,1,none⟩ = some (.slice A0_1 l0_1.length c0_1):=(bc_ BK163.out 1).trans rfl;have hcz24_2 : w23.cell? ⟨gb163,2,none⟩ = some (.slice A0_2 l0_2.length c0_2):=(bc_ BK163.out 2).trans rfl;have hcz24_3 : w23.cell? ⟨gb163,3,none⟩ = some (.slice A0_3 l0_3.length c0_3):=(bc_ BK163.out 3).trans rfl;have hfz24_0:=bf_ BK163.out 0;have hfz24_1:=bf_ BK163.out 1;have hfz24_2:=bf_ BK163.out 2;have hfz24_3:=bf_ BK163.out 3))
         repeat (go_quiet (first|(go_at_call 42;(with_reducible refine (spec_CablesValid.calls k2 a0_0 _ _ l0_1 true _ ?side1 ?side2 A16.out).mono ?_);(case side1 => exact qn_ HR0_1 HB);(case side2 => exact HC0_1.out);rintro e w23 ⟨rfl,hb⟩;have n0_:=mk_ (blk_below (g:=gb163) (o:=.cells #[.int .i64 a0_0,.slice A0_1 l0_1.length c0_1,.slice A0_2 l0_2.length c0_2,.slice A0_3 l0_3.length c0_3] 30 (0,0)) (qk_ BK163) hb);have n1_:=mk_ (st_ (qc_ HB GE163) hb);clear BK163 HB;have BK163:=n0_;have HB:=n1_;clear n0_ n1_;(try clear hb);(try clear hb2);(try clear hk);(try clear hi);have hcz24_0 : w23.cell? ⟨gb163,0,none⟩ = some (.int .i64 a0_0):=(bc_ BK163.out 0).trans rfl;have hcz24_1 : w23.cell? ⟨gb163,1,none⟩ = some (.slice A0_1 l0_1.length c0_1):=(bc_ BK163.out 1).trans rfl;have hcz24_2 : w23.cell? ⟨gb163,2,none⟩ = some (.slice A0_2 l0_2.length c0_2):=(bc_ BK163.out 2).trans rfl;have hcz24_3 : w23.cell? ⟨gb163,3,none⟩ = some (.slice A0_3 l0_3.length c0_3):=(bc_ BK163.out 3).trans rfl;have hfz24_0:=bf_ BK163.out 0;have hfz24_1:=bf_ BK163.out 1;have hfz24_2:=bf_ BK163.out 2;have hfz24_3:=bf_ BK163.out 3));try go_wp2_with (first|(go_at_call 42;(with_reducible refine (spec_CablesValid.calls k2 a0_0 _ _ l0_1 true _ ?side1 ?side2 A16.out).mono ?_);(case side1 => exact qn_ HR0_1 HB);(case side2 => exact HC0_1.out);rintro e w23 ⟨rfl,hb⟩;have n0_:=mk_ (blk_below (g:=gb163) (o:=.cells #[.int .i64 a0_0,.slice A0_1 l0_1.length c0_1,.slice A0_2 l0_2.length c0_2,.slice A0_3 l0_3.length c0_3] 30 (0,0)) (qk_ BK163) hb);have n1_:=mk_ (st_ (qc_ HB GE163) hb);clear BK163 HB;have BK163:=n0_;have HB:=n1_;clear n0_ n1_;(try clear hb);(try clear hb2);(try clear hk);(try clear hi);have hcz24_0 : w23.cell? ⟨gb163,0,none⟩ = some (.int .i64 a0_0):=(bc_ BK163.out 0).trans rfl;have hcz24_1 : w23.cell? ⟨gb163,1,none⟩ = some (.slice A0_1 l0_1.length c0_1):=(bc_ BK163.out 1).trans rfl;have hcz24_2 : w23.cell? ⟨gb163,2,none⟩ = some (.slice A0_2 l0_2.length c0_2):=(bc_ BK163.out 2).trans rfl;have hcz24_3 : w23.cell? ⟨gb163,3,none⟩ = some (.slice A0_3 l0_3.length c0_3):=(bc_ BK163.out 3).trans rfl;have hfz24_0:=bf_ BK163.out 0;have hfz24_1:=bf_ BK163.out 1;have hfz24_2:=bf_ BK163.out 2;have hfz24_3:=bf_ BK163.out 3)))
         go_ret
         exact ⟨qe_,u0_ HB GE163⟩
       ·replace c17:=Bool.eq_false_iff.mpr c17
        subst c17
        have H1 : (some false) = some r:=by rw [if_neg (show ¬ (false = true) by decide)] at H;exact H
        clear H
        have H:=H1
        clear H1
        obtain rfl:=Option.some.inj H
        have hcz25_0 : wr.cell? ⟨gb163,0,none⟩ = some (.int .i64 a0_0):=(bc_ BK163.out 0).trans rfl
        have hcz25_1 : wr.cell? ⟨gb163,1,none⟩ = some (.slice A0_1 l0_1.length c0_1):=(bc_ BK163.out 1).trans rfl
        have hcz25_2 : wr.cell? ⟨gb163,2,none⟩ = some (.slice A0_2 l0_2.length c0_2):=(bc_ BK163.out 2).trans rfl
        have hcz25_3 : wr.cell? ⟨gb163,3,none⟩ = some (.slice A0_3 l0_3.length c0_3):=(bc_ BK163.out 3).trans rfl
        have hfz25_0:=bf_ BK163.out 0
        have hfz25_1:=bf_ BK163.out 1
        have hfz25_2:=bf_ BK163.out 2
        have hfz25_3:=bf_ BK163.out 3
        go_wp2_with (first|(go_at_call 42;(with_reducible refine (spec_CablesValid.calls k2 a0_0 _ _ l0_1 false _ ?side1 ?side2 A16.out).mono ?_);(case side1 => exact qn_ HR0_1 HB);(case side2 => exact HC0_1.out);rintro e w26 ⟨rfl,hb⟩;have n0_:=mk_ (blk_below (g:=gb163) (o:=.cells #[.int .i64 a0_0,.slice A0_1 l0_1.length c0_1,.slice A0_2 l0_2.length c0_2,.slice A0_3 l0_3.length c0_3] 30 (0,0)) (qk_ BK163) hb);have n1_:=mk_ (st_ (qc_ HB GE163) hb);clear BK163 HB;have BK163:=n0_;have HB:=n1_;clear n0_ n1_;(try clear hb);(try clear hb2);(try clear hk);(try clear hi)))
        repeat (go_quiet (first|(go_at_call 42;(with_reducible refine (spec_CablesValid.calls k2 a0_0 _ _ l0_1 false _ ?side1 ?side2 A16.out).mono ?_);(case side1 => exact qn_ HR0_1 HB);(case side2 => exact HC0_1.out);rintro e w26 ⟨rfl,hb⟩;have n0_:=mk_ (blk_below (g:=gb163) (o:=.cells #[.int .i64 a0_0,.slice A0_1 l0_1.length c0_1,.slice A0_2 l0_2.length c0_2,.slice A0_3 l0_3.length c0_3] 30 (0,0)) (qk_ BK163) hb);have n1_:=mk_ (st_ (qc_ HB GE163) hb);clear BK163 HB;have BK163:=n0_;have HB:=n1_;clear n0_ n1_;(try clear hb);(try clear hb2);(try clear hk);(try clear hi)));try go_wp2_with (first|(go_at_call 42;(with_reducible refine (spec_CablesValid.calls k2 a0_0 _ _ l0_1 false _ ?side1 ?side2 A16.out).mono ?_);(case side1 => exact qn_ HR0_1 HB);(case side2 => exact HC0_1.out);rintro e w26 ⟨rfl,hb⟩;have n0_:=mk_ (blk_below (g:=gb163) (o:=.cells #[.int .i64 a0_0,.slice A0_1 l0_1.length c0_1,.slice A0_2 l0_2.length c0_2,.slice A0_3 l0_3.length c0_3] 30 (0,0)) (qk_ BK163) hb);have n1_:=mk_ (st_ (qc_ HB GE163) hb);clear BK163 HB;have BK163:=n0_;have HB:=n1_;clear n0_ n1_;(try clear hb);(try clear hb2);(try clear hk);(try clear hi))))
        go_ret
        exact ⟨qe_,u0_ HB GE163⟩

end Go.Proofs.Ytdamdcdjodmemaa.PAll
