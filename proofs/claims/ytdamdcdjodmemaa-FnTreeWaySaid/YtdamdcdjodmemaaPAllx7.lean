/- Proved here: contracts of functions of the given program, or lemmas on them, for the laws of this seat. Written by xprint.py, a program of this session, on the ground of the kit's print; parts by hand: wip/x/ext. -/
import Derived.Test.YtdamdcdjodmemaaPAllx0
import Derived.Test.YtdamdcdjodmemaaPAllx1
import Derived.Test.YtdamdcdjodmemaaPAllx6
namespace Go.Proofs.Ytdamdcdjodmemaa.PAll
open Go.RowKit Go.Proofs.YtdamdcdjodmemaaW.PrintWords Go.Proofs.YtdamdcdjodmemaaW.PrintLast Go.Proofs.YtdamdcdjodmemaaW.PrintMore
attribute [local go_sem] max2_int min2_int max_two min_two max_three min_three max_four min_four   -- for this text's walks alone
set_option linter.unusedVariables false
set_option linter.unusedSimpArgs false

/-! ### spec_l7Other: function 88 -/
def spec_l7Other.f (a0_0 : Int) (a0_1 : Int) (a0_2 : Int) (a1 : Int) : Option (Int):=if a1 = a0_0 then (some a0_1) else (if a1 = a0_1 then (some a0_0) else (some (-1)))
set_option maxHeartbeats 8000000 in
set_option maxRecDepth 100000 in
theorem spec_l7Other.calls (a0_0 : Int) (a0_1 : Int) (a0_2 : Int) (a1 : Int) (r : Int) (w : World) (h : spec_l7Other.f a0_0 a0_1 a0_2 a1 = some r) :
  Calls Try.prog 88 #[.agg #[.int .i64 a0_0,.int .i64 a0_1,.int .i64 a0_2],.int .i64 a1] w fun e w' => e = .returned (.int .i64 r) ∧ Below w.heap.size w w':=by
 have hu51:=Try.underlying51
 have HB:=mk_ (Below.refl w.heap.size w)
 have H : (if a1 = a0_0 then (some a0_1) else (if a1 = a0_1 then (some a0_0) else (some (-1)))) = some r:=h
 clear h
 by_cases c3 : a1 = a0_0
 ·rw [if_pos c3] at H
  have c3b0 : (a1 == a0_0) = true:=beq_iff_eq.mpr c3
  have c3b1 : (a1 != a0_0) = false:=bne_eq_false_iff_eq.mpr c3
  clear c3
  obtain rfl:=Option.some.inj H
  go_enter Try.func88,Try.ntmps88
  go_wp2_with (first|((with_reducible refine gate_dst (N:=2) rfl ?_);refine box_event ?hg (N:=2) ?hd (cs:=#[.int .i64 a0_0,.int .i64 a0_1,.int .i64 a0_2]) (t:=51) ?hr ?_;(case hd => rfl);(case hg => rfl);(case hr => first|(go_simp;done)|(go_simp;rfl));intro gb464 hg w4 hbox hb;have n0_:=mk_ (st_ (qb_ HB) hb);have n1_:=mk_ (hbox);have n2_:=mk_ ((by rw [hg];exact (bz_ (qb_ HB)) : w.heap.size ≤ gb464));have n3_:=mk_ ((by rw [hg];exact (bz_ (qb_ HB)) : w.heap.size ≤ gb464));clear HB;have HB:=n0_;have BK464:=n1_;have GW464:=n2_;have GE464:=n3_;clear n0_ n1_ n2_ n3_;clear hb hbox hg;have hcz5_0 : w4.cell? ⟨gb464,0,none⟩ = some (.int .i64 a0_0):=(bc_ BK464.out 0).trans rfl;have hcz5_1 : w4.cell? ⟨gb464,1,none⟩ = some (.int .i64 a0_1):=(bc_ BK464.out 1).trans rfl;have hcz5_2 : w4.cell? ⟨gb464,2,none⟩ = some (.int .i64 a0_2):=(bc_ BK464.out 2).trans rfl;have hfz5_0:=bf_ BK464.out 0;have hfz5_1:=bf_ BK464.out 1;have hfz5_2:=bf_ BK464.out 2))
  go_ret
  exact ⟨qe_,u1_ HB GE464⟩
 ·rw [if_neg c3] at H
  have c3b0 : (a1 == a0_0) = false:=beq_eq_false_iff_ne.mpr c3
  have c3b1 : (a1 != a0_0) = true:=bne_iff_ne.mpr c3
  by_cases c6 : a1 = a0_1
  ·rw [if_pos c6] at H
   have c6b0 : (a1 == a0_1) = true:=beq_iff_eq.mpr c6
   have c6b1 : (a1 != a0_1) = false:=bne_eq_false_iff_eq.mpr c6
   clear c6
   obtain rfl:=Option.some.inj H
   go_enter Try.func88,Try.ntmps88
   go_wp2_with (first|((with_reducible refine gate_dst (N:=2) rfl ?_);refine box_event ?hg (N:=2) ?hd (cs:=#[.int .i64 a0_0,.int .i64 a0_1,.int .i64 a0_2]) (t:=51) ?hr ?_;(case hd => rfl);(case hg => rfl);(case hr => first|(go_simp;done)|(go_simp;rfl));intro gb464 hg w7 hbox hb;have n0_:=mk_ (st_ (qb_ HB) hb);have n1_:=mk_ (hbox);have n2_:=mk_ ((by rw [hg];exact (bz_ (qb_ HB)) : w.heap.size ≤ gb464));have n3_:=mk_ ((by rw [hg];exact (bz_ (qb_ HB)) : w.heap.size ≤ gb464));clear HB;have HB:=n0_;have BK464:=n1_;have GW464:=n2_;have GE464:=n3_;clear n0_ n1_ n2_ n3_;clear hb hbox hg;have hcz8_0 : w7.cell? ⟨gb464,0,none⟩ = some (.int .i64 a0_0):=(bc_ BK464.out 0).trans rfl;have hcz8_1 : w7.cell? ⟨gb464,1,none⟩ = some (.int .i64 a0_1):=(bc_ BK464.out 1).trans rfl;have hcz8_2 : w7.cell? ⟨gb464,2,none⟩ = some (.int .i64 a0_2):=(bc_ BK464.out 2).trans rfl;have hfz8_0:=bf_ BK464.out 0;have hfz8_1:=bf_ BK464.out 1;have hfz8_2:=bf_ BK464.out 2))
   go_ret
   exact ⟨qe_,u1_ HB GE464⟩
  ·rw [if_neg c6] at H
   have c6b0 : (a1 == a0_1) = false:=beq_eq_false_iff_ne.mpr c6
   have c6b1 : (a1 != a0_1) = true:=bne_iff_ne.mpr c6
   obtain rfl:=Option.some.inj H
   go_enter Try.func88,Try.ntmps88
   go_wp2_with (first|((with_reducible refine gate_dst (N:=2) rfl ?_);refine box_event ?hg (N:=2) ?hd (cs:=#[.int .i64 a0_0,.int .i64 a0_1,.int .i64 a0_2]) (t:=51) ?hr ?_;(case hd => rfl);(case hg => rfl);(case hr => first|(go_simp;done)|(go_simp;rfl));intro gb464 hg w9 hbox hb;have n0_:=mk_ (st_ (qb_ HB) hb);have n1_:=mk_ (hbox);have n2_:=mk_ ((by rw [hg];exact (bz_ (qb_ HB)) : w.heap.size ≤ gb464));have n3_:=mk_ ((by rw [hg];exact (bz_ (qb_ HB)) : w.heap.size ≤ gb464));clear HB;have HB:=n0_;have BK464:=n1_;have GW464:=n2_;have GE464:=n3_;clear n0_ n1_ n2_ n3_;clear hb hbox hg;have hcz10_0 : w9.cell? ⟨gb464,0,none⟩ = some (.int .i64 a0_0):=(bc_ BK464.out 0).trans rfl;have hcz10_1 : w9.cell? ⟨gb464,1,none⟩ = some (.int .i64 a0_1):=(bc_ BK464.out 1).trans rfl;have hcz10_2 : w9.cell? ⟨gb464,2,none⟩ = some (.int .i64 a0_2):=(bc_ BK464.out 2).trans rfl;have hfz10_0:=bf_ BK464.out 0;have hfz10_1:=bf_ BK464.out 1;have hfz10_2:=bf_ BK464.out 2))
   go_ret
   exact ⟨qe_,u1_ HB GE464⟩

/-! ### spec_l7Up: function 86 -/
mutual
def spec_l7Up.l0 : Nat → List (S51) → List Int → Int → Int → Int → Option (Int)
 | 0,_,_,_,_,_ => none
 | k + 1,x0,x1,x2,x7,x8 => if x8 < (x0.length : Int) then (if 0 ≤ x8 then ((spec_l7Other.f ((rd_T51 x0 x8).f0) ((rd_T51 x0 x8).f1) ((rd_T51 x0 x8).f2) x2).bind fun t467 => (if t467 < 0 then (spec_l7Up.j1 k x0 x1 x2 x7 x8 t467 true) else (if 0 ≤ t467 then (if t467 < (x1.length : Int) then (if 0 ≤ x2 then (if x2 < (x1.length : Int) then (spec_l7Up.j1 k x0 x1 x2 x7 x8 t467 ((wrap64 ((rd x1 t467) + ((rd_T51 x0 x8).f2))) != (rd x1 x2))) else (none)) else (none)) else (none)) else (none)))) else (none)) else (some x7)
def spec_l7Up.j1 : Nat → List (S51) → List Int → Int → Int → Int → Int → Bool → Option (Int)
 | 0,_,_,_,_,_,_,_ => none
 | k + 1,x0,x1,x2,x7,x8,x9,x46 => if x46 = true then (spec_l7Up.l0 k x0 x1 x2 x7 (wrap64 (x8 + 1))) else (if x7 < 0 then (spec_l7Up.l0 k x0 x1 x2 x8 (wrap64 (x8 + 1))) else (if 0 ≤ x7 then (if x7 < (x0.length : Int) then ((spec_l7Other.f ((rd_T51 x0 x7).f0) ((rd_T51 x0 x7).f1) ((rd_T51 x0 x7).f2) x2).bind fun t472 => (if x9 < t472 then (spec_l7Up.l0 k x0 x1 x2 x8 (wrap64 (x8 + 1))) else (spec_l7Up.l0 k x0 x1 x2 x7 (wrap64 (x8 + 1))))) else (none)) else (none)))
end
def spec_l7Up.f (k : Nat) (l0 : List (S51)) (l1 : List Int) (a2 : Int) : Option (Int):=if 0 ≤ a2 then (if a2 < (l1.length : Int) then (if (rd l1 a2) = 0 then (some (-1)) else (spec_l7Up.l0 k l0 l1 a2 (-1) 0)) else (none)) else (none)
theorem spec_l7Up.mono_l : ∀ k,(∀ y0 y1 y2 y3 y4,LeO (spec_l7Up.l0 k y0 y1 y2 y3 y4) (spec_l7Up.l0 (k + 1) y0 y1 y2 y3 y4)) ∧ (∀ y0 y1 y2 y3 y4 y5 y6,LeO (spec_l7Up.j1 k y0 y1 y2 y3 y4 y5 y6) (spec_l7Up.j1 (k + 1) y0 y1 y2 y3 y4 y5 y6))
 | 0 => ⟨fun _ _ _ _ _ r h => by simp [spec_l7Up.l0] at h,fun _ _ _ _ _ _ _ r h => by simp [spec_l7Up.j1] at h⟩
 | k + 1 => by
  obtain ⟨ih0,ih1⟩:=spec_l7Up.mono_l k
  refine ⟨?_,?_⟩
  ·intro y0 y1 y2 y3 y4
   unfold spec_l7Up.l0
   repeat' first
   | (with_reducible exact ih0 _ _ _ _ _)
   | (with_reducible exact ih1 _ _ _ _ _ _ _)
   | (with_reducible exact LeO.refl _)
   | (with_reducible exact LeO.none _)
   | (with_reducible refine LeO.ite ?_ ?_)
   | (with_reducible refine LeO.bind ?_ (fun _ => ?_))
   | exact ih0 _ _ _ _ _
   | exact ih1 _ _ _ _ _ _ _
   | exact LeO.none _
   | refine LeO.ite ?_ ?_
   | refine LeO.bind ?_ (fun _ => ?_)
  ·intro y0 y1 y2 y3 y4 y5 y6
   unfold spec_l7Up.j1
   repeat' first
   | (with_reducible exact ih0 _ _ _ _ _)
   | (with_reducible exact ih1 _ _ _ _ _ _ _)
   | (with_reducible exact LeO.refl _)
   | (with_reducible exact LeO.none _)
   | (with_reducible refine LeO.ite ?_ ?_)
   | (with_reducible refine LeO.bind ?_ (fun _ => ?_))
   | exact ih0 _ _ _ _ _
   | exact ih1 _ _ _ _ _ _ _
   | exact LeO.none _
   | refine LeO.ite ?_ ?_
   | refine LeO.bind ?_ (fun _ => ?_)
theorem spec_l7Up.mono : ∀ a0 a1 a2 k,LeO (spec_l7Up.f k a0 a1 a2) (spec_l7Up.f (k + 1) a0 a1 a2):=by
 intro a0 a1 a2 k
 obtain ⟨ih0,ih1⟩:=spec_l7Up.mono_l k
 unfold spec_l7Up.f
 repeat' first
   | (with_reducible exact ih0 _ _ _ _ _)
   | (with_reducible exact ih1 _ _ _ _ _ _ _)
   | (with_reducible exact LeO.refl _)
   | (with_reducible exact LeO.none _)
   | (with_reducible refine LeO.ite ?_ ?_)
   | (with_reducible refine LeO.bind ?_ (fun _ => ?_))
   | exact ih0 _ _ _ _ _
   | exact ih1 _ _ _ _ _ _ _
   | exact LeO.none _
   | refine LeO.ite ?_ ?_
   | refine LeO.bind ?_ (fun _ => ?_)
set_option maxHeartbeats 8000000 in
set_option maxRecDepth 100000 in
theorem spec_l7Up.calls (k : Nat) (A0 : Option Addr) (c0 : Nat) (l0 : List (S51)) (A1 : Option Addr) (c1 : Nat) (l1 : List Int) (a2 : Int) (r : Int) (w : World) (hr0 : Kd.C k51 w A0 l0.length l0) (hc0 : l0.length ≤ c0) (hr1 : Kd.C (Kd.int .i64) w A1 l1.length l1) (hc1 : l1.length ≤ c1) (h : spec_l7Up.f k l0 l1 a2 = some r) :
  Calls Try.prog 86 #[.slice A0 l0.length c0,.slice A1 l1.length c1,.int .i64 a2] w fun e w' => e = .returned (.int .i64 r) ∧ Below w.heap.size w w':=by
 have hu51:=Try.underlying51
 have HR0:=mk_ hr0
 have HC0:=mk_ hc0
 clear hr0 hc0
 have HR1:=mk_ hr1
 have HC1:=mk_ hc1
 clear hr1 hc1
 have HB:=mk_ (Below.refl w.heap.size w)
 have H : (if 0 ≤ a2 then (if a2 < (l1.length : Int) then (if (rd l1 a2) = 0 then (some (-1)) else (spec_l7Up.l0 k l0 l1 a2 (-1) 0)) else (none)) else (none)) = some r:=h
 clear h
 by_cases c4 : 0 ≤ a2
 ·rw [if_pos c4] at H
  have c4b0 : decide (0 ≤ a2) = true:=decide_eq_true c4
  clear c4
  by_cases c5 : a2 < (l1.length : Int)
  ·rw [if_pos c5] at H
   have c5b0 : decide (a2 < (l1.length : Int)) = true:=decide_eq_true c5
   clear c5
   by_cases c6 : (rd l1 a2) = 0
   ·rw [if_pos c6] at H
    have c6b0 : ((rd l1 a2) == 0) = true:=beq_iff_eq.mpr c6
    have c6b1 : ((rd l1 a2) != 0) = false:=bne_eq_false_iff_eq.mpr c6
    clear c6
    obtain rfl:=Option.some.inj H
    have p465 : 0 ≤ (a2 : Int):=od_ qa_
    have q465 : a2 < (l1.length : Int):=od_ qa_
    obtain ⟨ad465,e465,hx465_0⟩:=Kd.at_int HR1.out a2 p465 q465
    cases e465
    replace p465:=eq_true p465
    replace q465:=eq_true q465
    go_enter Try.func86,Try.ntmps86
    go_wp2
    repeat (go_quiet (fail);try go_wp2)
    go_ret
    exact ⟨qe_,u0_ HB⟩
   ·rw [if_neg c6] at H
    have c6b0 : ((rd l1 a2) == 0) = false:=beq_eq_false_iff_ne.mpr c6
    have c6b1 : ((rd l1 a2) != 0) = true:=bne_iff_ne.mpr c6
    have H':=mk_ H
    clear H
    have p465 : 0 ≤ (a2 : Int):=od_ qa_
    have q465 : a2 < (l1.length : Int):=od_ qa_
    obtain ⟨ad465,e465,hx465_0⟩:=Kd.at_int HR1.out a2 p465 q465
    cases e465
    replace p465:=eq_true p465
    replace q465:=eq_true q465
    go_enter Try.func86,Try.ntmps86
    go_wp2
    repeat (go_quiet (fail);try go_wp2)
    go_loopg [7,8] k (fun kq v7 v8 w' => ∃ (x7_1 : Int) (x8_1 : Int),v7 = .int .i64 x7_1 ∧ v8 = .int .i64 x8_1 ∧ Aside0 (spec_l7Up.l0 kq l0 l1 a2 x7_1 x8_1 = some r) ∧ Aside0 (kq ≤ k) ∧ Aside0 (Below w.heap.size w w'))
    case atStart => exact ⟨((-1)),(0),qf_,qf_,H',⟨Nat.le_refl _⟩,⟨u0_ HB⟩⟩
    case round =>
     clear H'
     try clear c1
     try clear p2
     try clear c4
     try clear c4b0
     try clear p4
     try clear q4
     try clear hx4
     try clear c5
     try clear c5b0
     try clear c6
     try clear c6b0
     try clear c6b1
     try clear hx465_0
     try clear p465
     try clear q465
     obtain ⟨x7_1,x8_1,rfl,rfl,HA,HK1,HB⟩:=hrel
     cases gk with
     | zero => exact absurd HA.out (by simp [spec_l7Up.l0])
     | succ k1 =>
      have H:=HA.out
      clear HA
      simp only [spec_l7Up.l0] at H
      by_cases c7 : x8_1 < (l0.length : Int)
      ·rw [if_pos c7] at H
       have c7b0 : decide (x8_1 < (l0.length : Int)) = true:=decide_eq_true c7
       clear c7
       by_cases c8 : 0 ≤ x8_1
       ·rw [if_pos c8] at H
        have c8b0 : decide (0 ≤ x8_1) = true:=decide_eq_true c8
        clear c8
        replace H:=Option.bind_eq_some_iff.mp H
        obtain ⟨t467,A90,H⟩:=H
        replace H : (if t467 < 0 then (spec_l7Up.j1 k1 l0 l1 a2 x7_1 x8_1 t467 true) else (if 0 ≤ t467 then (if t467 < (l1.length : Int) then (if 0 ≤ a2 then (if a2 < (l1.length : Int) then (spec_l7Up.j1 k1 l0 l1 a2 x7_1 x8_1 t467 ((wrap64 ((rd l1 t467) + ((rd_T51 l0 x8_1).f2))) != (rd l1 a2))) else (none)) else (none)) else (none)) else (none))) = some r:=H
        have A9:=mk_ A90
        clear A90
        have HC10:=mk_ H
        clear H
        have p466 : 0 ≤ (x8_1 : Int):=od_ qa_
        have q466 : x8_1 < (l0.length : Int):=od_ qa_
        obtain ⟨ad466,e466,hx466_0,hx466_1,hx466_2⟩:=at_T51 HR0.out x8_1 p466 q466
        cases e466
        replace hx466_0:=(HB.out.cell (wl_ w _ hx466_0)).trans hx466_0
        replace hx466_1:=(HB.out.cell (wl_ w _ hx466_1)).trans hx466_1
        replace hx466_2:=(HB.out.cell (wl_ w _ hx466_2)).trans hx466_2
        replace p466:=eq_true p466
        replace q466:=eq_true q466
        go_upto_region 8 with (first|(go_at_call 88;(with_reducible refine (spec_l7Other.calls ((rd_T51 l0 x8_1).f0) ((rd_T51 l0 x8_1).f1) ((rd_T51 l0 x8_1).f2) a2 t467 _ A9.out).mono ?_);rintro e w11 ⟨rfl,hb⟩;have n0_:=mk_ (st_ (qb_ HB) hb);clear HB;have HB:=n0_;clear n0_;(try clear hb);(try clear hb2);(try clear hk);(try clear hi)))
        repeat (go_quiet (first|(go_at_call 88;(with_reducible refine (spec_l7Other.calls ((rd_T51 l0 x8_1).f0) ((rd_T51 l0 x8_1).f1) ((rd_T51 l0 x8_1).f2) a2 t467 _ A9.out).mono ?_);rintro e w11 ⟨rfl,hb⟩;have n0_:=mk_ (st_ (qb_ HB) hb);clear HB;have HB:=n0_;clear n0_;(try clear hb);(try clear hb2);(try clear hk);(try clear hi)));go_upto_region 8 with (first|(go_at_call 88;(with_reducible refine (spec_l7Other.calls ((rd_T51 l0 x8_1).f0) ((rd_T51 l0 x8_1).f1) ((rd_T51 l0 x8_1).f2) a2 t467 _ A9.out).mono ?_);rintro e w11 ⟨rfl,hb⟩;have n0_:=mk_ (st_ (qb_ HB) hb);clear HB;have HB:=n0_;clear n0_;(try clear hb);(try clear hb2);(try clear hk);(try clear hi))))
        (try simp only [Act.put,sx_,sy_,sz_])
        go_cut [46] (fun v46 wc => ∃ (kq : Nat) (x46_9 : Bool),v46 = .bool x46_9 ∧ Aside0 (spec_l7Up.j1 kq l0 l1 a2 x7_1 x8_1 t467 x46_9 = some r) ∧ Aside0 (kq ≤ k1) ∧ Aside0 (Below w.heap.size w wc))
        case first =>
         have H:=HC10.out
         clear HC10
         by_cases c12 : t467 < 0
         ·rw [if_pos c12] at H
          have c12b0 : decide (t467 < 0) = true:=decide_eq_true c12
          clear c12
          (first|rw [c12b0]|(simp only [i64_w,i32_w];rw [c12b0])|skip)
          have H':=mk_ H
          clear H
          go_wp2
          repeat (go_quiet (fail);try go_wp2)
          go_meet
          case rel => exact ⟨_,(true),qf_,H',⟨by have:=HK1.out;first|omega|exact Nat.le_refl _⟩,⟨u0_ HB⟩⟩
         ·rw [if_neg c12] at H
          have c12b0 : decide (t467 < 0) = false:=decide_eq_false c12
          clear c12
          (first|rw [c12b0]|(simp only [i64_w,i32_w];rw [c12b0])|skip)
          by_cases c13 : 0 ≤ t467
          ·rw [if_pos c13] at H
           have c13b0 : decide (0 ≤ t467) = true:=decide_eq_true c13
           clear c13
           by_cases c14 : t467 < (l1.length : Int)
           ·rw [if_pos c14] at H
            have c14b0 : decide (t467 < (l1.length : Int)) = true:=decide_eq_true c14
            clear c14
            by_cases c15 : 0 ≤ a2
            ·rw [if_pos c15] at H
             have c15b0 : decide (0 ≤ a2) = true:=decide_eq_true c15
             clear c15
             by_cases c16 : a2 < (l1.length : Int)
             ·rw [if_pos c16] at H
              have c16b0 : decide (a2 < (l1.length : Int)) = true:=decide_eq_true c16
              clear c16
              have H':=mk_ H
              clear H
              have p468 : 0 ≤ (t467 : Int):=od_ qa_
              have q468 : t467 < (l1.length : Int):=od_ qa_
              obtain ⟨ad468,e468,hx468_0⟩:=Kd.at_int HR1.out t467 p468 q468
              obtain rfl : ad465 = ad468:=(by injection e468)
              replace hx468_0:=(HB.out.cell (wl_ w _ hx468_0)).trans hx468_0
              replace p468:=eq_true p468
              replace q468:=eq_true q468
              have p469 : 0 ≤ (x8_1 : Int):=od_ qa_
              have q469 : x8_1 < (l0.length : Int):=od_ qa_
              obtain ⟨ad469,e469,hx469_0,hx469_1,hx469_2⟩:=at_T51 HR0.out x8_1 p469 q469
              obtain rfl : ad466 = ad469:=(by injection e469)
              replace hx469_0:=(HB.out.cell (wl_ w _ hx469_0)).trans hx469_0
              replace hx469_1:=(HB.out.cell (wl_ w _ hx469_1)).trans hx469_1
              replace hx469_2:=(HB.out.cell (wl_ w _ hx469_2)).trans hx469_2
              replace p469:=eq_true p469
              replace q469:=eq_true q469
              have p470 : 0 ≤ (a2 : Int):=od_ qa_
              have q470 : a2 < (l1.length : Int):=od_ qa_
              obtain ⟨ad470,e470,hx470_0⟩:=Kd.at_int HR1.out a2 p470 q470
              obtain rfl : ad465 = ad470:=(by injection e470)
              replace hx470_0:=(HB.out.cell (wl_ w _ hx470_0)).trans hx470_0
              replace p470:=eq_true p470
              replace q470:=eq_true q470
              go_wp2
              repeat (go_quiet (fail);try go_wp2)
              go_meet
              case rel => exact ⟨_,(((wrap64 ((rd l1 t467) + ((rd_T51 l0 x8_1).f2))) != (rd l1 a2))),qf_,H',⟨by have:=HK1.out;first|omega|exact Nat.le_refl _⟩,⟨u0_ HB⟩⟩
             ·rw [if_neg c16] at H
              exact absurd H (by simp)
            ·rw [if_neg c15] at H
             exact absurd H (by simp)
           ·rw [if_neg c14] at H
            exact absurd H (by simp)
          ·rw [if_neg c13] at H
           exact absurd H (by simp)
        case rest =>
         clear HC10
         try clear c1
         try clear p2
         try clear c4
         try clear c4b0
         try clear p4
         try clear q4
         try clear hx4
         try clear c5
         try clear c5b0
         try clear c6
         try clear c6b0
         try clear c6b1
         try clear p6
         try clear c7
         try clear c7b0
         try clear c8
         try clear c8b0
         try clear c12
         try clear c12b0
         try clear c13
         try clear c13b0
         try clear c14
         try clear c14b0
         try clear c15
         try clear c15b0
         try clear c16
         try clear c16b0
         try clear hx465_0
         try clear hx466_0
         try clear hx466_1
         try clear hx466_2
         try clear hx468_0
         try clear hx469_0
         try clear hx469_1
         try clear hx469_2
         try clear hx470_0
         try clear p2
         try clear p4
         try clear p465
         try clear p466
         try clear p468
         try clear p469
         try clear p470
         try clear q4
         try clear q465
         try clear q466
         try clear q468
         try clear q469
         try clear q470
         obtain ⟨kq,x46_9,rfl,HA,HJ9,HB⟩:=hcut
         cases kq with
         | zero => exact absurd HA.out (by simp [spec_l7Up.j1])
         | succ kj9 =>
          have H:=HA.out
          clear HA
          simp only [spec_l7Up.j1] at H
          by_cases c17 : x46_9 = true
          ·subst c17
           have H1 : (spec_l7Up.l0 kj9 l0 l1 a2 x7_1 (wrap64 (x8_1 + 1))) = some r:=by rw [if_pos rfl] at H;exact H
           clear H
           have H:=H1
           clear H1
           have H':=mk_ H
           clear H
           go_wp2
           repeat (go_quiet (fail);try go_wp2)
           go_roundg kj9
           case measure => have:=HK1.out;have:=HJ9.out;omega
           case rel => exact ⟨(x7_1),(wrap64 (x8_1 + 1)),qf_,qf_,H',⟨by have:=HK1.out;have:=HJ9.out;omega⟩,⟨u0_ HB⟩⟩
          ·replace c17:=Bool.eq_false_iff.mpr c17
           subst c17
           have H1 : (if x7_1 < 0 then (spec_l7Up.l0 kj9 l0 l1 a2 x8_1 (wrap64 (x8_1 + 1))) else (if 0 ≤ x7_1 then (if x7_1 < (l0.length : Int) then ((spec_l7Other.f ((rd_T51 l0 x7_1).f0) ((rd_T51 l0 x7_1).f1) ((rd_T51 l0 x7_1).f2) a2).bind fun t472 => (if t467 < t472 then (spec_l7Up.l0 kj9 l0 l1 a2 x8_1 (wrap64 (x8_1 + 1))) else (spec_l7Up.l0 kj9 l0 l1 a2 x7_1 (wrap64 (x8_1 + 1))))) else (none)) else (none))) = some r:=by rw [if_neg (show ¬ (false = true) by decide)] at H;exact H
           clear H
           have H:=H1
           clear H1
           by_cases c18 : x7_1 < 0
           ·rw [if_pos c18] at H
            have c18b0 : decide (x7_1 < 0) = true:=decide_eq_true c18
            clear c18
            have H':=mk_ H
            clear H
            go_wp2
            repeat (go_quiet (fail);try go_wp2)
            go_roundg kj9
            case measure => have:=HK1.out;have:=HJ9.out;omega
            case rel => exact ⟨(x8_1),(wrap64 (x8_1 + 1)),qf_,qf_,H',⟨by have:=HK1.out;have:=HJ9.out;omega⟩,⟨u0_ HB⟩⟩
           ·rw [if_neg c18] at H
            have c18b0 : decide (x7_1 < 0) = false:=decide_eq_false c18
            clear c18
            by_cases c19 : 0 ≤ x7_1
            ·rw [if_pos c19] at H
             have c19b0 : decide (0 ≤ x7_1) = true:=decide_eq_true c19
             clear c19
             by_cases c20 : x7_1 < (l0.length : Int)
             ·rw [if_pos c20] at H
              have c20b0 : decide (x7_1 < (l0.length : Int)) = true:=decide_eq_true c20
              clear c20
              replace H:=Option.bind_eq_some_iff.mp H
              obtain ⟨t472,A210,H⟩:=H
              replace H : (if t467 < t472 then (spec_l7Up.l0 kj9 l0 l1 a2 x8_1 (wrap64 (x8_1 + 1))) else (spec_l7Up.l0 kj9 l0 l1 a2 x7_1 (wrap64 (x8_1 + 1)))) = some r:=H
              have A21:=mk_ A210
              clear A210
              by_cases c22 : t467 < t472
              ·rw [if_pos c22] at H
               have c22b0 : decide (t467 < t472) = true:=decide_eq_true c22
               clear c22
               have H':=mk_ H
               clear H
               have p471 : 0 ≤ (x7_1 : Int):=od_ qa_
               have q471 : x7_1 < (l0.length : Int):=od_ qa_
               obtain ⟨ad471,e471,hx471_0,hx471_1,hx471_2⟩:=at_T51 HR0.out x7_1 p471 q471
               obtain rfl : ad466 = ad471:=(by injection e471)
               replace hx471_0:=(HB.out.cell (wl_ w _ hx471_0)).trans hx471_0
               replace hx471_1:=(HB.out.cell (wl_ w _ hx471_1)).trans hx471_1
               replace hx471_2:=(HB.out.cell (wl_ w _ hx471_2)).trans hx471_2
               replace p471:=eq_true p471
               replace q471:=eq_true q471
               go_wp2_with (first|(go_at_call 88;(with_reducible refine (spec_l7Other.calls ((rd_T51 l0 x7_1).f0) ((rd_T51 l0 x7_1).f1) ((rd_T51 l0 x7_1).f2) a2 t472 _ A21.out).mono ?_);rintro e w23 ⟨rfl,hb⟩;have n0_:=mk_ (st_ (qb_ HB) hb);clear HB;have HB:=n0_;clear n0_;(try clear hb);(try clear hb2);(try clear hk);(try clear hi)))
               repeat (go_quiet (first|(go_at_call 88;(with_reducible refine (spec_l7Other.calls ((rd_T51 l0 x7_1).f0) ((rd_T51 l0 x7_1).f1) ((rd_T51 l0 x7_1).f2) a2 t472 _ A21.out).mono ?_);rintro e w23 ⟨rfl,hb⟩;have n0_:=mk_ (st_ (qb_ HB) hb);clear HB;have HB:=n0_;clear n0_;(try clear hb);(try clear hb2);(try clear hk);(try clear hi)));try go_wp2_with (first|(go_at_call 88;(with_reducible refine (spec_l7Other.calls ((rd_T51 l0 x7_1).f0) ((rd_T51 l0 x7_1).f1) ((rd_T51 l0 x7_1).f2) a2 t472 _ A21.out).mono ?_);rintro e w23 ⟨rfl,hb⟩;have n0_:=mk_ (st_ (qb_ HB) hb);clear HB;have HB:=n0_;clear n0_;(try clear hb);(try clear hb2);(try clear hk);(try clear hi))))
               go_roundg kj9
               case measure => have:=HK1.out;have:=HJ9.out;omega
               case rel => exact ⟨(x8_1),(wrap64 (x8_1 + 1)),qf_,qf_,H',⟨by have:=HK1.out;have:=HJ9.out;omega⟩,⟨u0_ HB⟩⟩
              ·rw [if_neg c22] at H
               have c22b0 : decide (t467 < t472) = false:=decide_eq_false c22
               clear c22
               have H':=mk_ H
               clear H
               have p471 : 0 ≤ (x7_1 : Int):=od_ qa_
               have q471 : x7_1 < (l0.length : Int):=od_ qa_
               obtain ⟨ad471,e471,hx471_0,hx471_1,hx471_2⟩:=at_T51 HR0.out x7_1 p471 q471
               obtain rfl : ad466 = ad471:=(by injection e471)
               replace hx471_0:=(HB.out.cell (wl_ w _ hx471_0)).trans hx471_0
               replace hx471_1:=(HB.out.cell (wl_ w _ hx471_1)).trans hx471_1
               replace hx471_2:=(HB.out.cell (wl_ w _ hx471_2)).trans hx471_2
               replace p471:=eq_true p471
               replace q471:=eq_true q471
               go_wp2_with (first|(go_at_call 88;(with_reducible refine (spec_l7Other.calls ((rd_T51 l0 x7_1).f0) ((rd_T51 l0 x7_1).f1) ((rd_T51 l0 x7_1).f2) a2 t472 _ A21.out).mono ?_);rintro e w24 ⟨rfl,hb⟩;have n0_:=mk_ (st_ (qb_ HB) hb);clear HB;have HB:=n0_;clear n0_;(try clear hb);(try clear hb2);(try clear hk);(try clear hi)))
               repeat (go_quiet (first|(go_at_call 88;(with_reducible refine (spec_l7Other.calls ((rd_T51 l0 x7_1).f0) ((rd_T51 l0 x7_1).f1) ((rd_T51 l0 x7_1).f2) a2 t472 _ A21.out).mono ?_);rintro e w24 ⟨rfl,hb⟩;have n0_:=mk_ (st_ (qb_ HB) hb);clear HB;have HB:=n0_;clear n0_;(try clear hb);(try clear hb2);(try clear hk);(try clear hi)));try go_wp2_with (first|(go_at_call 88;(with_reducible refine (spec_l7Other.calls ((rd_T51 l0 x7_1).f0) ((rd_T51 l0 x7_1).f1) ((rd_T51 l0 x7_1).f2) a2 t472 _ A21.out).mono ?_);rintro e w24 ⟨rfl,hb⟩;have n0_:=mk_ (st_ (qb_ HB) hb);clear HB;have HB:=n0_;clear n0_;(try clear hb);(try clear hb2);(try clear hk);(try clear hi))))
               go_roundg kj9
               case measure => have:=HK1.out;have:=HJ9.out;omega
               case rel => exact ⟨(x7_1),(wrap64 (x8_1 + 1)),qf_,qf_,H',⟨by have:=HK1.out;have:=HJ9.out;omega⟩,⟨u0_ HB⟩⟩
             ·rw [if_neg c20] at H
              exact absurd H (by simp)
            ·rw [if_neg c19] at H
             exact absurd H (by simp)
       ·rw [if_neg c8] at H
        exact absurd H (by simp)
      ·rw [if_neg c7] at H
       have c7b0 : decide (x8_1 < (l0.length : Int)) = false:=decide_eq_false c7
       clear c7
       obtain rfl:=Option.some.inj H
       go_wp2
       repeat (go_quiet (fail);try go_wp2)
       go_ret
       exact ⟨qe_,u0_ HB⟩
  ·rw [if_neg c5] at H
   exact absurd H (by simp)
 ·rw [if_neg c4] at H
  exact absurd H (by simp)

/-! ### spec_l19Up: function 69 -/
def spec_l19Up.l0 : Nat → Int → List Bool → List Int → Int → Int → List (S51) → List Int → List Int → Option (List Bool)
 | 0,_,_,_,_,_,_,_,_ => none
 | k + 1,x1,x5,x6,x7,x474000,x474001,x474002,x474003 => if x7 ≥ 0 then (if 0 ≤ x7 then (if x7 < (x5.length : Int) then (if x7 < (x474001.length : Int) then ((spec_l7Other.f ((rd_T51 x474001 x7).f0) ((rd_T51 x474001 x7).f1) ((rd_T51 x474001 x7).f2) x1).bind fun t483 => ((spec_l7Up.f k x474001 x6 t483).bind fun t484 => (spec_l19Up.l0 k t483 (x5.set (x7 : Int).toNat true) x6 t484 x474000 x474001 x474002 x474003))) else (none)) else (none)) else (none)) else (some x5)
def spec_l19Up.f (k : Nat) (a0_0 : Int) (l0_1 : List (S51)) (l0_2 : List Int) (l0_3 : List Int) (a1 : Int) : Option (List Bool):=if 0 ≤ (l0_1.length : Int) then (if ((l0_1.length : Int) : Int).toNat ≤ 281474976710656 then ((spec_l7Costs.f k a0_0 l0_1).bind fun t477 => ((spec_l7Up.f k l0_1 t477 a1).bind fun t480 => (spec_l19Up.l0 k a1 (List.replicate ((l0_1.length : Int) : Int).toNat false) t477 t480 a0_0 l0_1 l0_2 l0_3))) else (none)) else (none)
theorem spec_l19Up.mono_l : ∀ k,(∀ y0 y1 y2 y3 y4 y5 y6 y7,LeO (spec_l19Up.l0 k y0 y1 y2 y3 y4 y5 y6 y7) (spec_l19Up.l0 (k + 1) y0 y1 y2 y3 y4 y5 y6 y7))
 | 0 => fun _ _ _ _ _ _ _ _ r h => by simp [spec_l19Up.l0] at h
 | k + 1 => by
  have ih0:=spec_l19Up.mono_l k
  ·intro y0 y1 y2 y3 y4 y5 y6 y7
   unfold spec_l19Up.l0
   repeat' first
   | (with_reducible exact ih0 _ _ _ _ _ _ _ _)
   | (with_reducible exact spec_l7Costs.mono _ _ _)
   | (with_reducible exact spec_l7Up.mono _ _ _ _)
   | (with_reducible exact LeO.refl _)
   | (with_reducible exact LeO.none _)
   | (with_reducible refine LeO.ite ?_ ?_)
   | (with_reducible refine LeO.bind ?_ (fun _ => ?_))
   | exact ih0 _ _ _ _ _ _ _ _
   | exact spec_l7Costs.mono _ _ _
   | exact spec_l7Up.mono _ _ _ _
   | exact LeO.none _
   | refine LeO.ite ?_ ?_
   | refine LeO.bind ?_ (fun _ => ?_)
theorem spec_l19Up.mono : ∀ a0 a1 a2 a3 a4 k,LeO (spec_l19Up.f k a0 a1 a2 a3 a4) (spec_l19Up.f (k + 1) a0 a1 a2 a3 a4):=by
 intro a0 a1 a2 a3 a4 k
 have ih0:=spec_l19Up.mono_l k
 unfold spec_l19Up.f
 repeat' first
   | (with_reducible exact ih0 _ _ _ _ _ _ _ _)
   | (with_reducible exact spec_l7Costs.mono _ _ _)
   | (with_reducible exact spec_l7Up.mono _ _ _ _)
   | (with_reducible exact LeO.refl _)
   | (with_reducible exact LeO.none _)
   | (with_reducible refine LeO.ite ?_ ?_)
   | (with_reducible refine LeO.bind ?_ (fun _ => ?_))
   | exact ih0 _ _ _ _ _ _ _ _
   | exact spec_l7Costs.mono _ _ _
   | exact spec_l7Up.mono _ _ _ _
   | exact LeO.none _
   | refine LeO.ite ?_ ?_
   | refine LeO.bind ?_ (fun _ => ?_)
set_option maxHeartbeats 8000000 in
set_option maxRecDepth 100000 in
theorem spec_l19Up.calls (k : Nat) (a0_0 : Int) (A0_1 : Option Addr) (c0_1 : Nat) (l0_1 : List (S51)) (A0_2 : Option Addr) (c0_2 : Nat) (l0_2 : List Int) (A0_3 : Option Addr) (c0_3 : Nat) (l0_3 : List Int) (a1 : Int) (r : List Bool) (w : World) (hr0_1 : Kd.C k51 w A0_1 l0_1.length l0_1) (hc0_1 : l0_1.length ≤ c0_1) (hr0_2 : Kd.C (Kd.int .i64) w A0_2 l0_2.length l0_2) (hc0_2 : l0_2.length ≤ c0_2) (hr0_3 : Kd.C (Kd.int .i64) w A0_3 l0_3.length l0_3) (hc0_3 : l0_3.length ≤ c0_3) (h : spec_l19Up.f k a0_0 l0_1 l0_2 l0_3 a1 = some r) :
  Calls Try.prog 69 #[.agg #[.int .i64 a0_0,.slice A0_1 l0_1.length c0_1,.slice A0_2 l0_2.length c0_2,.slice A0_3 l0_3.length c0_3],.int .i64 a1] w fun e w' => ∃ v0_ : Value,e = .returned (v0_) ∧ Kd.R Kd.bool 4 w' w.heap.size (fun _ => True) v0_ r ∧ Below w.heap.size w w':=by
 have hu30:=Try.underlying30
 have hu51:=Try.underlying51
 have HR0_1:=mk_ hr0_1
 have HC0_1:=mk_ hc0_1
 clear hr0_1 hc0_1
 have HR0_2:=mk_ hr0_2
 have HC0_2:=mk_ hc0_2
 clear hr0_2 hc0_2
 have HR0_3:=mk_ hr0_3
 have HC0_3:=mk_ hc0_3
 clear hr0_3 hc0_3
 have HB:=mk_ (Below.refl w.heap.size w)
 have H : (if 0 ≤ (l0_1.length : Int) then (if ((l0_1.length : Int) : Int).toNat ≤ 281474976710656 then ((spec_l7Costs.f k a0_0 l0_1).bind fun t477 => ((spec_l7Up.f k l0_1 t477 a1).bind fun t480 => (spec_l19Up.l0 k a1 (List.replicate ((l0_1.length : Int) : Int).toNat false) t477 t480 a0_0 l0_1 l0_2 l0_3))) else (none)) else (none)) = some r:=h
 clear h
 by_cases c3 : 0 ≤ (l0_1.length : Int)
 ·rw [if_pos c3] at H
  have c3b0:=eq_true c3
  have c3b1 : decide (0 ≤ (l0_1.length : Int)) = true:=decide_eq_true c3
  clear c3
  by_cases c4 : ((l0_1.length : Int) : Int).toNat ≤ 281474976710656
  ·rw [if_pos c4] at H
   have c4b0:=eq_true c4
   have c4b1 : decide (((l0_1.length : Int) : Int).toNat ≤ 281474976710656) = true:=decide_eq_true c4
   clear c4
   obtain ⟨y474,hy474⟩ : ∃ y_ : List Bool,y_ = (List.replicate ((l0_1.length : Int) : Int).toNat false):=⟨_,rfl⟩
   replace H : ((spec_l7Costs.f k a0_0 l0_1).bind fun t477 => ((spec_l7Up.f k l0_1 t477 a1).bind fun t480 => (spec_l19Up.l0 k a1 y474 t477 t480 a0_0 l0_1 l0_2 l0_3))) = some r:=by first|(rw [hy474];with_reducible exact H)|(have H2_:=(Option.bind_some _ _).symm.trans H;rw [hy474];with_reducible exact H2_)|(have H2_:=(Option.bind_some _ _).symm.trans H;with_reducible exact H2_)|with_reducible exact H|(rw [hy474];exact H)|exact H
   have Ny474:=mk_ hy474
   clear hy474
   replace H:=Option.bind_eq_some_iff.mp H
   obtain ⟨t477,A50,H⟩:=H
   replace H : ((spec_l7Up.f k l0_1 t477 a1).bind fun t480 => (spec_l19Up.l0 k a1 y474 t477 t480 a0_0 l0_1 l0_2 l0_3)) = some r:=H
   have A5:=mk_ A50
   clear A50
   replace H:=Option.bind_eq_some_iff.mp H
   obtain ⟨t480,A60,H⟩:=H
   replace H : (spec_l19Up.l0 k a1 y474 t477 t480 a0_0 l0_1 l0_2 l0_3) = some r:=H
   have A6:=mk_ A60
   clear A60
   have H':=mk_ H
   clear H
   go_enter Try.func69,Try.ntmps69
   go_wp2_with (first|((with_reducible refine gate_dst (N:=2) rfl ?_);refine box_event ?hg (N:=2) ?hd (cs:=#[.int .i64 a0_0,.slice A0_1 l0_1.length c0_1,.slice A0_2 l0_2.length c0_2,.slice A0_3 l0_3.length c0_3]) (t:=30) ?hr ?_;(case hd => rfl);(case hg => rfl);(case hr => first|(go_simp;done)|(go_simp;rfl));intro gb473 hg w7 hbox hb;have n0_:=mk_ (st_ (qb_ HB) hb);have n1_:=mk_ (hbox);have n2_:=mk_ ((by rw [hg];exact (bz_ (qb_ HB)) : w.heap.size ≤ gb473));have n3_:=mk_ ((by rw [hg];exact (bz_ (qb_ HB)) : w.heap.size ≤ gb473));clear HB;have HB:=n0_;have BK473:=n1_;have GW473:=n2_;have GE473:=n3_;clear n0_ n1_ n2_ n3_;clear hb hbox hg;have hcz8_0 : w7.cell? ⟨gb473,0,none⟩ = some (.int .i64 a0_0):=(bc_ BK473.out 0).trans rfl;have hcz8_1 : w7.cell? ⟨gb473,1,none⟩ = some (.slice A0_1 l0_1.length c0_1):=(bc_ BK473.out 1).trans rfl;have hcz8_2 : w7.cell? ⟨gb473,2,none⟩ = some (.slice A0_2 l0_2.length c0_2):=(bc_ BK473.out 2).trans rfl;have hcz8_3 : w7.cell? ⟨gb473,3,none⟩ = some (.slice A0_3 l0_3.length c0_3):=(bc_ BK473.out 3).trans rfl;have hfz8_0:=bf_ BK473.out 0;have hfz8_1:=bf_ BK473.out 1;have hfz8_2:=bf_ BK473.out 2;have hfz8_3:=bf_ BK473.out 3)|((with_reducible refine gate_dst (N:=11) rfl ?_);refine Kd.R_make Kd.bool _ 4 rfl (N:=11) rfl 67 _ _ rfl (l0_1.length : Int) rfl rfl Try.underlying67 (.bool false) 1 info4 rfl (by decide) (by omega) false (ok:=fun _ => True) (okp:=fun _ => True) rfl (fun _ hk => hk) trivial (od_ qa_) (Nat.le_trans (Nat.mul_le_mul_right _ (od_ qa_ : (l0_1.length : Int).toNat ≤ 281474976710656)) (by omega)) (Below.refl _ _) (Nat.le_refl _) ?_;intro v475 w9 ho10 hb hg_ hnew_;clear hg_ hnew_;(first|rw [← Ny474.out] at ho10|(simp only [Int.reduceToNat] at ho10;rw [← Ny474.out] at ho10));have n0_:=mk_ (Kd.R_lower ho10 (bz_ (qc_ HB GE473)));have n1_:=mk_ (blk_below (g:=gb473) (o:=.cells #[.int .i64 a0_0,.slice A0_1 l0_1.length c0_1,.slice A0_2 l0_2.length c0_2,.slice A0_3 l0_3.length c0_3] 30 (0,0)) (qk_ BK473) hb);have n2_:=mk_ (st_ (qc_ HB GE473) hb);clear BK473;clear HB;have HO476:=n0_;have BK473:=n1_;have HB:=n2_;clear n0_ n1_ n2_;clear hb ho10;have hcz11_0 : w9.cell? ⟨gb473,0,none⟩ = some (.int .i64 a0_0):=(bc_ BK473.out 0).trans rfl;have hcz11_1 : w9.cell? ⟨gb473,1,none⟩ = some (.slice A0_1 l0_1.length c0_1):=(bc_ BK473.out 1).trans rfl;have hcz11_2 : w9.cell? ⟨gb473,2,none⟩ = some (.slice A0_2 l0_2.length c0_2):=(bc_ BK473.out 2).trans rfl;have hcz11_3 : w9.cell? ⟨gb473,3,none⟩ = some (.slice A0_3 l0_3.length c0_3):=(bc_ BK473.out 3).trans rfl;have hfz11_0:=bf_ BK473.out 0;have hfz11_1:=bf_ BK473.out 1;have hfz11_2:=bf_ BK473.out 2;have hfz11_3:=bf_ BK473.out 3)|((with_reducible refine gate_callee (f:=85) rfl ?_);refine goesL_ (some 16) rfl rfl Try.func85 (by kernel_rfl) rfl #[.int .i64 a0_0,.slice A0_1 l0_1.length c0_1] rfl qm_ ?_;(with_reducible refine (spec_l7Costs.calls k a0_0 _ _ l0_1 t477 _ ?side1 ?side2 A5.out).mono ?_);(case side1 => exact qn_ HR0_1 HB);(case side2 => exact HC0_1.out);rintro e w12 ⟨v478,rfl,ho0,hb⟩;refine ⟨_,rfl,?_⟩;have n0_:=mk_ (rb_ (qr_ HO476) hb);have n1_:=mk_ (Kd.R_lower ho0 (bz_ (qc_ HB GE473)));have n2_:=mk_ (blk_below (g:=gb473) (o:=.cells #[.int .i64 a0_0,.slice A0_1 l0_1.length c0_1,.slice A0_2 l0_2.length c0_2,.slice A0_3 l0_3.length c0_3] 30 (0,0)) (qk_ BK473) hb);have n3_:=mk_ (st_ (qc_ HB GE473) hb);clear HO476;clear BK473;clear HB;have HO476:=n0_;have HO479:=n1_;have BK473:=n2_;have HB:=n3_;clear n0_ n1_ n2_ n3_;(try clear hb);(try clear hb2);(try clear hk);(try clear hi);(try clear ho0);have hcz13_0 : w12.cell? ⟨gb473,0,none⟩ = some (.int .i64 a0_0):=(bc_ BK473.out 0).trans rfl;have hcz13_1 : w12.cell? ⟨gb473,1,none⟩ = some (.slice A0_1 l0_1.length c0_1):=(bc_ BK473.out 1).trans rfl;have hcz13_2 : w12.cell? ⟨gb473,2,none⟩ = some (.slice A0_2 l0_2.length c0_2):=(bc_ BK473.out 2).trans rfl;have hcz13_3 : w12.cell? ⟨gb473,3,none⟩ = some (.slice A0_3 l0_3.length c0_3):=(bc_ BK473.out 3).trans rfl;have hfz13_0:=bf_ BK473.out 0;have hfz13_1:=bf_ BK473.out 1;have hfz13_2:=bf_ BK473.out 2;have hfz13_3:=bf_ BK473.out 3;obtain ⟨Ao14,co14,eo14⟩:=Kd.R_slice HO479.out;subst eo14)|((with_reducible refine gate_callee (f:=86) rfl ?_);refine goesL_ (some 21) rfl rfl Try.func86 (by kernel_rfl) rfl #[.slice A0_1 l0_1.length c0_1,.slice Ao14 t477.length co14,.int .i64 a1] rfl qm_ ?_;(with_reducible refine (spec_l7Up.calls k _ _ l0_1 _ _ t477 a1 t480 _ ?side1 ?side2 ?side3 ?side4 A6.out).mono ?_);(case side1 => exact qn_ HR0_1 HB);(case side2 => exact HC0_1.out);(case side3 => repeat (first|exact (rr_ HO479.out).2.2|(with_reducible refine ca_ ?_ _)|(with_reducible refine cn_ ?_ _)|(with_reducible refine cd_ ?_)));(case side4 => exact (rr_ HO479.out).2.1);rintro e w15 ⟨rfl,hb⟩;refine ⟨_,rfl,?_⟩;have n0_:=mk_ (rb_ (qr_ HO476) hb);have n1_:=mk_ (rb_ (qr_ HO479) hb);have n2_:=mk_ (blk_below (g:=gb473) (o:=.cells #[.int .i64 a0_0,.slice A0_1 l0_1.length c0_1,.slice A0_2 l0_2.length c0_2,.slice A0_3 l0_3.length c0_3] 30 (0,0)) (qk_ BK473) hb);have n3_:=mk_ (st_ (qc_ HB GE473) hb);clear HO476;clear HO479;clear BK473;clear HB;have HO476:=n0_;have HO479:=n1_;have BK473:=n2_;have HB:=n3_;clear n0_ n1_ n2_ n3_;(try clear hb);(try clear hb2);(try clear hk);(try clear hi)))
   go_loopg [1,7] k (fun kq v1 v7 w' => ∃ (x1_1 : Int) (x5_1 : List Bool) (x7_1 : Int),v1 = .int .i64 x1_1 ∧ v7 = .int .i64 x7_1 ∧ Aside0 (spec_l19Up.l0 kq x1_1 x5_1 t477 x7_1 a0_0 l0_1 l0_2 l0_3 = some r) ∧ Aside0 (kq ≤ k) ∧ Aside0 (Kd.R Kd.bool 4 w' w.heap.size (fun _ => True) v475 x5_1) ∧ Aside0 (Kd.R (Kd.int .i64) 3 w' w.heap.size (fun _ => True) (.slice Ao14 t477.length co14) t477) ∧ Aside0 (w'.heap[gb473]? = some (.cells #[.int .i64 a0_0,(.slice A0_1 l0_1.length c0_1),(.slice A0_2 l0_2.length c0_2),(.slice A0_3 l0_3.length c0_3)] 30 (0,0))) ∧ Aside0 (Below w.heap.size w w'))
   case atStart => exact ⟨(a1),(y474),(t480),qf_,qf_,H',⟨Nat.le_refl _⟩,⟨qr_ HO476⟩,⟨qr_ HO479⟩,⟨qk_ BK473⟩,⟨u1_ HB GE473⟩⟩
   case round =>
    clear H'
    try clear p2
    try clear c3
    try clear c3b0
    try clear c3b1
    try clear c4
    try clear c4b0
    try clear c4b1
    try clear c6
    try clear c8
    try clear hcz11_0
    try clear hcz11_1
    try clear hcz11_2
    try clear hcz11_3
    try clear hcz13_0
    try clear hcz13_1
    try clear hcz13_2
    try clear hcz13_3
    try clear hcz8_0
    try clear hcz8_1
    try clear hcz8_2
    try clear hcz8_3
    try clear hfz11_0
    try clear hfz11_1
    try clear hfz11_2
    try clear hfz11_3
    try clear hfz13_0
    try clear hfz13_1
    try clear hfz13_2
    try clear hfz13_3
    try clear hfz8_0
    try clear hfz8_1
    try clear hfz8_2
    try clear hfz8_3
    obtain ⟨x1_1,x5_1,x7_1,rfl,rfl,HA,HK1,HO_5,HO_6,BK473,HB⟩:=hrel
    cases gk with
    | zero => exact absurd HA.out (by simp [spec_l19Up.l0])
    | succ k1 =>
     have H:=HA.out
     clear HA
     simp only [spec_l19Up.l0] at H
     by_cases c16 : x7_1 ≥ 0
     ·rw [if_pos c16] at H
      have c16b0 : decide (0 ≤ x7_1) = true:=decide_eq_true c16
      clear c16
      by_cases c17 : 0 ≤ x7_1
      ·rw [if_pos c17] at H
       have c17b0 : decide (0 ≤ x7_1) = true:=decide_eq_true c17
       clear c17
       by_cases c18 : x7_1 < (x5_1.length : Int)
       ·rw [if_pos c18] at H
        have c18b0 : decide (x7_1 < (x5_1.length : Int)) = true:=decide_eq_true c18
        clear c18
        obtain ⟨y481,hy481⟩ : ∃ y_ : List Bool,y_ = (x5_1.set (x7_1 : Int).toNat true):=⟨_,rfl⟩
        replace H : (if x7_1 < (l0_1.length : Int) then ((spec_l7Other.f ((rd_T51 l0_1 x7_1).f0) ((rd_T51 l0_1 x7_1).f1) ((rd_T51 l0_1 x7_1).f2) x1_1).bind fun t483 => ((spec_l7Up.f k1 l0_1 t477 t483).bind fun t484 => (spec_l19Up.l0 k1 t483 y481 t477 t484 a0_0 l0_1 l0_2 l0_3))) else (none)) = some r:=by first|(rw [hy481];with_reducible exact H)|(have H2_:=(Option.bind_some _ _).symm.trans H;rw [hy481];with_reducible exact H2_)|(have H2_:=(Option.bind_some _ _).symm.trans H;with_reducible exact H2_)|with_reducible exact H|(rw [hy481];exact H)|exact H
        have Ny481:=mk_ hy481
        clear hy481
        by_cases c20 : x7_1 < (l0_1.length : Int)
        ·rw [if_pos c20] at H
         have c20b0 : decide (x7_1 < (l0_1.length : Int)) = true:=decide_eq_true c20
         clear c20
         replace H:=Option.bind_eq_some_iff.mp H
         obtain ⟨t483,A210,H⟩:=H
         replace H : ((spec_l7Up.f k1 l0_1 t477 t483).bind fun t484 => (spec_l19Up.l0 k1 t483 y481 t477 t484 a0_0 l0_1 l0_2 l0_3)) = some r:=H
         have A21:=mk_ A210
         clear A210
         replace H:=Option.bind_eq_some_iff.mp H
         obtain ⟨t484,A220,H⟩:=H
         replace H : (spec_l19Up.l0 k1 t483 y481 t477 t484 a0_0 l0_1 l0_2 l0_3) = some r:=H
         have A22:=mk_ A220
         clear A220
         have H':=mk_ H
         clear H
         have p19 : 0 ≤ (x7_1 : Int):=od_ qa_
         have q19 : (x7_1 : Int) < ((x5_1.length : Int) : Int):=od_ qa_
         obtain ⟨go19,co19,eo19,gb19,gl19,cl19,HG19⟩:=Kd.R_form HO_5.out (by omega)
         (first|cases eo19|(injection eo19 with ea_ en_ ec_;(first|subst ea_|(injection ea_ with ea_;subst ea_));subst ec_;clear en_))
         have GB19:=mk_ gb19
         have GG19:=mk_ HG19
         clear gb19 gl19 HG19
         obtain ⟨hx19_0,hf19_0⟩:=Kd.R_celln false HO_5.out (x7_1 : Int) p19 q19
         replace p19:=eq_true p19
         replace q19:=eq_true q19
         have HP23:=Kd.R_putg HO_5.out (x7_1 : Int) true
         go_wp2_with (first|((with_reducible refine gate_store (t:=4) (p:=31) rfl ?_);refine store_event (t:=4) (p:=31) (v:=?vo_w24) (w1:=(wr.setCell ⟨go19,(x7_1 : Int).toNat,none⟩ (.bool true))) ?hg ?ho ?hn ?hr ?_;(case ho => rfl);(case hg => rfl);(case hn => rfl);(case hr => first|(go_simp;done)|(go_simp;rfl));intro w24 hw;have hg : wr.grownBy w24 (some go19):=(by rw [hw];exact HP23.2);have hp_ : Kd.R Kd.bool 4 w24 w.heap.size (fun _ => True) (.slice (some ⟨go19,0,none⟩) x5_1.length co19) y481:=(by rw [hw,Ny481.out];exact HP23.1);clear HP23;have n0_:=mk_ (hp_);have n1_:=mk_ (Kd.R_over' (v:=(.slice (some ⟨go19,0,none⟩) x5_1.length co19)) (qr_ HO_6) (Kd.R_typed HO_5.out) (by decide) hg);have n2_:=mk_ (blk_grown (g:=gb473) (o:=.cells #[.int .i64 a0_0,.slice A0_1 l0_1.length c0_1,.slice A0_2 l0_2.length c0_2,.slice A0_3 l0_3.length c0_3] 30 (0,0)) (qk_ BK473) hg (Kd.R_ne HO_5.out BK473.out (by decide)));have n3_:=mk_ ((by rw [hw];exact bs_ (HB.out) GB19.out : Below w.heap.size w w24));clear HO_5;clear HO_6;clear BK473;clear HB;have HO_5:=n0_;have HO_6:=n1_;have BK473:=n2_;have HB:=n3_;clear n0_ n1_ n2_ n3_;clear hg hw hp_;have hcz25_0 : w24.cell? ⟨gb473,0,none⟩ = some (.int .i64 a0_0):=(bc_ BK473.out 0).trans rfl;have hcz25_1 : w24.cell? ⟨gb473,1,none⟩ = some (.slice A0_1 l0_1.length c0_1):=(bc_ BK473.out 1).trans rfl;have hcz25_2 : w24.cell? ⟨gb473,2,none⟩ = some (.slice A0_2 l0_2.length c0_2):=(bc_ BK473.out 2).trans rfl;have hcz25_3 : w24.cell? ⟨gb473,3,none⟩ = some (.slice A0_3 l0_3.length c0_3):=(bc_ BK473.out 3).trans rfl;have hfz25_0:=bf_ BK473.out 0;have hfz25_1:=bf_ BK473.out 1;have hfz25_2:=bf_ BK473.out 2;have hfz25_3:=bf_ BK473.out 3;have p482 : 0 ≤ (x7_1 : Int):=od_ qa_;have q482 : x7_1 < (l0_1.length : Int):=od_ qa_;obtain ⟨ad482,e482,hx482_0,hx482_1,hx482_2⟩:=at_T51 HR0_1.out x7_1 p482 q482;cases e482;replace hx482_0:=(HB.out.cell (wl_ w _ hx482_0)).trans hx482_0;replace hx482_1:=(HB.out.cell (wl_ w _ hx482_1)).trans hx482_1;replace hx482_2:=(HB.out.cell (wl_ w _ hx482_2)).trans hx482_2;replace p482:=eq_true p482;replace q482:=eq_true q482)|((with_reducible refine gate_callee (f:=88) rfl ?_);refine goesL_ (some 38) rfl rfl Try.func88 (by kernel_rfl) rfl #[.agg #[.int .i64 ((rd_T51 l0_1 x7_1).f0),.int .i64 ((rd_T51 l0_1 x7_1).f1),.int .i64 ((rd_T51 l0_1 x7_1).f2)],.int .i64 x1_1] rfl qm_ ?_;(with_reducible refine (spec_l7Other.calls ((rd_T51 l0_1 x7_1).f0) ((rd_T51 l0_1 x7_1).f1) ((rd_T51 l0_1 x7_1).f2) x1_1 t483 _ A21.out).mono ?_);rintro e w26 ⟨rfl,hb⟩;refine ⟨_,rfl,?_⟩;have n0_:=mk_ (rb_ (qr_ HO_5) hb);have n1_:=mk_ (rb_ (qr_ HO_6) hb);have n2_:=mk_ (blk_below (g:=gb473) (o:=.cells #[.int .i64 a0_0,.slice (some ad482) l0_1.length c0_1,.slice A0_2 l0_2.length c0_2,.slice A0_3 l0_3.length c0_3] 30 (0,0)) (qk_ BK473) hb);have n3_:=mk_ (st_ (qc_ HB GE473) hb);clear HO_5;clear HO_6;clear BK473;clear HB;have HO_5:=n0_;have HO_6:=n1_;have BK473:=n2_;have HB:=n3_;clear n0_ n1_ n2_ n3_;(try clear hb);(try clear hb2);(try clear hk);(try clear hi);have hcz27_0 : w26.cell? ⟨gb473,0,none⟩ = some (.int .i64 a0_0):=(bc_ BK473.out 0).trans rfl;have hcz27_1 : w26.cell? ⟨gb473,1,none⟩ = some (.slice (some ad482) l0_1.length c0_1):=(bc_ BK473.out 1).trans rfl;have hcz27_2 : w26.cell? ⟨gb473,2,none⟩ = some (.slice A0_2 l0_2.length c0_2):=(bc_ BK473.out 2).trans rfl;have hcz27_3 : w26.cell? ⟨gb473,3,none⟩ = some (.slice A0_3 l0_3.length c0_3):=(bc_ BK473.out 3).trans rfl;have hfz27_0:=bf_ BK473.out 0;have hfz27_1:=bf_ BK473.out 1;have hfz27_2:=bf_ BK473.out 2;have hfz27_3:=bf_ BK473.out 3)|((with_reducible refine gate_callee (f:=86) rfl ?_);refine goesL_ (some 28) rfl rfl Try.func86 (by kernel_rfl) rfl #[.slice (some ad482) l0_1.length c0_1,.slice Ao14 t477.length co14,.int .i64 t483] rfl qm_ ?_;(with_reducible refine (spec_l7Up.calls k1 _ _ l0_1 _ _ t477 t483 t484 _ ?side1 ?side2 ?side3 ?side4 A22.out).mono ?_);(case side1 => exact qn_ HR0_1 HB);(case side2 => exact HC0_1.out);(case side3 => repeat (first|exact (rr_ HO_6.out).2.2|(with_reducible refine ca_ ?_ _)|(with_reducible refine cn_ ?_ _)|(with_reducible refine cd_ ?_)));(case side4 => exact (rr_ HO_6.out).2.1);rintro e w28 ⟨rfl,hb⟩;refine ⟨_,rfl,?_⟩;have n0_:=mk_ (rb_ (qr_ HO_5) hb);have n1_:=mk_ (rb_ (qr_ HO_6) hb);have n2_:=mk_ (blk_below (g:=gb473) (o:=.cells #[.int .i64 a0_0,.slice (some ad482) l0_1.length c0_1,.slice A0_2 l0_2.length c0_2,.slice A0_3 l0_3.length c0_3] 30 (0,0)) (qk_ BK473) hb);have n3_:=mk_ (st_ (qc_ HB GE473) hb);clear HO_5;clear HO_6;clear BK473;clear HB;have HO_5:=n0_;have HO_6:=n1_;have BK473:=n2_;have HB:=n3_;clear n0_ n1_ n2_ n3_;(try clear hb);(try clear hb2);(try clear hk);(try clear hi)))
         go_roundg k1
         case measure => have:=HK1.out;omega
         case rel => exact ⟨(t483),(y481),(t484),qf_,qf_,H',⟨by have:=HK1.out;omega⟩,⟨qr_ HO_5⟩,⟨qr_ HO_6⟩,⟨qk_ BK473⟩,⟨u1_ HB GE473⟩⟩
        ·rw [if_neg c20] at H
         exact absurd H (by simp)
       ·rw [if_neg c18] at H
        exact absurd H (by simp)
      ·rw [if_neg c17] at H
       exact absurd H (by simp)
     ·rw [if_neg c16] at H
      have c16b0 : decide (0 ≤ x7_1) = false:=decide_eq_false c16
      clear c16
      obtain rfl:=Option.some.inj H
      go_wp2
      go_ret
      exact ⟨_,qe_,qr_ HO_5,u1_ HB GE473⟩
  ·rw [if_neg c4] at H
   exact absurd H (by simp)
 ·rw [if_neg c3] at H
  exact absurd H (by simp)

/-! ### spec_l19List: function 70 -/
def spec_l19List.l0 : Nat → List Bool → List Int → Int → Option (List Int)
 | 0,_,_,_ => none
 | k + 1,x0,x3,x4 => if x4 < (x0.length : Int) then (if 0 ≤ x4 then (if rdOf false x0 x4 = true then (if x3.length < 17592186044416 then (spec_l19List.l0 k x0 (x3 ++ [x4]) (wrap64 (x4 + 1))) else (none)) else (spec_l19List.l0 k x0 x3 (wrap64 (x4 + 1)))) else (none)) else (some x3)
def spec_l19List.f (k : Nat) (l0 : List Bool) : Option (List Int):=spec_l19List.l0 k l0 (([] : List Int)) 0
theorem spec_l19List.mono_l : ∀ k,(∀ y0 y1 y2,LeO (spec_l19List.l0 k y0 y1 y2) (spec_l19List.l0 (k + 1) y0 y1 y2))
 | 0 => fun _ _ _ r h => by simp [spec_l19List.l0] at h
 | k + 1 => by
  have ih0:=spec_l19List.mono_l k
  ·intro y0 y1 y2
   unfold spec_l19List.l0
   repeat' first
   | (with_reducible exact ih0 _ _ _)
   | (with_reducible exact LeO.refl _)
   | (with_reducible exact LeO.none _)
   | (with_reducible refine LeO.ite ?_ ?_)
   | (with_reducible refine LeO.bind ?_ (fun _ => ?_))
   | exact ih0 _ _ _
   | exact LeO.none _
   | refine LeO.ite ?_ ?_
   | refine LeO.bind ?_ (fun _ => ?_)
theorem spec_l19List.mono : ∀ a0 k,LeO (spec_l19List.f k a0) (spec_l19List.f (k + 1) a0):=by
 intro a0 k
 have ih0:=spec_l19List.mono_l k
 unfold spec_l19List.f
 repeat' first
   | (with_reducible exact ih0 _ _ _)
   | (with_reducible exact LeO.refl _)
   | (with_reducible exact LeO.none _)
   | (with_reducible refine LeO.ite ?_ ?_)
   | (with_reducible refine LeO.bind ?_ (fun _ => ?_))
   | exact ih0 _ _ _
   | exact LeO.none _
   | refine LeO.ite ?_ ?_
   | refine LeO.bind ?_ (fun _ => ?_)
set_option maxHeartbeats 8000000 in
set_option maxRecDepth 100000 in
theorem spec_l19List.calls (k : Nat) (A0 : Option Addr) (c0 : Nat) (l0 : List Bool) (r : List Int) (w : World) (hr0 : Kd.C Kd.bool w A0 l0.length l0) (hc0 : l0.length ≤ c0) (h : spec_l19List.f k l0 = some r) :
  Calls Try.prog 70 #[.slice A0 l0.length c0] w fun e w' => ∃ v0_ : Value,e = .returned (v0_) ∧ Kd.R (Kd.int .i64) 3 w' w.heap.size (fun _ => True) v0_ r ∧ Below w.heap.size w w':=by
 have HR0:=mk_ hr0
 have HC0:=mk_ hc0
 clear hr0 hc0
 have HB:=mk_ (Below.refl w.heap.size w)
 have H : (spec_l19List.l0 k l0 (([] : List Int)) 0) = some r:=h
 clear h
 obtain ⟨y485,hy485⟩ : ∃ y_ : List Int,y_ = (([] : List Int)):=⟨_,rfl⟩
 replace H : (spec_l19List.l0 k l0 y485 0) = some r:=by first|(rw [hy485];with_reducible exact H)|(have H2_:=(Option.bind_some _ _).symm.trans H;rw [hy485];with_reducible exact H2_)|(have H2_:=(Option.bind_some _ _).symm.trans H;with_reducible exact H2_)|with_reducible exact H|(rw [hy485];exact H)|exact H
 have Ny485:=mk_ hy485
 clear hy485
 have H':=mk_ H
 clear H
 go_enter Try.func70,Try.ntmps70
 go_wp2_with (first|((with_reducible refine gate_dst (N:=5) rfl ?_);refine Kd.R_lit (Kd.int .i64) _ 3 ?hg (N:=5) ?hd (xs:=([] : List Int)) (inner:=[]) (ok:=fun _ => True) (okp:=fun _ => True) ?hr ?hp (fun _ hk => hk) trivial (Below.refl _ _) (Nat.le_refl _) (by simp) ?_;(case hd => rfl);(case hg => rfl);(case hr => first|(go_simp;done)|(go_simp;rfl));(case hp => exact (Reps.none _ _));intro v486 w2 ho3 hb hg_ hnew_;clear hg_ hnew_;(first|rw [← Ny485.out] at ho3|(simp only [Int.reduceToNat] at ho3;rw [← Ny485.out] at ho3));have n0_:=mk_ (Kd.R_lower ho3 (bz_ (qb_ HB)));have n1_:=mk_ (st_ (qb_ HB) hb);clear HB;have HO487:=n0_;have HB:=n1_;clear n0_ n1_;clear hb ho3))
 go_loopg [3,4] k (fun kq v3 v4 w' => ∃ (x3_1 : List Int) (x4_1 : Int),v4 = .int .i64 x4_1 ∧ Aside0 (spec_l19List.l0 kq l0 x3_1 x4_1 = some r) ∧ Aside0 (kq ≤ k) ∧ Aside0 (Kd.R (Kd.int .i64) 3 w' w.heap.size (fun _ => True) v3 x3_1) ∧ Aside0 (Below w.heap.size w w'))
 case atStart => exact ⟨(y485),(0),qf_,H',⟨Nat.le_refl _⟩,⟨qr_ HO487⟩,⟨u0_ HB⟩⟩
 case round =>
  clear H'
  try clear p2
  obtain ⟨x3_1,x4_1,rfl,HA,HK1,HO_3,HB⟩:=hrel
  cases gk with
  | zero => exact absurd HA.out (by simp [spec_l19List.l0])
  | succ k1 =>
   have H:=HA.out
   clear HA
   simp only [spec_l19List.l0] at H
   by_cases c4 : x4_1 < (l0.length : Int)
   ·rw [if_pos c4] at H
    have c4b0 : decide (x4_1 < (l0.length : Int)) = true:=decide_eq_true c4
    clear c4
    by_cases c5 : 0 ≤ x4_1
    ·rw [if_pos c5] at H
     have c5b0 : decide (0 ≤ x4_1) = true:=decide_eq_true c5
     clear c5
     obtain ⟨bq6,hbq6⟩ : ∃ b_ : Bool,b_ = (rdOf false l0 x4_1):=⟨_,rfl⟩
     replace H : (if bq6 = true then (if x3_1.length < 17592186044416 then (spec_l19List.l0 k1 l0 (x3_1 ++ [x4_1]) (wrap64 (x4_1 + 1))) else (none)) else (spec_l19List.l0 k1 l0 x3_1 (wrap64 (x4_1 + 1)))) = some r:=by rw [← hbq6] at H;exact H
     have Nbq6:=mk_ hbq6
     clear hbq6
     by_cases c7 : bq6 = true
     ·subst c7
      have H1 : (if x3_1.length < 17592186044416 then (spec_l19List.l0 k1 l0 (x3_1 ++ [x4_1]) (wrap64 (x4_1 + 1))) else (none)) = some r:=by rw [if_pos rfl] at H;exact H
      clear H
      have H:=H1
      clear H1
      by_cases c8 : x3_1.length < 17592186044416
      ·rw [if_pos c8] at H
       have LMc8:=mk_ c8
       clear c8
       obtain ⟨y489,hy489⟩ : ∃ y_ : List Int,y_ = (x3_1 ++ [x4_1]):=⟨_,rfl⟩
       replace H : (spec_l19List.l0 k1 l0 y489 (wrap64 (x4_1 + 1))) = some r:=by first|(rw [hy489];with_reducible exact H)|(have H2_:=(Option.bind_some _ _).symm.trans H;rw [hy489];with_reducible exact H2_)|(have H2_:=(Option.bind_some _ _).symm.trans H;with_reducible exact H2_)|with_reducible exact H|(rw [hy489];exact H)|exact H
       have Ny489:=mk_ hy489
       clear hy489
       have H':=mk_ H
       clear H
       have p488 : 0 ≤ (x4_1 : Int):=od_ qa_
       have q488 : x4_1 < (l0.length : Int):=od_ qa_
       obtain ⟨ad488,e488,hx488_0⟩:=Kd.at_bool HR0.out x4_1 p488 q488
       (try rw [← Nbq6.out] at hx488_0)
       cases e488
       replace hx488_0:=(HB.out.cell (wl_ w _ hx488_0)).trans hx488_0
       replace p488:=eq_true p488
       replace q488:=eq_true q488
       go_wp2_with (first|((with_reducible refine gate_builtin (b:=.append) (xs:=#[.tmp 16,.tmp 18]) rfl ?_);at_builtin;refine Kd.R_append (Kd.int .i64) (w0:=w) w.heap.size rfl (.tmp 16) (.tmp 18) 23 3 (.int .i64 0) 8 rfl Try.underlying23 info3 rfl (by decide) (by omega) u3 x3_1 x4_1 [.int .i64 x4_1] (fun _ => True) (fun _ => False) rfl rfl ?aP (fun _ hk => hk.elim) ?aF ?aO ?aB ?aS ?aL ?_;(case aP => exact rfl);(case aB => exact (qb_ HB));(case aF => exact (fun _ _ => trivial));(case aO => exact (qr_ HO_3));(case aS => exact (bz_ (qb_ HB)));(case aL => have:=LMc8.out;omega);intro v490 w9 ho hb hg hat;rw [← Ny489.out] at ho;have n0_:=mk_ (hb);have n1_:=mk_ (ho);clear HB;clear HO_3;have HB:=n0_;have HO491:=n1_;clear n0_ n1_;clear ho hb hg hat))
       go_roundg k1
       case measure => have:=HK1.out;omega
       case rel => exact ⟨(y489),(wrap64 (x4_1 + 1)),qf_,H',⟨by have:=HK1.out;omega⟩,⟨qr_ HO491⟩,⟨u0_ HB⟩⟩
      ·rw [if_neg c8] at H
       exact absurd H (by simp)
     ·replace c7:=Bool.eq_false_iff.mpr c7
      subst c7
      have H1 : (spec_l19List.l0 k1 l0 x3_1 (wrap64 (x4_1 + 1))) = some r:=by rw [if_neg (show ¬ (false = true) by decide)] at H;exact H
      clear H
      have H:=H1
      clear H1
      have H':=mk_ H
      clear H
      have p488 : 0 ≤ (x4_1 : Int):=od_ qa_
      have q488 : x4_1 < (l0.length : Int):=od_ qa_
      obtain ⟨ad488,e488,hx488_0⟩:=Kd.at_bool HR0.out x4_1 p488 q488
      (try rw [← Nbq6.out] at hx488_0)
      cases e488
      replace hx488_0:=(HB.out.cell (wl_ w _ hx488_0)).trans hx488_0
      replace p488:=eq_true p488
      replace q488:=eq_true q488
      go_wp2
      go_roundg k1
      case measure => have:=HK1.out;omega
      case rel => exact ⟨(x3_1),(wrap64 (x4_1 + 1)),qf_,H',⟨by have:=HK1.out;omega⟩,⟨qr_ HO_3⟩,⟨u0_ HB⟩⟩
    ·rw [if_neg c5] at H
     exact absurd H (by simp)
   ·rw [if_neg c4] at H
    have c4b0 : decide (x4_1 < (l0.length : Int)) = false:=decide_eq_false c4
    clear c4
    obtain rfl:=Option.some.inj H
    go_wp2
    go_ret
    exact ⟨_,qe_,qr_ HO_3,u0_ HB⟩

/-! ### spec_TreeWay: function 36 -/
mutual
def spec_TreeWay.j0 : Nat → Int → Int → Bool → Int → List (S51) → List Int → List Int → Option (List Int)
 | 0,_,_,_,_,_,_,_ => none
 | k + 1,x1,x2,x24,x493000,x493001,x493002,x493003 => if x24 = true then (some (([] : List Int))) else (if 0 ≤ x1 then (if x1 < (x493002.length : Int) then ((spec_l7Root.f k x493000 x493001 (rd x493002 x1)).bind fun t500 => (if 0 ≤ x2 then (if x2 < (x493002.length : Int) then ((spec_l7Root.f k x493000 x493001 (rd x493002 x2)).bind fun t502 => (if t500 = t502 then ((spec_l19Up.f k x493000 x493001 x493002 x493003 (rd x493002 x1)).bind fun t507 => ((spec_l19Up.f k x493000 x493001 x493002 x493003 (rd x493002 x2)).bind fun t511 => (spec_TreeWay.l0 k t507 t511 0))) else (some (([] : List Int))))) else (none)) else (none))) else (none)) else (none))
def spec_TreeWay.l0 : Nat → List Bool → List Bool → Int → Option (List Int)
 | 0,_,_,_ => none
 | k + 1,x7,x8,x9 => if x9 < (x7.length : Int) then (if 0 ≤ x9 then (if x9 < (x8.length : Int) then (spec_TreeWay.l0 k (x7.set (x9 : Int).toNat ((rdOf false x7 x9) != (rdOf false x8 x9))) x8 (wrap64 (x9 + 1))) else (none)) else (none)) else ((spec_l19List.f k x7).bind fun t517 => (some t517))
end
def spec_TreeWay.f (k : Nat) (a0_0 : Int) (l0_1 : List (S51)) (l0_2 : List Int) (l0_3 : List Int) (a1 : Int) (a2 : Int) : Option (List Int):=(spec_NetValid.f k a0_0 l0_1 l0_2 l0_3).bind fun t493 => (if t493 = true then ((spec_l19Station.f a0_0 l0_1 l0_2 l0_3 a1).bind fun t494 => (if t494 = true then ((spec_l19Station.f a0_0 l0_1 l0_2 l0_3 a2).bind fun t495 => (spec_TreeWay.j0 k a1 a2 (!t495) a0_0 l0_1 l0_2 l0_3)) else (spec_TreeWay.j0 k a1 a2 true a0_0 l0_1 l0_2 l0_3))) else (spec_TreeWay.j0 k a1 a2 true a0_0 l0_1 l0_2 l0_3))
theorem spec_TreeWay.mono_l : ∀ k,(∀ y0 y1 y2 y3 y4 y5 y6,LeO (spec_TreeWay.j0 k y0 y1 y2 y3 y4 y5 y6) (spec_TreeWay.j0 (k + 1) y0 y1 y2 y3 y4 y5 y6)) ∧ (∀ y0 y1 y2,LeO (spec_TreeWay.l0 k y0 y1 y2) (spec_TreeWay.l0 (k + 1) y0 y1 y2))
 | 0 => ⟨fun _ _ _ _ _ _ _ r h => by simp [spec_TreeWay.j0] at h,fun _ _ _ r h => by simp [spec_TreeWay.l0] at h⟩
 | k + 1 => by
  obtain ⟨ih0,ih1⟩:=spec_TreeWay.mono_l k
  refine ⟨?_,?_⟩
  ·intro y0 y1 y2 y3 y4 y5 y6
   unfold spec_TreeWay.j0
   repeat' first
   | (with_reducible exact ih0 _ _ _ _ _ _ _)
   | (with_reducible exact ih1 _ _ _)
   | (with_reducible exact spec_NetValid.mono _ _ _ _ _)
   | (with_reducible exact spec_l19List.mono _ _)
   | (with_reducible exact spec_l19Up.mono _ _ _ _ _ _)
   | (with_reducible exact spec_l7Root.mono _ _ _ _)
   | (with_reducible exact LeO.refl _)
   | (with_reducible exact LeO.none _)
   | (with_reducible refine LeO.ite ?_ ?_)
   | (with_reducible refine LeO.bind ?_ (fun _ => ?_))
   | exact ih0 _ _ _ _ _ _ _
   | exact ih1 _ _ _
   | exact spec_NetValid.mono _ _ _ _ _
   | exact spec_l19List.mono _ _
   | exact spec_l19Up.mono _ _ _ _ _ _
   | exact spec_l7Root.mono _ _ _ _
   | exact LeO.none _
   | refine LeO.ite ?_ ?_
   | refine LeO.bind ?_ (fun _ => ?_)
  ·intro y0 y1 y2
   unfold spec_TreeWay.l0
   repeat' first
   | (with_reducible exact ih0 _ _ _ _ _ _ _)
   | (with_reducible exact ih1 _ _ _)
   | (with_reducible exact spec_NetValid.mono _ _ _ _ _)
   | (with_reducible exact spec_l19List.mono _ _)
   | (with_reducible exact spec_l19Up.mono _ _ _ _ _ _)
   | (with_reducible exact spec_l7Root.mono _ _ _ _)
   | (with_reducible exact LeO.refl _)
   | (with_reducible exact LeO.none _)
   | (with_reducible refine LeO.ite ?_ ?_)
   | (with_reducible refine LeO.bind ?_ (fun _ => ?_))
   | exact ih0 _ _ _ _ _ _ _
   | exact ih1 _ _ _
   | exact spec_NetValid.mono _ _ _ _ _
   | exact spec_l19List.mono _ _
   | exact spec_l19Up.mono _ _ _ _ _ _
   | exact spec_l7Root.mono _ _ _ _
   | exact LeO.none _
   | refine LeO.ite ?_ ?_
   | refine LeO.bind ?_ (fun _ => ?_)
theorem spec_TreeWay.mono : ∀ a0 a1 a2 a3 a4 a5 k,LeO (spec_TreeWay.f k a0 a1 a2 a3 a4 a5) (spec_TreeWay.f (k + 1) a0 a1 a2 a3 a4 a5):=by
 intro a0 a1 a2 a3 a4 a5 k
 obtain ⟨ih0,ih1⟩:=spec_TreeWay.mono_l k
 unfold spec_TreeWay.f
 repeat' first
   | (with_reducible exact ih0 _ _ _ _ _ _ _)
   | (with_reducible exact ih1 _ _ _)
   | (with_reducible exact spec_NetValid.mono _ _ _ _ _)
   | (with_reducible exact spec_l19List.mono _ _)
   | (with_reducible exact spec_l19Up.mono _ _ _ _ _ _)
   | (with_reducible exact spec_l7Root.mono _ _ _ _)
   | (with_reducible exact LeO.refl _)
   | (with_reducible exact LeO.none _)
   | (with_reducible refine LeO.ite ?_ ?_)
   | (with_reducible refine LeO.bind ?_ (fun _ => ?_))
   | exact ih0 _ _ _ _ _ _ _
   | exact ih1 _ _ _
   | exact spec_NetValid.mono _ _ _ _ _
   | exact spec_l19List.mono _ _
   | exact spec_l19Up.mono _ _ _ _ _ _
   | exact spec_l7Root.mono _ _ _ _
   | exact LeO.none _
   | refine LeO.ite ?_ ?_
   | refine LeO.bind ?_ (fun _ => ?_)
def spec_TreeWay.T3 : Bool × List (List Nat × List Nat):=(true,[([],[]),([0],[0]),([],[]),([2],[2]),([],[]),([4],[4]),([],[]),([5,6],[5,6]),([7],[7]),([1,3,8],[1,3,8]),([],[]),([10],[10]),([],[]),([12],[12]),([],[]),([14],[14]),([],[]),([15,16],[15,16]),([17],[17]),([11,13,18,9],[11,13,18]),([9,19],[9,19])])
def spec_TreeWay.B3 : List Nat:=[0,1,0,4,0,16,0,112,240,511,0,1024,0,4096,0,16384,0,114688,245760,524287,1048575]
theorem spec_TreeWay.tab3 : rtab .any (opsOf Try.f36 3) = spec_TreeWay.T3:=by kernel_rfl
theorem spec_TreeWay.bits3 : waitsOk spec_TreeWay.T3.2 spec_TreeWay.B3 = true:=by kernel_rfl
def spec_TreeWay.T5 : Bool × List (List Nat × List Nat):=(true,[([],[]),([],[]),([1],[1]),([],[]),([2,3],[2,3]),([4],[4]),([0,5],[0,5]),([6,6,0,1,2,3,4,5,6],[6])])
def spec_TreeWay.B5 : List Nat:=[0,0,2,0,14,30,63,127]
theorem spec_TreeWay.tab5 : rtab .any (opsOf Try.f36 5) = spec_TreeWay.T5:=by kernel_rfl
theorem spec_TreeWay.bits5 : waitsOk spec_TreeWay.T5.2 spec_TreeWay.B5 = true:=by kernel_rfl
def spec_TreeWay.T6 : Bool × List (List Nat × List Nat):=(true,[([],[]),([],[]),([1],[1]),([],[]),([2,3],[2,3]),([4],[4]),([0,5],[0,5]),([6,6,0,1,2,3,4,5,6],[6])])
def spec_TreeWay.B6 : List Nat:=[0,0,2,0,14,30,63,127]
theorem spec_TreeWay.tab6 : rtab .any (opsOf Try.f36 6) = spec_TreeWay.T6:=by kernel_rfl
theorem spec_TreeWay.bits6 : waitsOk spec_TreeWay.T6.2 spec_TreeWay.B6 = true:=by kernel_rfl
def spec_TreeWay.T10 : Bool × List (List Nat × List Nat):=(true,[([],[]),([],[]),([],[]),([],[]),([2,3],[2,3]),([4],[4]),([],[]),([],[]),([6,7],[6,7]),([8],[8]),([5,9],[5,9]),([0,1,0,1,2,3,4,5,6,7,8,9,10],[0,1]),([11,10,0,1,2,3,4,5,6,7,8,9,10],[10,11])])
def spec_TreeWay.B10 : List Nat:=[0,0,0,0,12,28,0,0,192,448,1020,2047,4095]
theorem spec_TreeWay.tab10 : rtab .any (opsOf Try.f36 10) = spec_TreeWay.T10:=by kernel_rfl
theorem spec_TreeWay.bits10 : waitsOk spec_TreeWay.T10.2 spec_TreeWay.B10 = true:=by kernel_rfl
set_option maxHeartbeats 8000000 in
set_option maxRecDepth 100000 in
theorem spec_TreeWay.calls (k : Nat) (a0_0 : Int) (A0_1 : Option Addr) (c0_1 : Nat) (l0_1 : List (S51)) (A0_2 : Option Addr) (c0_2 : Nat) (l0_2 : List Int) (A0_3 : Option Addr) (c0_3 : Nat) (l0_3 : List Int) (a1 : Int) (a2 : Int) (r : List Int) (w : World) (hr0_1 : Kd.C k51 w A0_1 l0_1.length l0_1) (hc0_1 : l0_1.length ≤ c0_1) (hr0_2 : Kd.C (Kd.int .i64) w A0_2 l0_2.length l0_2) (hc0_2 : l0_2.length ≤ c0_2) (hr0_3 : Kd.C (Kd.int .i64) w A0_3 l0_3.length l0_3) (hc0_3 : l0_3.length ≤ c0_3) (h : spec_TreeWay.f k a0_0 l0_1 l0_2 l0_3 a1 a2 = some r) :
  Calls Try.prog 36 #[.agg #[.int .i64 a0_0,.slice A0_1 l0_1.length c0_1,.slice A0_2 l0_2.length c0_2,.slice A0_3 l0_3.length c0_3],.int .i64 a1,.int .i64 a2] w fun e w' => ∃ v0_ : Value,e = .returned (v0_) ∧ Kd.R (Kd.int .i64) 3 w' w.heap.size (fun _ => True) v0_ r ∧ Below w.heap.size w w':=by
 have hu30:=Try.underlying30
 have HR0_1:=mk_ hr0_1
 have HC0_1:=mk_ hc0_1
 clear hr0_1 hc0_1
 have HR0_2:=mk_ hr0_2
 have HC0_2:=mk_ hc0_2
 clear hr0_2 hc0_2
 have HR0_3:=mk_ hr0_3
 have HC0_3:=mk_ hc0_3
 clear hr0_3 hc0_3
 have HB:=mk_ (Below.refl w.heap.size w)
 have H : ((spec_NetValid.f k a0_0 l0_1 l0_2 l0_3).bind fun t493 => (if t493 = true then ((spec_l19Station.f a0_0 l0_1 l0_2 l0_3 a1).bind fun t494 => (if t494 = true then ((spec_l19Station.f a0_0 l0_1 l0_2 l0_3 a2).bind fun t495 => (spec_TreeWay.j0 k a1 a2 (!t495) a0_0 l0_1 l0_2 l0_3)) else (spec_TreeWay.j0 k a1 a2 true a0_0 l0_1 l0_2 l0_3))) else (spec_TreeWay.j0 k a1 a2 true a0_0 l0_1 l0_2 l0_3))) = some r:=h
 clear h
 have HC4:=mk_ H
 clear H
 go_enter Try.func36,Try.ntmps36
 go_upto_region 1 with (first|((with_reducible refine gate_dst (N:=3) rfl ?_);refine box_event ?hg (N:=3) ?hd (cs:=#[.int .i64 a0_0,.slice A0_1 l0_1.length c0_1,.slice A0_2 l0_2.length c0_2,.slice A0_3 l0_3.length c0_3]) (t:=30) ?hr ?_;(case hd => rfl);(case hg => rfl);(case hr => first|(go_simp;done)|(go_simp;rfl));intro gb492 hg w5 hbox hb;have n0_:=mk_ (st_ (qb_ HB) hb);have n1_:=mk_ (hbox);have n2_:=mk_ ((by rw [hg];exact (bz_ (qb_ HB)) : w.heap.size ≤ gb492));have n3_:=mk_ ((by rw [hg];exact (bz_ (qb_ HB)) : w.heap.size ≤ gb492));clear HB;have HB:=n0_;have BK492:=n1_;have GW492:=n2_;have GE492:=n3_;clear n0_ n1_ n2_ n3_;clear hb hbox hg))
 (try simp only [Act.put,sx_,sy_,sz_])
 go_cut [24] (fun v24 wc => ∃ (kq : Nat) (x24_3 : Bool),v24 = .bool x24_3 ∧ Aside0 (spec_TreeWay.j0 kq a1 a2 x24_3 a0_0 l0_1 l0_2 l0_3 = some r) ∧ Aside0 (kq ≤ k) ∧ Aside0 (wc.heap[gb492]? = some (.cells #[.int .i64 a0_0,(.slice A0_1 l0_1.length c0_1),(.slice A0_2 l0_2.length c0_2),(.slice A0_3 l0_3.length c0_3)] 30 (0,0))) ∧ Aside0 (Below w.heap.size w wc))
 case first =>
  have H:=HC4.out
  clear HC4
  replace H:=Option.bind_eq_some_iff.mp H
  obtain ⟨t493,A60,H⟩:=H
  replace H : (if t493 = true then ((spec_l19Station.f a0_0 l0_1 l0_2 l0_3 a1).bind fun t494 => (if t494 = true then ((spec_l19Station.f a0_0 l0_1 l0_2 l0_3 a2).bind fun t495 => (spec_TreeWay.j0 k a1 a2 (!t495) a0_0 l0_1 l0_2 l0_3)) else (spec_TreeWay.j0 k a1 a2 true a0_0 l0_1 l0_2 l0_3))) else (spec_TreeWay.j0 k a1 a2 true a0_0 l0_1 l0_2 l0_3)) = some r:=H
  have A6:=mk_ A60
  clear A60
  by_cases c7 : t493 = true
  ·subst c7
   have H1 : ((spec_l19Station.f a0_0 l0_1 l0_2 l0_3 a1).bind fun t494 => (if t494 = true then ((spec_l19Station.f a0_0 l0_1 l0_2 l0_3 a2).bind fun t495 => (spec_TreeWay.j0 k a1 a2 (!t495) a0_0 l0_1 l0_2 l0_3)) else (spec_TreeWay.j0 k a1 a2 true a0_0 l0_1 l0_2 l0_3))) = some r:=by rw [if_pos rfl] at H;exact H
   clear H
   have H:=H1
   clear H1
   replace H:=Option.bind_eq_some_iff.mp H
   obtain ⟨t494,A80,H⟩:=H
   replace H : (if t494 = true then ((spec_l19Station.f a0_0 l0_1 l0_2 l0_3 a2).bind fun t495 => (spec_TreeWay.j0 k a1 a2 (!t495) a0_0 l0_1 l0_2 l0_3)) else (spec_TreeWay.j0 k a1 a2 true a0_0 l0_1 l0_2 l0_3)) = some r:=H
   have A8:=mk_ A80
   clear A80
   by_cases c9 : t494 = true
   ·subst c9
    have H1 : ((spec_l19Station.f a0_0 l0_1 l0_2 l0_3 a2).bind fun t495 => (spec_TreeWay.j0 k a1 a2 (!t495) a0_0 l0_1 l0_2 l0_3)) = some r:=by rw [if_pos rfl] at H;exact H
    clear H
    have H:=H1
    clear H1
    replace H:=Option.bind_eq_some_iff.mp H
    obtain ⟨t495,A100,H⟩:=H
    replace H : (spec_TreeWay.j0 k a1 a2 (!t495) a0_0 l0_1 l0_2 l0_3) = some r:=H
    have A10:=mk_ A100
    clear A100
    have H':=mk_ H
    clear H
    have hcz11_0 : w5.cell? ⟨gb492,0,none⟩ = some (.int .i64 a0_0):=(bc_ BK492.out 0).trans rfl
    have hcz11_1 : w5.cell? ⟨gb492,1,none⟩ = some (.slice A0_1 l0_1.length c0_1):=(bc_ BK492.out 1).trans rfl
    have hcz11_2 : w5.cell? ⟨gb492,2,none⟩ = some (.slice A0_2 l0_2.length c0_2):=(bc_ BK492.out 2).trans rfl
    have hcz11_3 : w5.cell? ⟨gb492,3,none⟩ = some (.slice A0_3 l0_3.length c0_3):=(bc_ BK492.out 3).trans rfl
    have hfz11_0:=bf_ BK492.out 0
    have hfz11_1:=bf_ BK492.out 1
    have hfz11_2:=bf_ BK492.out 2
    have hfz11_3:=bf_ BK492.out 3
    go_wp2_with (first|((with_reducible refine gate_callee (f:=13) rfl ?_);refine goesL_ (some 11) rfl rfl Try.func13 (by kernel_rfl) rfl #[.agg #[.int .i64 a0_0,.slice A0_1 l0_1.length c0_1,.slice A0_2 l0_2.length c0_2,.slice A0_3 l0_3.length c0_3]] rfl qm_ ?_;(with_reducible refine (spec_NetValid.calls k a0_0 _ _ l0_1 _ _ l0_2 _ _ l0_3 true _ ?side1 ?side2 ?side3 ?side4 ?side5 ?side6 A6.out).mono ?_);(case side1 => exact qn_ HR0_1 HB);(case side2 => exact HC0_1.out);(case side3 => exact qn_ HR0_2 HB);(case side4 => exact HC0_2.out);(case side5 => exact qn_ HR0_3 HB);(case side6 => exact HC0_3.out);rintro e w12 ⟨rfl,hb⟩;refine ⟨_,rfl,?_⟩;have n0_:=mk_ (blk_below (g:=gb492) (o:=.cells #[.int .i64 a0_0,.slice A0_1 l0_1.length c0_1,.slice A0_2 l0_2.length c0_2,.slice A0_3 l0_3.length c0_3] 30 (0,0)) (qk_ BK492) hb);have n1_:=mk_ (st_ (qc_ HB GE492) hb);clear BK492;clear HB;have BK492:=n0_;have HB:=n1_;clear n0_ n1_;(try clear hb);(try clear hb2);(try clear hk);(try clear hi);have hcz13_0 : w12.cell? ⟨gb492,0,none⟩ = some (.int .i64 a0_0):=(bc_ BK492.out 0).trans rfl;have hcz13_1 : w12.cell? ⟨gb492,1,none⟩ = some (.slice A0_1 l0_1.length c0_1):=(bc_ BK492.out 1).trans rfl;have hcz13_2 : w12.cell? ⟨gb492,2,none⟩ = some (.slice A0_2 l0_2.length c0_2):=(bc_ BK492.out 2).trans rfl;have hcz13_3 : w12.cell? ⟨gb492,3,none⟩ = some (.slice A0_3 l0_3.length c0_3):=(bc_ BK492.out 3).trans rfl;have hfz13_0:=bf_ BK492.out 0;have hfz13_1:=bf_ BK492.out 1;have hfz13_2:=bf_ BK492.out 2;have hfz13_3:=bf_ BK492.out 3)|(go_at_call 56;(with_reducible refine (spec_l19Station.calls a0_0 _ _ l0_1 _ _ l0_2 _ _ l0_3 a1 true _ ?side1 ?side2 ?side3 ?side4 ?side5 ?side6 A8.out).mono ?_);(case side1 => exact qn_ HR0_1 HB);(case side2 => exact HC0_1.out);(case side3 => exact qn_ HR0_2 HB);(case side4 => exact HC0_2.out);(case side5 => exact qn_ HR0_3 HB);(case side6 => exact HC0_3.out);rintro e w14 ⟨rfl,hb⟩;have n0_:=mk_ (blk_below (g:=gb492) (o:=.cells #[.int .i64 a0_0,.slice A0_1 l0_1.length c0_1,.slice A0_2 l0_2.length c0_2,.slice A0_3 l0_3.length c0_3] 30 (0,0)) (qk_ BK492) hb);have n1_:=mk_ (st_ (qc_ HB GE492) hb);clear BK492;clear HB;have BK492:=n0_;have HB:=n1_;clear n0_ n1_;(try clear hb);(try clear hb2);(try clear hk);(try clear hi);have hcz15_0 : w14.cell? ⟨gb492,0,none⟩ = some (.int .i64 a0_0):=(bc_ BK492.out 0).trans rfl;have hcz15_1 : w14.cell? ⟨gb492,1,none⟩ = some (.slice A0_1 l0_1.length c0_1):=(bc_ BK492.out 1).trans rfl;have hcz15_2 : w14.cell? ⟨gb492,2,none⟩ = some (.slice A0_2 l0_2.length c0_2):=(bc_ BK492.out 2).trans rfl;have hcz15_3 : w14.cell? ⟨gb492,3,none⟩ = some (.slice A0_3 l0_3.length c0_3):=(bc_ BK492.out 3).trans rfl;have hfz15_0:=bf_ BK492.out 0;have hfz15_1:=bf_ BK492.out 1;have hfz15_2:=bf_ BK492.out 2;have hfz15_3:=bf_ BK492.out 3)|(go_at_call 56;(with_reducible refine (spec_l19Station.calls a0_0 _ _ l0_1 _ _ l0_2 _ _ l0_3 a2 t495 _ ?side1 ?side2 ?side3 ?side4 ?side5 ?side6 A10.out).mono ?_);(case side1 => exact qn_ HR0_1 HB);(case side2 => exact HC0_1.out);(case side3 => exact qn_ HR0_2 HB);(case side4 => exact HC0_2.out);(case side5 => exact qn_ HR0_3 HB);(case side6 => exact HC0_3.out);rintro e w16 ⟨rfl,hb⟩;have n0_:=mk_ (blk_below (g:=gb492) (o:=.cells #[.int .i64 a0_0,.slice A0_1 l0_1.length c0_1,.slice A0_2 l0_2.length c0_2,.slice A0_3 l0_3.length c0_3] 30 (0,0)) (qk_ BK492) hb);have n1_:=mk_ (st_ (qc_ HB GE492) hb);clear BK492;clear HB;have BK492:=n0_;have HB:=n1_;clear n0_ n1_;(try clear hb);(try clear hb2);(try clear hk);(try clear hi)))
    go_meet
    case rel => exact ⟨_,(!t495),qf_,H',⟨by first|omega|exact Nat.le_refl _⟩,⟨qk_ BK492⟩,⟨u1_ HB GE492⟩⟩
   ·replace c9:=Bool.eq_false_iff.mpr c9
    subst c9
    have H1 : (spec_TreeWay.j0 k a1 a2 true a0_0 l0_1 l0_2 l0_3) = some r:=by rw [if_neg (show ¬ (false = true) by decide)] at H;exact H
    clear H
    have H:=H1
    clear H1
    have H':=mk_ H
    clear H
    have hcz17_0 : w5.cell? ⟨gb492,0,none⟩ = some (.int .i64 a0_0):=(bc_ BK492.out 0).trans rfl
    have hcz17_1 : w5.cell? ⟨gb492,1,none⟩ = some (.slice A0_1 l0_1.length c0_1):=(bc_ BK492.out 1).trans rfl
    have hcz17_2 : w5.cell? ⟨gb492,2,none⟩ = some (.slice A0_2 l0_2.length c0_2):=(bc_ BK492.out 2).trans rfl
    have hcz17_3 : w5.cell? ⟨gb492,3,none⟩ = some (.slice A0_3 l0_3.length c0_3):=(bc_ BK492.out 3).trans rfl
    have hfz17_0:=bf_ BK492.out 0
    have hfz17_1:=bf_ BK492.out 1
    have hfz17_2:=bf_ BK492.out 2
    have hfz17_3:=bf_ BK492.out 3
    go_wp2_with (first|((with_reducible refine gate_callee (f:=13) rfl ?_);refine goesL_ (some 11) rfl rfl Try.func13 (by kernel_rfl) rfl #[.agg #[.int .i64 a0_0,.slice A0_1 l0_1.length c0_1,.slice A0_2 l0_2.length c0_2,.slice A0_3 l0_3.length c0_3]] rfl qm_ ?_;(with_reducible refine (spec_NetValid.calls k a0_0 _ _ l0_1 _ _ l0_2 _ _ l0_3 true _ ?side1 ?side2 ?side3 ?side4 ?side5 ?side6 A6.out).mono ?_);(case side1 => exact qn_ HR0_1 HB);(case side2 => exact HC0_1.out);(case side3 => exact qn_ HR0_2 HB);(case side4 => exact HC0_2.out);(case side5 => exact qn_ HR0_3 HB);(case side6 => exact HC0_3.out);rintro e w18 ⟨rfl,hb⟩;refine ⟨_,rfl,?_⟩;have n0_:=mk_ (blk_below (g:=gb492) (o:=.cells #[.int .i64 a0_0,.slice A0_1 l0_1.length c0_1,.slice A0_2 l0_2.length c0_2,.slice A0_3 l0_3.length c0_3] 30 (0,0)) (qk_ BK492) hb);have n1_:=mk_ (st_ (qc_ HB GE492) hb);clear BK492;clear HB;have BK492:=n0_;have HB:=n1_;clear n0_ n1_;(try clear hb);(try clear hb2);(try clear hk);(try clear hi);have hcz19_0 : w18.cell? ⟨gb492,0,none⟩ = some (.int .i64 a0_0):=(bc_ BK492.out 0).trans rfl;have hcz19_1 : w18.cell? ⟨gb492,1,none⟩ = some (.slice A0_1 l0_1.length c0_1):=(bc_ BK492.out 1).trans rfl;have hcz19_2 : w18.cell? ⟨gb492,2,none⟩ = some (.slice A0_2 l0_2.length c0_2):=(bc_ BK492.out 2).trans rfl;have hcz19_3 : w18.cell? ⟨gb492,3,none⟩ = some (.slice A0_3 l0_3.length c0_3):=(bc_ BK492.out 3).trans rfl;have hfz19_0:=bf_ BK492.out 0;have hfz19_1:=bf_ BK492.out 1;have hfz19_2:=bf_ BK492.out 2;have hfz19_3:=bf_ BK492.out 3)|(go_at_call 56;(with_reducible refine (spec_l19Station.calls a0_0 _ _ l0_1 _ _ l0_2 _ _ l0_3 a1 false _ ?side1 ?side2 ?side3 ?side4 ?side5 ?side6 A8.out).mono ?_);(case side1 => exact qn_ HR0_1 HB);(case side2 => exact HC0_1.out);(case side3 => exact qn_ HR0_2 HB);(case side4 => exact HC0_2.out);(case side5 => exact qn_ HR0_3 HB);(case side6 => exact HC0_3.out);rintro e w20 ⟨rfl,hb⟩;have n0_:=mk_ (blk_below (g:=gb492) (o:=.cells #[.int .i64 a0_0,.slice A0_1 l0_1.length c0_1,.slice A0_2 l0_2.length c0_2,.slice A0_3 l0_3.length c0_3] 30 (0,0)) (qk_ BK492) hb);have n1_:=mk_ (st_ (qc_ HB GE492) hb);clear BK492;clear HB;have BK492:=n0_;have HB:=n1_;clear n0_ n1_;(try clear hb);(try clear hb2);(try clear hk);(try clear hi)))
    go_meet
    case rel => exact ⟨_,(true),qf_,H',⟨by first|omega|exact Nat.le_refl _⟩,⟨qk_ BK492⟩,⟨u1_ HB GE492⟩⟩
  ·replace c7:=Bool.eq_false_iff.mpr c7
   subst c7
   have H1 : (spec_TreeWay.j0 k a1 a2 true a0_0 l0_1 l0_2 l0_3) = some r:=by rw [if_neg (show ¬ (false = true) by decide)] at H;exact H
   clear H
   have H:=H1
   clear H1
   have H':=mk_ H
   clear H
   have hcz21_0 : w5.cell? ⟨gb492,0,none⟩ = some (.int .i64 a0_0):=(bc_ BK492.out 0).trans rfl
   have hcz21_1 : w5.cell? ⟨gb492,1,none⟩ = some (.slice A0_1 l0_1.length c0_1):=(bc_ BK492.out 1).trans rfl
   have hcz21_2 : w5.cell? ⟨gb492,2,none⟩ = some (.slice A0_2 l0_2.length c0_2):=(bc_ BK492.out 2).trans rfl
   have hcz21_3 : w5.cell? ⟨gb492,3,none⟩ = some (.slice A0_3 l0_3.length c0_3):=(bc_ BK492.out 3).trans rfl
   have hfz21_0:=bf_ BK492.out 0
   have hfz21_1:=bf_ BK492.out 1
   have hfz21_2:=bf_ BK492.out 2
   have hfz21_3:=bf_ BK492.out 3
   go_wp2_with (first|((with_reducible refine gate_callee (f:=13) rfl ?_);refine goesL_ (some 11) rfl rfl Try.func13 (by kernel_rfl) rfl #[.agg #[.int .i64 a0_0,.slice A0_1 l0_1.length c0_1,.slice A0_2 l0_2.length c0_2,.slice A0_3 l0_3.length c0_3]] rfl qm_ ?_;(with_reducible refine (spec_NetValid.calls k a0_0 _ _ l0_1 _ _ l0_2 _ _ l0_3 false _ ?side1 ?side2 ?side3 ?side4 ?side5 ?side6 A6.out).mono ?_);(case side1 => exact qn_ HR0_1 HB);(case side2 => exact HC0_1.out);(case side3 => exact qn_ HR0_2 HB);(case side4 => exact HC0_2.out);(case side5 => exact qn_ HR0_3 HB);(case side6 => exact HC0_3.out);rintro e w22 ⟨rfl,hb⟩;refine ⟨_,rfl,?_⟩;have n0_:=mk_ (blk_below (g:=gb492) (o:=.cells #[.int .i64 a0_0,.slice A0_1 l0_1.length c0_1,.slice A0_2 l0_2.length c0_2,.slice A0_3 l0_3.length c0_3] 30 (0,0)) (qk_ BK492) hb);have n1_:=mk_ (st_ (qc_ HB GE492) hb);clear BK492;clear HB;have BK492:=n0_;have HB:=n1_;clear n0_ n1_;(try clear hb);(try clear hb2);(try clear hk);(try clear hi)))
   go_meet
   case rel => exact ⟨_,(true),qf_,H',⟨by first|omega|exact Nat.le_refl _⟩,⟨qk_ BK492⟩,⟨u1_ HB GE492⟩⟩
 case rest =>
  clear HC4
  try clear c1
  try clear p2
  try clear c3
  try clear c7
  try clear c9
  try clear c13
  try clear hcz11_0
  try clear hcz11_1
  try clear hcz11_2
  try clear hcz11_3
  try clear hcz13_0
  try clear hcz13_1
  try clear hcz13_2
  try clear hcz13_3
  try clear hcz15_0
  try clear hcz15_1
  try clear hcz15_2
  try clear hcz15_3
  try clear hcz17_0
  try clear hcz17_1
  try clear hcz17_2
  try clear hcz17_3
  try clear hcz19_0
  try clear hcz19_1
  try clear hcz19_2
  try clear hcz19_3
  try clear hcz21_0
  try clear hcz21_1
  try clear hcz21_2
  try clear hcz21_3
  try clear hfz11_0
  try clear hfz11_1
  try clear hfz11_2
  try clear hfz11_3
  try clear hfz13_0
  try clear hfz13_1
  try clear hfz13_2
  try clear hfz13_3
  try clear hfz15_0
  try clear hfz15_1
  try clear hfz15_2
  try clear hfz15_3
  try clear hfz17_0
  try clear hfz17_1
  try clear hfz17_2
  try clear hfz17_3
  try clear hfz19_0
  try clear hfz19_1
  try clear hfz19_2
  try clear hfz19_3
  try clear hfz21_0
  try clear hfz21_1
  try clear hfz21_2
  try clear hfz21_3
  obtain ⟨kq,x24_3,rfl,HA,HJ3,BK492,HB⟩:=hcut
  cases kq with
  | zero => exact absurd HA.out (by simp [spec_TreeWay.j0])
  | succ kj3 =>
   have H:=HA.out
   clear HA
   simp only [spec_TreeWay.j0] at H
   by_cases c23 : x24_3 = true
   ·subst c23
    have H1 : (some (([] : List Int))) = some r:=by rw [if_pos rfl] at H;exact H
    clear H
    have H:=H1
    clear H1
    obtain ⟨y496,hy496⟩ : ∃ y_ : List Int,y_ = (([] : List Int)):=⟨_,rfl⟩
    replace H : (some y496) = some r:=by first|(rw [hy496];with_reducible exact H)|(have H2_:=(Option.bind_some _ _).symm.trans H;rw [hy496];with_reducible exact H2_)|(have H2_:=(Option.bind_some _ _).symm.trans H;with_reducible exact H2_)|with_reducible exact H|(rw [hy496];exact H)|exact H
    have Ny496:=mk_ hy496
    clear hy496
    obtain rfl:=Option.some.inj H
    go_wp2_with (first|((with_reducible refine gate_dst (N:=25) rfl ?_);refine Kd.R_lit (Kd.int .i64) _ 3 ?hg (N:=25) ?hd (xs:=([] : List Int)) (inner:=[]) (ok:=fun _ => True) (okp:=fun _ => True) ?hr ?hp (fun _ hk => hk) trivial (Below.refl _ _) (Nat.le_refl _) (by simp) ?_;(case hd => rfl);(case hg => rfl);(case hr => first|(go_simp;done)|(go_simp;rfl));(case hp => exact (Reps.none _ _));intro v497 w24 ho25 hb hg_ hnew_;clear hg_ hnew_;(first|rw [← Ny496.out] at ho25|(simp only [Int.reduceToNat] at ho25;rw [← Ny496.out] at ho25));have n0_:=mk_ (Kd.R_lower ho25 (bz_ (qc_ HB GE492)));have n1_:=mk_ (blk_below (g:=gb492) (o:=.cells #[.int .i64 a0_0,.slice A0_1 l0_1.length c0_1,.slice A0_2 l0_2.length c0_2,.slice A0_3 l0_3.length c0_3] 30 (0,0)) (qk_ BK492) hb);have n2_:=mk_ (st_ (qc_ HB GE492) hb);clear BK492;clear HB;have HO498:=n0_;have BK492:=n1_;have HB:=n2_;clear n0_ n1_ n2_;clear hb ho25))
    go_ret
    exact ⟨_,qe_,qr_ HO498,u1_ HB GE492⟩
   ·replace c23:=Bool.eq_false_iff.mpr c23
    subst c23
    have H1 : (if 0 ≤ a1 then (if a1 < (l0_2.length : Int) then ((spec_l7Root.f kj3 a0_0 l0_1 (rd l0_2 a1)).bind fun t500 => (if 0 ≤ a2 then (if a2 < (l0_2.length : Int) then ((spec_l7Root.f kj3 a0_0 l0_1 (rd l0_2 a2)).bind fun t502 => (if t500 = t502 then ((spec_l19Up.f kj3 a0_0 l0_1 l0_2 l0_3 (rd l0_2 a1)).bind fun t507 => ((spec_l19Up.f kj3 a0_0 l0_1 l0_2 l0_3 (rd l0_2 a2)).bind fun t511 => (spec_TreeWay.l0 kj3 t507 t511 0))) else (some (([] : List Int))))) else (none)) else (none))) else (none)) else (none)) = some r:=by rw [if_neg (show ¬ (false = true) by decide)] at H;exact H
    clear H
    have H:=H1
    clear H1
    by_cases c26 : 0 ≤ a1
    ·rw [if_pos c26] at H
     have c26b0 : decide (0 ≤ a1) = true:=decide_eq_true c26
     clear c26
     by_cases c27 : a1 < (l0_2.length : Int)
     ·rw [if_pos c27] at H
      have c27b0 : decide (a1 < (l0_2.length : Int)) = true:=decide_eq_true c27
      clear c27
      replace H:=Option.bind_eq_some_iff.mp H
      obtain ⟨t500,A280,H⟩:=H
      replace H : (if 0 ≤ a2 then (if a2 < (l0_2.length : Int) then ((spec_l7Root.f kj3 a0_0 l0_1 (rd l0_2 a2)).bind fun t502 => (if t500 = t502 then ((spec_l19Up.f kj3 a0_0 l0_1 l0_2 l0_3 (rd l0_2 a1)).bind fun t507 => ((spec_l19Up.f kj3 a0_0 l0_1 l0_2 l0_3 (rd l0_2 a2)).bind fun t511 => (spec_TreeWay.l0 kj3 t507 t511 0))) else (some (([] : List Int))))) else (none)) else (none)) = some r:=H
      have A28:=mk_ A280
      clear A280
      by_cases c29 : 0 ≤ a2
      ·rw [if_pos c29] at H
       have c29b0 : decide (0 ≤ a2) = true:=decide_eq_true c29
       clear c29
       by_cases c30 : a2 < (l0_2.length : Int)
       ·rw [if_pos c30] at H
        have c30b0 : decide (a2 < (l0_2.length : Int)) = true:=decide_eq_true c30
        clear c30
        replace H:=Option.bind_eq_some_iff.mp H
        obtain ⟨t502,A310,H⟩:=H
        replace H : (if t500 = t502 then ((spec_l19Up.f kj3 a0_0 l0_1 l0_2 l0_3 (rd l0_2 a1)).bind fun t507 => ((spec_l19Up.f kj3 a0_0 l0_1 l0_2 l0_3 (rd l0_2 a2)).bind fun t511 => (spec_TreeWay.l0 kj3 t507 t511 0))) else (some (([] : List Int)))) = some r:=H
        have A31:=mk_ A310
        clear A310
        by_cases c32 : t500 = t502
        ·rw [if_pos c32] at H
         have c32b0 : (t500 == t502) = true:=beq_iff_eq.mpr c32
         have c32b1 : (t500 != t502) = false:=bne_eq_false_iff_eq.mpr c32
         clear c32
         replace H:=Option.bind_eq_some_iff.mp H
         obtain ⟨t507,A330,H⟩:=H
         replace H : ((spec_l19Up.f kj3 a0_0 l0_1 l0_2 l0_3 (rd l0_2 a2)).bind fun t511 => (spec_TreeWay.l0 kj3 t507 t511 0)) = some r:=H
         have A33:=mk_ A330
         clear A330
         replace H:=Option.bind_eq_some_iff.mp H
         obtain ⟨t511,A340,H⟩:=H
         replace H : (spec_TreeWay.l0 kj3 t507 t511 0) = some r:=H
         have A34:=mk_ A340
         clear A340
         have H':=mk_ H
         clear H
         try go_wp2
         have n0_:=mk_ (kd_ BK492.out)
         have n1_:=mk_ (bd_ HB.out)
         clear BK492
         clear HB
         have BK492:=n0_
         have HB:=n1_
         clear n0_ n1_
         have p499 : 0 ≤ (a1 : Int):=od_ qa_
         have q499 : a1 < (l0_2.length : Int):=od_ qa_
         obtain ⟨ad499,e499,hx499_0⟩:=Kd.at_int HR0_2.out a1 p499 q499
         have hw499_0:=hx499_0
         cases e499
         replace hx499_0:=(HB.out.cell (wl_ w _ hx499_0)).trans hx499_0
         replace p499:=eq_true p499
         replace q499:=eq_true q499
         have p501 : 0 ≤ (a2 : Int):=od_ qa_
         have q501 : a2 < (l0_2.length : Int):=od_ qa_
         obtain ⟨ad501,e501,hx501_0⟩:=Kd.at_int HR0_2.out a2 p501 q501
         have hw501_0:=hx501_0
         obtain rfl : ad499 = ad501:=(by injection e501)
         replace hx501_0:=(HB.out.cell (wl_ w _ hx501_0)).trans hx501_0
         replace p501:=eq_true p501
         replace q501:=eq_true q501
         refine start_ (n:=21) (S:=fun w' => w'.cell? ⟨gb492,0,none⟩ = some (.int .i64 a0_0) ∧ w'.cell? ⟨gb492,1,none⟩ = some (.slice A0_1 l0_1.length c0_1) ∧ w'.cell? ⟨gb492,2,none⟩ = some (.slice (some ad499) l0_2.length c0_2) ∧ w'.cell? ⟨gb492,3,none⟩ = some (.slice A0_3 l0_3.length c0_3) ∧ w'.cell? (ad499.add (a1).toNat) = some (.int .i64 (rd l0_2 a1)) ∧ w'.cell? (ad499.add (a2).toNat) = some (.int .i64 (rd l0_2 a2))) (ds:=[]) #[false,false,false,false,false,false,false,false,false,false,false,false,false,false,false,false,false,false,false,false,false] (by kernel_rfl) rfl rfl ⟨(bc_ BK492.out 0).trans rfl,(bc_ BK492.out 1).trans rfl,(bc_ BK492.out 2).trans rfl,(bc_ BK492.out 3).trans rfl,((HB.out.cell (wl_ w _ hw499_0)).trans hw499_0),((HB.out.cell (wl_ w _ hw501_0)).trans hw501_0)⟩ (fun hHeld => ?_);refine with_tabW spec_TreeWay.tab3 spec_TreeWay.bits3 (fun HT_ HW_ => ?_)
         generalize wc.drew = w35 at BK492 HB hx499_0 hx501_0 hHeld ⊢
         refine pure_ (i:=0) (N:=some 26) (v:=?_) (a':=?_) #[true,false,false,false,false,false,false,false,false,false,false,false,false,false,false,false,false,false,false,false,false] rfl rfl (any_of HT_.out (by kernel_rfl)) (fun _ _ _ h => h) (Or.inl ⟨by rfl,?_⟩) ?_ ?_
         rotate_left
         ·intro w'
          go_simp
          with_reducible rfl
         rotate_left
         ·simp only [Act.put,sx_,sy_,sz_,i64_w,i32_w]
          rfl
         refine pure_ (i:=2) (N:=some 28) (v:=?_) (a':=?_) #[true,false,true,false,false,false,false,false,false,false,false,false,false,false,false,false,false,false,false,false,false] rfl rfl (any_of HT_.out (by kernel_rfl)) (fun _ _ _ h => h) (Or.inl ⟨by rfl,?_⟩) ?_ ?_
         rotate_left
         ·intro w'
          go_simp
          with_reducible rfl
         rotate_left
         ·simp only [Act.put,sx_,sy_,sz_,i64_w,i32_w]
          rfl
         refine pure_ (i:=4) (N:=some 30) (v:=?_) (a':=?_) #[true,false,true,false,true,false,false,false,false,false,false,false,false,false,false,false,false,false,false,false,false] rfl rfl (any_of HT_.out (by kernel_rfl)) (fun _ _ _ h => h) (Or.inl ⟨by rfl,?_⟩) ?_ ?_
         rotate_left
         ·intro w'
          go_simp
          with_reducible rfl
         rotate_left
         ·simp only [Act.put,sx_,sy_,sz_,i64_w,i32_w]
          rfl
         refine pure_ (i:=6) (N:=some 32) (v:=?_) (a':=?_) #[true,false,true,false,true,false,true,false,false,false,false,false,false,false,false,false,false,false,false,false,false] rfl rfl (any_of HT_.out (by kernel_rfl)) (fun _ _ _ h => h) (Or.inl ⟨by rfl,?_⟩) ?_ ?_
         rotate_left
         ·intro w'
          go_simp
          with_reducible rfl
         rotate_left
         ·simp only [Act.put,sx_,sy_,sz_,i64_w,i32_w]
          rfl
         refine pure_ (i:=10) (N:=some 36) (v:=?_) (a':=?_) #[true,false,true,false,true,false,true,false,false,false,true,false,false,false,false,false,false,false,false,false,false] rfl rfl (any_of HT_.out (by kernel_rfl)) (fun _ _ _ h => h) (Or.inl ⟨by rfl,?_⟩) ?_ ?_
         rotate_left
         ·intro w'
          go_simp
          with_reducible rfl
         rotate_left
         ·simp only [Act.put,sx_,sy_,sz_,i64_w,i32_w]
          rfl
         refine pure_ (i:=12) (N:=some 38) (v:=?_) (a':=?_) #[true,false,true,false,true,false,true,false,false,false,true,false,true,false,false,false,false,false,false,false,false] rfl rfl (any_of HT_.out (by kernel_rfl)) (fun _ _ _ h => h) (Or.inl ⟨by rfl,?_⟩) ?_ ?_
         rotate_left
         ·intro w'
          go_simp
          with_reducible rfl
         rotate_left
         ·simp only [Act.put,sx_,sy_,sz_,i64_w,i32_w]
          rfl
         refine pure_ (i:=14) (N:=some 40) (v:=?_) (a':=?_) #[true,false,true,false,true,false,true,false,false,false,true,false,true,false,true,false,false,false,false,false,false] rfl rfl (any_of HT_.out (by kernel_rfl)) (fun _ _ _ h => h) (Or.inl ⟨by rfl,?_⟩) ?_ ?_
         rotate_left
         ·intro w'
          go_simp
          with_reducible rfl
         rotate_left
         ·simp only [Act.put,sx_,sy_,sz_,i64_w,i32_w]
          rfl
         refine pure_ (i:=16) (N:=some 42) (v:=?_) (a':=?_) #[true,false,true,false,true,false,true,false,false,false,true,false,true,false,true,false,true,false,false,false,false] rfl rfl (any_of HT_.out (by kernel_rfl)) (fun _ _ _ h => h) (Or.inl ⟨by rfl,?_⟩) ?_ ?_
         rotate_left
         ·intro w'
          go_simp
          with_reducible rfl
         rotate_left
         ·simp only [Act.put,sx_,sy_,sz_,i64_w,i32_w]
          rfl
         refine take_ (i:=1) (N:=some 27) (v:=?_) (a':=?_) #[true,true,true,false,true,false,true,false,false,false,true,false,true,false,true,false,true,false,false,false,false] rfl rfl (take_ofW HT_.out HW_.out (by kernel_rfl)) (fun _ _ _ h => h) (Or.inl ⟨by rfl,?_⟩) hHeld ?_ ?_
         rotate_left
         ·rintro w' ⟨s0,s1,s2,s3,s4,s5⟩
          go_simp
          with_reducible rfl
         rotate_left
         ·simp only [Act.put,sx_,sy_,sz_,i64_w,i32_w]
          rfl
         refine take_ (i:=3) (N:=some 29) (v:=?_) (a':=?_) #[true,true,true,true,true,false,true,false,false,false,true,false,true,false,true,false,true,false,false,false,false] rfl rfl (take_ofW HT_.out HW_.out (by kernel_rfl)) (fun _ _ _ h => h) (Or.inl ⟨by rfl,?_⟩) hHeld ?_ ?_
         rotate_left
         ·rintro w' ⟨s0,s1,s2,s3,s4,s5⟩
          go_simp
          with_reducible rfl
         rotate_left
         ·simp only [Act.put,sx_,sy_,sz_,i64_w,i32_w]
          rfl
         refine take_ (i:=5) (N:=some 31) (v:=?_) (a':=?_) #[true,true,true,true,true,true,true,false,false,false,true,false,true,false,true,false,true,false,false,false,false] rfl rfl (take_ofW HT_.out HW_.out (by kernel_rfl)) (fun _ _ _ h => h) (Or.inl ⟨by rfl,?_⟩) hHeld ?_ ?_
         rotate_left
         ·rintro w' ⟨s0,s1,s2,s3,s4,s5⟩
          go_simp
          with_reducible rfl
         rotate_left
         ·simp only [Act.put,sx_,sy_,sz_,i64_w,i32_w]
          rfl
         refine pure_ (i:=7) (N:=some 33) (v:=?_) (a':=?_) #[true,true,true,true,true,true,true,true,false,false,true,false,true,false,true,false,true,false,false,false,false] rfl rfl (any_of HT_.out (by kernel_rfl)) (fun _ _ _ h => h) (Or.inl ⟨by rfl,?_⟩) ?_ ?_
         rotate_left
         ·intro w'
          go_simp
          with_reducible rfl
         rotate_left
         ·simp only [Act.put,sx_,sy_,sz_,i64_w,i32_w]
          rfl
         refine take_ (i:=8) (N:=some 34) (v:=?_) (a':=?_) #[true,true,true,true,true,true,true,true,true,false,true,false,true,false,true,false,true,false,false,false,false] rfl rfl (take_ofW HT_.out HW_.out (by kernel_rfl)) (fun _ _ _ h => h) (Or.inl ⟨by rfl,?_⟩) hHeld ?_ ?_
         rotate_left
         ·rintro w' ⟨s0,s1,s2,s3,s4,s5⟩
          go_simp
          with_reducible rfl
         rotate_left
         ·simp only [Act.put,sx_,sy_,sz_,i64_w,i32_w]
          rfl
         refine take_ (i:=11) (N:=some 37) (v:=?_) (a':=?_) #[true,true,true,true,true,true,true,true,true,false,true,true,true,false,true,false,true,false,false,false,false] rfl rfl (take_ofW HT_.out HW_.out (by kernel_rfl)) (fun _ _ _ h => h) (Or.inl ⟨by rfl,?_⟩) hHeld ?_ ?_
         rotate_left
         ·rintro w' ⟨s0,s1,s2,s3,s4,s5⟩
          go_simp
          with_reducible rfl
         rotate_left
         ·simp only [Act.put,sx_,sy_,sz_,i64_w,i32_w]
          rfl
         refine take_ (i:=13) (N:=some 39) (v:=?_) (a':=?_) #[true,true,true,true,true,true,true,true,true,false,true,true,true,true,true,false,true,false,false,false,false] rfl rfl (take_ofW HT_.out HW_.out (by kernel_rfl)) (fun _ _ _ h => h) (Or.inl ⟨by rfl,?_⟩) hHeld ?_ ?_
         rotate_left
         ·rintro w' ⟨s0,s1,s2,s3,s4,s5⟩
          go_simp
          with_reducible rfl
         rotate_left
         ·simp only [Act.put,sx_,sy_,sz_,i64_w,i32_w]
          rfl
         refine take_ (i:=15) (N:=some 41) (v:=?_) (a':=?_) #[true,true,true,true,true,true,true,true,true,false,true,true,true,true,true,true,true,false,false,false,false] rfl rfl (take_ofW HT_.out HW_.out (by kernel_rfl)) (fun _ _ _ h => h) (Or.inl ⟨by rfl,?_⟩) hHeld ?_ ?_
         rotate_left
         ·rintro w' ⟨s0,s1,s2,s3,s4,s5⟩
          go_simp
          with_reducible rfl
         rotate_left
         ·simp only [Act.put,sx_,sy_,sz_,i64_w,i32_w]
          rfl
         refine pure_ (i:=17) (N:=some 43) (v:=?_) (a':=?_) #[true,true,true,true,true,true,true,true,true,false,true,true,true,true,true,true,true,true,false,false,false] rfl rfl (any_of HT_.out (by kernel_rfl)) (fun _ _ _ h => h) (Or.inl ⟨by rfl,?_⟩) ?_ ?_
         rotate_left
         ·intro w'
          go_simp
          with_reducible rfl
         rotate_left
         ·simp only [Act.put,sx_,sy_,sz_,i64_w,i32_w]
          rfl
         refine take_ (i:=18) (N:=some 44) (v:=?_) (a':=?_) #[true,true,true,true,true,true,true,true,true,false,true,true,true,true,true,true,true,true,true,false,false] rfl rfl (take_ofW HT_.out HW_.out (by kernel_rfl)) (fun _ _ _ h => h) (Or.inl ⟨by rfl,?_⟩) hHeld ?_ ?_
         rotate_left
         ·rintro w' ⟨s0,s1,s2,s3,s4,s5⟩
          go_simp
          with_reducible rfl
         rotate_left
         ·simp only [Act.put,sx_,sy_,sz_,i64_w,i32_w]
          rfl
         refine one_ (i:=9) (N:=some 35) #[true,true,true,true,true,true,true,true,true,true,true,true,true,true,true,true,true,true,true,false,false] rfl rfl (one_of HT_.out (by kernel_rfl)) (by decide) (fun K hK => ?_)
         refine goes_ Try.func68 (by kernel_rfl) rfl #[.int .i64 a0_0,.slice A0_1 l0_1.length c0_1,.int .i64 (rd l0_2 a1)] (by rfl) rfl rfl qm_ ?_
         with_reducible refine (spec_l7Root.calls kj3 a0_0 _ _ l0_1 (rd l0_2 a1) t500 _ ?side1 ?side2 A28.out).mono ?_
         (case side1 => exact qn_ HR0_1 HB)
         (case side2 => exact HC0_1.out)
         rintro e w36 ⟨rfl,hb⟩
         refine ⟨_,rfl,?_⟩
         have n0_:=mk_ (blk_below (g:=gb492) (o:=.cells #[.int .i64 a0_0,.slice A0_1 l0_1.length c0_1,.slice (some ad499) l0_2.length c0_2,.slice A0_3 l0_3.length c0_3] 30 (0,0)) (qk_ BK492) hb)
         have n1_:=mk_ (st_ (qc_ HB GE492) hb)
         clear BK492
         clear HB
         have BK492:=n0_
         have HB:=n1_
         clear n0_ n1_
         (try clear hb)
         (try clear hb2)
         (try clear hk)
         (try clear hi)
         refine hK.out _ _ ⟨(bc_ BK492.out 0).trans rfl,(bc_ BK492.out 1).trans rfl,(bc_ BK492.out 2).trans rfl,(bc_ BK492.out 3).trans rfl,((HB.out.cell (wl_ w _ hw499_0)).trans hw499_0),((HB.out.cell (wl_ w _ hw501_0)).trans hw501_0)⟩ (fun hHeld => ?_)
         clear hK K
         refine norm_ (a':=?_) ?_ ?_
         rotate_left
         ·show Act.put _ (some 35) _ = _
          simp only [Act.put,sx_,sy_,sz_,i64_w,i32_w]
          rfl
         refine one_ (i:=19) (N:=some 45) #[true,true,true,true,true,true,true,true,true,true,true,true,true,true,true,true,true,true,true,true,false] rfl rfl (one_of HT_.out (by kernel_rfl)) (by decide) (fun K hK => ?_)
         refine goes_ Try.func68 (by kernel_rfl) rfl #[.int .i64 a0_0,.slice A0_1 l0_1.length c0_1,.int .i64 (rd l0_2 a2)] (by rfl) rfl rfl qm_ ?_
         with_reducible refine (spec_l7Root.calls kj3 a0_0 _ _ l0_1 (rd l0_2 a2) t502 _ ?side1 ?side2 A31.out).mono ?_
         (case side1 => exact qn_ HR0_1 HB)
         (case side2 => exact HC0_1.out)
         rintro e w37 ⟨rfl,hb⟩
         refine ⟨_,rfl,?_⟩
         have n0_:=mk_ (blk_below (g:=gb492) (o:=.cells #[.int .i64 a0_0,.slice A0_1 l0_1.length c0_1,.slice (some ad499) l0_2.length c0_2,.slice A0_3 l0_3.length c0_3] 30 (0,0)) (qk_ BK492) hb)
         have n1_:=mk_ (st_ (qc_ HB GE492) hb)
         clear BK492
         clear HB
         have BK492:=n0_
         have HB:=n1_
         clear n0_ n1_
         (try clear hb)
         (try clear hb2)
         (try clear hk)
         (try clear hi)
         refine hK.out _ _ ⟨(bc_ BK492.out 0).trans rfl,(bc_ BK492.out 1).trans rfl,(bc_ BK492.out 2).trans rfl,(bc_ BK492.out 3).trans rfl,((HB.out.cell (wl_ w _ hw499_0)).trans hw499_0),((HB.out.cell (wl_ w _ hw501_0)).trans hw501_0)⟩ (fun hHeld => ?_)
         clear hK K
         refine norm_ (a':=?_) ?_ ?_
         rotate_left
         ·show Act.put _ (some 45) _ = _
          simp only [Act.put,sx_,sy_,sz_,i64_w,i32_w]
          rfl
         refine pure_ (i:=20) (N:=some 46) (v:=?_) (a':=?_) #[true,true,true,true,true,true,true,true,true,true,true,true,true,true,true,true,true,true,true,true,true] rfl rfl (any_of HT_.out (by kernel_rfl)) (fun _ _ _ h => h) (Or.inl ⟨by rfl,?_⟩) ?_ ?_
         rotate_left
         ·intro w'
          go_simp
          with_reducible rfl
         rotate_left
         ·simp only [Act.put,sx_,sy_,sz_,i64_w,i32_w]
          rfl
         refine done_ (done_of HT_.out (by kernel_rfl)) ?_
         try go_wp2
         have n0_:=mk_ (kd_ BK492.out)
         have n1_:=mk_ (bd_ HB.out)
         clear BK492
         clear HB
         have BK492:=n0_
         have HB:=n1_
         clear n0_ n1_
         have p506 : 0 ≤ (a1 : Int):=od_ qa_
         have q506 : a1 < (l0_2.length : Int):=od_ qa_
         obtain ⟨ad506,e506,hx506_0⟩:=Kd.at_int HR0_2.out a1 p506 q506
         have hw506_0:=hx506_0
         obtain rfl : ad499 = ad506:=(by injection e506)
         replace hx506_0:=(HB.out.cell (wl_ w _ hx506_0)).trans hx506_0
         replace p506:=eq_true p506
         replace q506:=eq_true q506
         refine start_ (n:=8) (S:=fun w' => w'.cell? ⟨gb492,0,none⟩ = some (.int .i64 a0_0) ∧ w'.cell? ⟨gb492,1,none⟩ = some (.slice A0_1 l0_1.length c0_1) ∧ w'.cell? ⟨gb492,2,none⟩ = some (.slice (some ad499) l0_2.length c0_2) ∧ w'.cell? ⟨gb492,3,none⟩ = some (.slice A0_3 l0_3.length c0_3) ∧ w'.cell? (ad499.add (a1).toNat) = some (.int .i64 (rd l0_2 a1))) (ds:=[]) #[false,false,false,false,false,false,false,false] (by kernel_rfl) rfl rfl ⟨(bc_ BK492.out 0).trans rfl,(bc_ BK492.out 1).trans rfl,(bc_ BK492.out 2).trans rfl,(bc_ BK492.out 3).trans rfl,((HB.out.cell (wl_ w _ hw506_0)).trans hw506_0)⟩ (fun hHeld => ?_);refine with_tabW spec_TreeWay.tab5 spec_TreeWay.bits5 (fun HT_ HW_ => ?_)
         generalize w37.drew = w38 at BK492 HB hx506_0 hHeld ⊢
         refine pure_ (i:=1) (N:=some 49) (v:=?_) (a':=?_) #[false,true,false,false,false,false,false,false] rfl rfl (any_of HT_.out (by kernel_rfl)) (fun _ _ _ h => h) (Or.inl ⟨by rfl,?_⟩) ?_ ?_
         rotate_left
         ·intro w'
          go_simp
          with_reducible rfl
         rotate_left
         ·simp only [Act.put,sx_,sy_,sz_,i64_w,i32_w]
          rfl
         refine pure_ (i:=3) (N:=some 51) (v:=?_) (a':=?_) #[false,true,false,true,false,false,false,false] rfl rfl (any_of HT_.out (by kernel_rfl)) (fun _ _ _ h => h) (Or.inl ⟨by rfl,?_⟩) ?_ ?_
         rotate_left
         ·intro w'
          go_simp
          with_reducible rfl
         rotate_left
         ·simp only [Act.put,sx_,sy_,sz_,i64_w,i32_w]
          rfl
         refine take_ (i:=0) (N:=some 48) (v:=?_) (a':=?_) #[true,true,false,true,false,false,false,false] rfl rfl (take_ofW HT_.out HW_.out (by kernel_rfl)) (fun _ _ _ h => h) (Or.inl ⟨by rfl,?_⟩) hHeld ?_ ?_
         rotate_left
         ·rintro w' ⟨s0,s1,s2,s3,s4⟩
          go_simp
          with_reducible rfl
         rotate_left
         ·simp only [Act.put,sx_,sy_,sz_,i64_w,i32_w]
          rfl
         refine take_ (i:=2) (N:=some 50) (v:=?_) (a':=?_) #[true,true,true,true,false,false,false,false] rfl rfl (take_ofW HT_.out HW_.out (by kernel_rfl)) (fun _ _ _ h => h) (Or.inl ⟨by rfl,?_⟩) hHeld ?_ ?_
         rotate_left
         ·rintro w' ⟨s0,s1,s2,s3,s4⟩
          go_simp
          with_reducible rfl
         rotate_left
         ·simp only [Act.put,sx_,sy_,sz_,i64_w,i32_w]
          rfl
         refine pure_ (i:=4) (N:=some 52) (v:=?_) (a':=?_) #[true,true,true,true,true,false,false,false] rfl rfl (any_of HT_.out (by kernel_rfl)) (fun _ _ _ h => h) (Or.inl ⟨by rfl,?_⟩) ?_ ?_
         rotate_left
         ·intro w'
          go_simp
          with_reducible rfl
         rotate_left
         ·simp only [Act.put,sx_,sy_,sz_,i64_w,i32_w]
          rfl
         refine take_ (i:=5) (N:=some 53) (v:=?_) (a':=?_) #[true,true,true,true,true,true,false,false] rfl rfl (take_ofW HT_.out HW_.out (by kernel_rfl)) (fun _ _ _ h => h) (Or.inl ⟨by rfl,?_⟩) hHeld ?_ ?_
         rotate_left
         ·rintro w' ⟨s0,s1,s2,s3,s4⟩
          go_simp
          with_reducible rfl
         rotate_left
         ·simp only [Act.put,sx_,sy_,sz_,i64_w,i32_w]
          rfl
         refine one_ (i:=6) (N:=some 54) #[true,true,true,true,true,true,true,false] rfl rfl (one_of HT_.out (by kernel_rfl)) (by decide) (fun K hK => ?_)
         refine goes_ Try.func69 (by kernel_rfl) rfl #[.agg #[.int .i64 a0_0,.slice A0_1 l0_1.length c0_1,.slice (some ad499) l0_2.length c0_2,.slice A0_3 l0_3.length c0_3],.int .i64 (rd l0_2 a1)] (by rfl) rfl rfl qm_ ?_
         with_reducible refine (spec_l19Up.calls kj3 a0_0 _ _ l0_1 _ _ l0_2 _ _ l0_3 (rd l0_2 a1) t507 _ ?side1 ?side2 ?side3 ?side4 ?side5 ?side6 A33.out).mono ?_
         (case side1 => exact qn_ HR0_1 HB)
         (case side2 => exact HC0_1.out)
         (case side3 => exact qn_ HR0_2 HB)
         (case side4 => exact HC0_2.out)
         (case side5 => exact qn_ HR0_3 HB)
         (case side6 => exact HC0_3.out)
         rintro e w39 ⟨v508,rfl,ho0,hb⟩
         refine ⟨_,rfl,?_⟩
         have n0_:=mk_ (Kd.R_lower ho0 (bz_ (qc_ HB GE492)))
         have n1_:=mk_ (blk_below (g:=gb492) (o:=.cells #[.int .i64 a0_0,.slice A0_1 l0_1.length c0_1,.slice (some ad499) l0_2.length c0_2,.slice A0_3 l0_3.length c0_3] 30 (0,0)) (qk_ BK492) hb)
         have n2_:=mk_ (st_ (qc_ HB GE492) hb)
         clear BK492
         clear HB
         have HO509:=n0_
         have BK492:=n1_
         have HB:=n2_
         clear n0_ n1_ n2_
         (try clear hb)
         (try clear hb2)
         (try clear hk)
         (try clear hi)
         (try clear ho0)
         refine hK.out _ _ ⟨(bc_ BK492.out 0).trans rfl,(bc_ BK492.out 1).trans rfl,(bc_ BK492.out 2).trans rfl,(bc_ BK492.out 3).trans rfl,((HB.out.cell (wl_ w _ hw506_0)).trans hw506_0)⟩ (fun hHeld => ?_)
         clear hK K
         refine norm_ (a':=?_) ?_ ?_
         rotate_left
         ·show Act.put _ (some 54) _ = _
          simp only [Act.put,sx_,sy_,sz_,i64_w,i32_w]
          rfl
         refine pure_ (i:=7) (N:=some 7) (v:=?_) (a':=?_) #[true,true,true,true,true,true,true,true] rfl rfl (any_of HT_.out (by kernel_rfl)) (fun _ _ _ h => h) (Or.inl ⟨by rfl,?_⟩) ?_ ?_
         rotate_left
         ·intro w'
          go_simp
          with_reducible rfl
         rotate_left
         ·simp only [Act.put,sx_,sy_,sz_,i64_w,i32_w]
          rfl
         refine done_ (done_of HT_.out (by kernel_rfl)) ?_
         try go_wp2
         have n0_:=mk_ (rd_ HO509.out)
         have n1_:=mk_ (kd_ BK492.out)
         have n2_:=mk_ (bd_ HB.out)
         clear HO509
         clear BK492
         clear HB
         have HO509:=n0_
         have BK492:=n1_
         have HB:=n2_
         clear n0_ n1_ n2_
         have p510 : 0 ≤ (a2 : Int):=od_ qa_
         have q510 : a2 < (l0_2.length : Int):=od_ qa_
         obtain ⟨ad510,e510,hx510_0⟩:=Kd.at_int HR0_2.out a2 p510 q510
         have hw510_0:=hx510_0
         obtain rfl : ad499 = ad510:=(by injection e510)
         replace hx510_0:=(HB.out.cell (wl_ w _ hx510_0)).trans hx510_0
         replace p510:=eq_true p510
         replace q510:=eq_true q510
         refine start_ (n:=8) (S:=fun w' => w'.cell? ⟨gb492,0,none⟩ = some (.int .i64 a0_0) ∧ w'.cell? ⟨gb492,1,none⟩ = some (.slice A0_1 l0_1.length c0_1) ∧ w'.cell? ⟨gb492,2,none⟩ = some (.slice (some ad499) l0_2.length c0_2) ∧ w'.cell? ⟨gb492,3,none⟩ = some (.slice A0_3 l0_3.length c0_3) ∧ w'.cell? (ad499.add (a2).toNat) = some (.int .i64 (rd l0_2 a2))) (ds:=[]) #[false,false,false,false,false,false,false,false] (by kernel_rfl) rfl rfl ⟨(bc_ BK492.out 0).trans rfl,(bc_ BK492.out 1).trans rfl,(bc_ BK492.out 2).trans rfl,(bc_ BK492.out 3).trans rfl,((HB.out.cell (wl_ w _ hw510_0)).trans hw510_0)⟩ (fun hHeld => ?_);refine with_tabW spec_TreeWay.tab6 spec_TreeWay.bits6 (fun HT_ HW_ => ?_)
         generalize w39.drew = w40 at HO509 BK492 HB hx510_0 hHeld ⊢
         refine pure_ (i:=1) (N:=some 56) (v:=?_) (a':=?_) #[false,true,false,false,false,false,false,false] rfl rfl (any_of HT_.out (by kernel_rfl)) (fun _ _ _ h => h) (Or.inl ⟨by rfl,?_⟩) ?_ ?_
         rotate_left
         ·intro w'
          go_simp
          with_reducible rfl
         rotate_left
         ·simp only [Act.put,sx_,sy_,sz_,i64_w,i32_w]
          rfl
         refine pure_ (i:=3) (N:=some 58) (v:=?_) (a':=?_) #[false,true,false,true,false,false,false,false] rfl rfl (any_of HT_.out (by kernel_rfl)) (fun _ _ _ h => h) (Or.inl ⟨by rfl,?_⟩) ?_ ?_
         rotate_left
         ·intro w'
          go_simp
          with_reducible rfl
         rotate_left
         ·simp only [Act.put,sx_,sy_,sz_,i64_w,i32_w]
          rfl
         refine take_ (i:=0) (N:=some 55) (v:=?_) (a':=?_) #[true,true,false,true,false,false,false,false] rfl rfl (take_ofW HT_.out HW_.out (by kernel_rfl)) (fun _ _ _ h => h) (Or.inl ⟨by rfl,?_⟩) hHeld ?_ ?_
         rotate_left
         ·rintro w' ⟨s0,s1,s2,s3,s4⟩
          go_simp
          with_reducible rfl
         rotate_left
         ·simp only [Act.put,sx_,sy_,sz_,i64_w,i32_w]
          rfl
         refine take_ (i:=2) (N:=some 57) (v:=?_) (a':=?_) #[true,true,true,true,false,false,false,false] rfl rfl (take_ofW HT_.out HW_.out (by kernel_rfl)) (fun _ _ _ h => h) (Or.inl ⟨by rfl,?_⟩) hHeld ?_ ?_
         rotate_left
         ·rintro w' ⟨s0,s1,s2,s3,s4⟩
          go_simp
          with_reducible rfl
         rotate_left
         ·simp only [Act.put,sx_,sy_,sz_,i64_w,i32_w]
          rfl
         refine pure_ (i:=4) (N:=some 59) (v:=?_) (a':=?_) #[true,true,true,true,true,false,false,false] rfl rfl (any_of HT_.out (by kernel_rfl)) (fun _ _ _ h => h) (Or.inl ⟨by rfl,?_⟩) ?_ ?_
         rotate_left
         ·intro w'
          go_simp
          with_reducible rfl
         rotate_left
         ·simp only [Act.put,sx_,sy_,sz_,i64_w,i32_w]
          rfl
         refine take_ (i:=5) (N:=some 60) (v:=?_) (a':=?_) #[true,true,true,true,true,true,false,false] rfl rfl (take_ofW HT_.out HW_.out (by kernel_rfl)) (fun _ _ _ h => h) (Or.inl ⟨by rfl,?_⟩) hHeld ?_ ?_
         rotate_left
         ·rintro w' ⟨s0,s1,s2,s3,s4⟩
          go_simp
          with_reducible rfl
         rotate_left
         ·simp only [Act.put,sx_,sy_,sz_,i64_w,i32_w]
          rfl
         refine one_ (i:=6) (N:=some 61) #[true,true,true,true,true,true,true,false] rfl rfl (one_of HT_.out (by kernel_rfl)) (by decide) (fun K hK => ?_)
         refine goes_ Try.func69 (by kernel_rfl) rfl #[.agg #[.int .i64 a0_0,.slice A0_1 l0_1.length c0_1,.slice (some ad499) l0_2.length c0_2,.slice A0_3 l0_3.length c0_3],.int .i64 (rd l0_2 a2)] (by rfl) rfl rfl qm_ ?_
         with_reducible refine (spec_l19Up.calls kj3 a0_0 _ _ l0_1 _ _ l0_2 _ _ l0_3 (rd l0_2 a2) t511 _ ?side1 ?side2 ?side3 ?side4 ?side5 ?side6 A34.out).mono ?_
         (case side1 => exact qn_ HR0_1 HB)
         (case side2 => exact HC0_1.out)
         (case side3 => exact qn_ HR0_2 HB)
         (case side4 => exact HC0_2.out)
         (case side5 => exact qn_ HR0_3 HB)
         (case side6 => exact HC0_3.out)
         rintro e w41 ⟨v512,rfl,ho0,hb⟩
         refine ⟨_,rfl,?_⟩
         have n0_:=mk_ (re_ (qr_ HO509) (Kd.R_base ho0) hb)
         have n1_:=mk_ (Kd.R_lower (Kd.R_new' ho0 (Kd.R_lt (qr_ HO509))) (bz_ (qc_ HB GE492)))
         have n2_:=mk_ (blk_below (g:=gb492) (o:=.cells #[.int .i64 a0_0,.slice A0_1 l0_1.length c0_1,.slice (some ad499) l0_2.length c0_2,.slice A0_3 l0_3.length c0_3] 30 (0,0)) (qk_ BK492) hb)
         have n3_:=mk_ (st_ (qc_ HB GE492) hb)
         clear HO509
         clear BK492
         clear HB
         have HO509:=n0_
         have HO513:=n1_
         have BK492:=n2_
         have HB:=n3_
         clear n0_ n1_ n2_ n3_
         (try clear hb)
         (try clear hb2)
         (try clear hk)
         (try clear hi)
         (try clear ho0)
         refine hK.out _ _ ⟨(bc_ BK492.out 0).trans rfl,(bc_ BK492.out 1).trans rfl,(bc_ BK492.out 2).trans rfl,(bc_ BK492.out 3).trans rfl,((HB.out.cell (wl_ w _ hw510_0)).trans hw510_0)⟩ (fun hHeld => ?_)
         clear hK K
         refine norm_ (a':=?_) ?_ ?_
         rotate_left
         ·show Act.put _ (some 61) _ = _
          simp only [Act.put,sx_,sy_,sz_,i64_w,i32_w]
          rfl
         refine pure_ (i:=7) (N:=some 8) (v:=?_) (a':=?_) #[true,true,true,true,true,true,true,true] rfl rfl (any_of HT_.out (by kernel_rfl)) (fun _ _ _ h => h) (Or.inl ⟨by rfl,?_⟩) ?_ ?_
         rotate_left
         ·intro w'
          go_simp
          with_reducible rfl
         rotate_left
         ·simp only [Act.put,sx_,sy_,sz_,i64_w,i32_w]
          rfl
         refine done_ (done_of HT_.out (by kernel_rfl)) ?_
         try go_wp2
         go_loopg [9] kj3 (fun kq v9 w' => ∃ (x7_2 : List Bool) (x9_2 : Int),v9 = .int .i64 x9_2 ∧ Aside0 (spec_TreeWay.l0 kq x7_2 t511 x9_2 = some r) ∧ Aside0 (kq ≤ kj3) ∧ Aside0 (Kd.R Kd.bool 4 w' w.heap.size (fun k_ => some k_ ≠ (v512 : Value).ownBlock) v508 x7_2) ∧ Aside0 (Kd.R Kd.bool 4 w' w.heap.size (fun k_ => some k_ ≠ (v508 : Value).ownBlock) v512 t511) ∧ Aside0 (w'.heap[gb492]? = some (.cells #[.int .i64 a0_0,(.slice A0_1 l0_1.length c0_1),(.slice (some ad499) l0_2.length c0_2),(.slice A0_3 l0_3.length c0_3)] 30 (0,0))) ∧ Aside0 (Below w.heap.size w w'))
         case atStart => exact ⟨(t507),(0),qf_,H',⟨Nat.le_refl _⟩,⟨by (with_reducible repeat (first|apply ra_|apply rn_|apply rd_));exact rm_ HO509.out (fun _ hk => hk.2)⟩,⟨by (with_reducible repeat (first|apply ra_|apply rn_|apply rd_));exact rm_ HO513.out (fun _ hk => hk.2)⟩,⟨qk_ BK492⟩,⟨u1_ HB GE492⟩⟩
         case round =>
          clear H'
          try clear c1
          try clear c2
          try clear p2
          try clear c3
          try clear p4
          try clear q4
          try clear hx4
          try clear p5
          try clear q5
          try clear hx5
          try clear c6
          try clear c7
          try clear c9
          try clear c13
          try clear c23
          try clear c26
          try clear c26b0
          try clear c27
          try clear c27b0
          try clear c29
          try clear c29b0
          try clear c30
          try clear c30b0
          try clear c32
          try clear c32b0
          try clear c32b1
          try clear hcz11_0
          try clear hcz11_1
          try clear hcz11_2
          try clear hcz11_3
          try clear hcz13_0
          try clear hcz13_1
          try clear hcz13_2
          try clear hcz13_3
          try clear hcz15_0
          try clear hcz15_1
          try clear hcz15_2
          try clear hcz15_3
          try clear hcz17_0
          try clear hcz17_1
          try clear hcz17_2
          try clear hcz17_3
          try clear hcz19_0
          try clear hcz19_1
          try clear hcz19_2
          try clear hcz19_3
          try clear hcz21_0
          try clear hcz21_1
          try clear hcz21_2
          try clear hcz21_3
          try clear hfz11_0
          try clear hfz11_1
          try clear hfz11_2
          try clear hfz11_3
          try clear hfz13_0
          try clear hfz13_1
          try clear hfz13_2
          try clear hfz13_3
          try clear hfz15_0
          try clear hfz15_1
          try clear hfz15_2
          try clear hfz15_3
          try clear hfz17_0
          try clear hfz17_1
          try clear hfz17_2
          try clear hfz17_3
          try clear hfz19_0
          try clear hfz19_1
          try clear hfz19_2
          try clear hfz19_3
          try clear hfz21_0
          try clear hfz21_1
          try clear hfz21_2
          try clear hfz21_3
          try clear hx499_0
          try clear hx501_0
          try clear hx506_0
          try clear hx510_0
          try clear p2
          try clear p499
          try clear p501
          try clear p506
          try clear p510
          try clear q499
          try clear q501
          try clear q506
          try clear q510
          obtain ⟨x7_2,x9_2,rfl,HA,HK2,HO_7,HO_8,BK492,HB⟩:=hrel
          cases gk with
          | zero => exact absurd HA.out (by simp [spec_TreeWay.l0])
          | succ k2 =>
           have H:=HA.out
           clear HA
           simp only [spec_TreeWay.l0] at H
           by_cases c42 : x9_2 < (x7_2.length : Int)
           ·rw [if_pos c42] at H
            have c42b0 : decide (x9_2 < (x7_2.length : Int)) = true:=decide_eq_true c42
            clear c42
            by_cases c43 : 0 ≤ x9_2
            ·rw [if_pos c43] at H
             have c43b0 : decide (0 ≤ x9_2) = true:=decide_eq_true c43
             clear c43
             by_cases c44 : x9_2 < (t511.length : Int)
             ·rw [if_pos c44] at H
              have c44b0 : decide (x9_2 < (t511.length : Int)) = true:=decide_eq_true c44
              clear c44
              obtain ⟨y516,hy516⟩ : ∃ y_ : List Bool,y_ = (x7_2.set (x9_2 : Int).toNat ((rdOf false x7_2 x9_2) != (rdOf false t511 x9_2))):=⟨_,rfl⟩
              replace H : (spec_TreeWay.l0 k2 y516 t511 (wrap64 (x9_2 + 1))) = some r:=by first|(rw [hy516];with_reducible exact H)|(have H2_:=(Option.bind_some _ _).symm.trans H;rw [hy516];with_reducible exact H2_)|(have H2_:=(Option.bind_some _ _).symm.trans H;with_reducible exact H2_)|with_reducible exact H|(rw [hy516];exact H)|exact H
              have Ny516:=mk_ hy516
              clear hy516
              have H':=mk_ H
              clear H
              obtain ⟨Ao46,co46,eo46⟩:=Kd.R_slice HO_7.out
              subst eo46
              try go_wp2
              have n0_:=mk_ (rd_ HO_7.out)
              have n1_:=mk_ (rd_ HO_8.out)
              have n2_:=mk_ (kd_ BK492.out)
              have n3_:=mk_ (bd_ HB.out)
              clear HO_7
              clear HO_8
              clear BK492
              clear HB
              have HO_7:=n0_
              have HO_8:=n1_
              have BK492:=n2_
              have HB:=n3_
              clear n0_ n1_ n2_ n3_
              have p514 : 0 ≤ (x9_2 : Int):=od_ qa_
              have q514 : x9_2 < (x7_2.length : Int):=od_ qa_
              obtain ⟨ad514,e514,hx514_0⟩:=Kd.at_bool (rr_ HO_7.out).2.2 x9_2 p514 q514
              cases e514
              replace p514:=eq_true p514
              replace q514:=eq_true q514
              obtain ⟨Ao48,co48,eo48⟩:=Kd.R_slice HO_8.out
              (first|subst eo48|(injection eo48 with f1_ f2_ f3_;have f4_:=f1_.symm;have f5_:=f3_.symm;clear f1_ f2_ f3_;subst f4_;subst f5_))
              have p515 : 0 ≤ (x9_2 : Int):=od_ qa_
              have q515 : x9_2 < (t511.length : Int):=od_ qa_
              obtain ⟨ad515,e515,hx515_0⟩:=Kd.at_bool (rr_ HO_8.out).2.2 x9_2 p515 q515
              cases e515
              replace p515:=eq_true p515
              replace q515:=eq_true q515
              have p45 : 0 ≤ (x9_2 : Int):=od_ qa_
              have q45 : (x9_2 : Int) < ((x7_2.length : Int) : Int):=od_ qa_
              obtain ⟨go45,co45,eo45,gb45,gl45,cl45,HG45⟩:=Kd.R_form HO_7.out (by omega)
              (first|cases eo45|(injection eo45 with ea_ en_ ec_;(first|subst ea_|(injection ea_ with ea_;subst ea_));subst ec_;clear en_))
              have GB45:=mk_ gb45
              have GG45:=mk_ HG45
              clear gb45 gl45 HG45
              (first|simp only [add_plain] at hx514_0|skip)
              obtain ⟨hx45_0,hf45_0⟩:=Kd.R_celln false HO_7.out (x9_2 : Int) p45 q45
              replace p45:=eq_true p45
              replace q45:=eq_true q45
              have HP49:=Kd.R_putn HO_7.out (x9_2 : Int) ((rdOf false x7_2 x9_2) != (rdOf false t511 x9_2))
              rw [← Ny516.out] at HP49
              have HQ49:=mk_ HP49
              clear HP49
              refine start_ (n:=13) (S:=fun w' => w'.cell? ⟨go45,(x9_2).toNat,none⟩ = some (.bool (rdOf false x7_2 x9_2)) ∧ w'.cell? (ad515.add (x9_2).toNat) = some (.bool (rdOf false t511 x9_2))) (ds:=[12]) #[false,false,false,false,false,false,false,false,false,false,false,false,false] (by kernel_rfl) rfl rfl ⟨hx514_0,hx515_0⟩ (fun hHeld => ?_);refine with_tabW spec_TreeWay.tab10 spec_TreeWay.bits10 (fun HT_ HW_ => ?_)
              generalize wr.drew = w47 at HO_7 HO_8 BK492 HB GG45 HQ49 hf45_0 hx45_0 hx514_0 hx515_0 hHeld ⊢
              refine pure_ (i:=0) (N:=some 68) (v:=?_) (a':=?_) #[true,false,false,false,false,false,false,false,false,false,false,false,false] rfl rfl (any_of HT_.out (by kernel_rfl)) (fun _ _ _ h => h) (Or.inl ⟨by rfl,?_⟩) ?_ ?_
              rotate_left
              ·intro w'
               go_simp
               with_reducible rfl
              rotate_left
              ·simp only [Act.put,sx_,sy_,sz_,i64_w,i32_w]
               rfl
              refine pure_ (i:=1) (N:=some 69) (v:=?_) (a':=?_) #[true,true,false,false,false,false,false,false,false,false,false,false,false] rfl rfl (any_of HT_.out (by kernel_rfl)) (fun _ _ _ h => h) (Or.inl ⟨by rfl,?_⟩) ?_ ?_
              rotate_left
              ·intro w'
               go_simp
               with_reducible rfl
              rotate_left
              ·simp only [Act.put,sx_,sy_,sz_,i64_w,i32_w]
               rfl
              refine pure_ (i:=2) (N:=some 70) (v:=?_) (a':=?_) #[true,true,true,false,false,false,false,false,false,false,false,false,false] rfl rfl (any_of HT_.out (by kernel_rfl)) (fun _ _ _ h => h) (Or.inl ⟨by rfl,?_⟩) ?_ ?_
              rotate_left
              ·intro w'
               go_simp
               with_reducible rfl
              rotate_left
              ·simp only [Act.put,sx_,sy_,sz_,i64_w,i32_w]
               rfl
              refine pure_ (i:=3) (N:=some 71) (v:=?_) (a':=?_) #[true,true,true,true,false,false,false,false,false,false,false,false,false] rfl rfl (any_of HT_.out (by kernel_rfl)) (fun _ _ _ h => h) (Or.inl ⟨by rfl,?_⟩) ?_ ?_
              rotate_left
              ·intro w'
               go_simp
               with_reducible rfl
              rotate_left
              ·simp only [Act.put,sx_,sy_,sz_,i64_w,i32_w]
               rfl
              refine pure_ (i:=4) (N:=some 72) (v:=?_) (a':=?_) #[true,true,true,true,true,false,false,false,false,false,false,false,false] rfl rfl (any_of HT_.out (by kernel_rfl)) (fun _ _ _ h => h) (Or.inl ⟨by rfl,?_⟩) ?_ ?_
              rotate_left
              ·intro w'
               go_simp
               with_reducible rfl
              rotate_left
              ·simp only [Act.put,sx_,sy_,sz_,i64_w,i32_w]
               rfl
              refine pure_ (i:=6) (N:=some 74) (v:=?_) (a':=?_) #[true,true,true,true,true,false,true,false,false,false,false,false,false] rfl rfl (any_of HT_.out (by kernel_rfl)) (fun _ _ _ h => h) (Or.inl ⟨by rfl,?_⟩) ?_ ?_
              rotate_left
              ·intro w'
               go_simp
               with_reducible rfl
              rotate_left
              ·simp only [Act.put,sx_,sy_,sz_,i64_w,i32_w]
               rfl
              refine pure_ (i:=7) (N:=some 75) (v:=?_) (a':=?_) #[true,true,true,true,true,false,true,true,false,false,false,false,false] rfl rfl (any_of HT_.out (by kernel_rfl)) (fun _ _ _ h => h) (Or.inl ⟨by rfl,?_⟩) ?_ ?_
              rotate_left
              ·intro w'
               go_simp
               with_reducible rfl
              rotate_left
              ·simp only [Act.put,sx_,sy_,sz_,i64_w,i32_w]
               rfl
              refine pure_ (i:=8) (N:=some 76) (v:=?_) (a':=?_) #[true,true,true,true,true,false,true,true,true,false,false,false,false] rfl rfl (any_of HT_.out (by kernel_rfl)) (fun _ _ _ h => h) (Or.inl ⟨by rfl,?_⟩) ?_ ?_
              rotate_left
              ·intro w'
               go_simp
               with_reducible rfl
              rotate_left
              ·simp only [Act.put,sx_,sy_,sz_,i64_w,i32_w]
               rfl
              refine take_ (i:=5) (N:=some 73) (v:=?_) (a':=?_) #[true,true,true,true,true,true,true,true,true,false,false,false,false] rfl rfl (take_ofW HT_.out HW_.out (by kernel_rfl)) (fun _ _ _ h => h) (Or.inl ⟨by rfl,?_⟩) hHeld ?_ ?_
              rotate_left
              ·rintro w' ⟨s0,s1⟩
               go_simp
               with_reducible rfl
              rotate_left
              ·simp only [Act.put,sx_,sy_,sz_,i64_w,i32_w]
               rfl
              refine take_ (i:=9) (N:=some 77) (v:=?_) (a':=?_) #[true,true,true,true,true,true,true,true,true,true,false,false,false] rfl rfl (take_ofW HT_.out HW_.out (by kernel_rfl)) (fun _ _ _ h => h) (Or.inl ⟨by rfl,?_⟩) hHeld ?_ ?_
              rotate_left
              ·rintro w' ⟨s0,s1⟩
               go_simp
               with_reducible rfl
              rotate_left
              ·simp only [Act.put,sx_,sy_,sz_,i64_w,i32_w]
               rfl
              refine pure_ (i:=10) (N:=some 78) (v:=?_) (a':=?_) #[true,true,true,true,true,true,true,true,true,true,true,false,false] rfl rfl (any_of HT_.out (by kernel_rfl)) (fun _ _ _ h => h) (Or.inl ⟨by rfl,?_⟩) ?_ ?_
              rotate_left
              ·intro w'
               go_simp
               with_reducible rfl
              rotate_left
              ·simp only [Act.put,sx_,sy_,sz_,i64_w,i32_w]
               rfl
              refine pure_ (i:=11) (N:=some 79) (v:=?_) (a':=?_) #[true,true,true,true,true,true,true,true,true,true,true,true,false] rfl rfl (any_of HT_.out (by kernel_rfl)) (fun _ _ _ h => h) (Or.inl ⟨by rfl,?_⟩) ?_ ?_
              rotate_left
              ·intro w'
               go_simp
               with_reducible rfl
              rotate_left
              ·simp only [Act.put,sx_,sy_,sz_,i64_w,i32_w]
               rfl
              refine last_ (i:=12) (N:=none) #[true,true,true,true,true,true,true,true,true,true,true,true,true] rfl rfl (one_of HT_.out (by kernel_rfl)) (by decide) (fun K hK => ?_)
              refine skip_ (w1:=?_) (by rfl) rfl ?_ ?_
              rotate_left
              ·go_simp
               rfl
              refine hK.out _ _ ?_
              clear hK K
              refine done_ (done_of HT_.out (by kernel_rfl)) ?_
              try go_wp2
              go_roundg k2
              case measure => have:=HJ3.out;have:=HK2.out;omega
              case rel => exact ⟨(y516),(wrap64 (x9_2 + 1)),qf_,H',⟨by have:=HJ3.out;have:=HK2.out;omega⟩,⟨qr_ HQ49⟩,⟨by (with_reducible repeat (first|apply ra_|apply rn_|apply rd_));exact rm_ (rf_ (p:=⟨go45,(x9_2 : Int).toNat,none⟩) (rm_ HO_8.out (fun k_ hk => (⟨hk,fun e_ => hk (by rw [e_];rfl)⟩ : _ ∧ k_ ≠ go45))) (fun _ hk => hk.2) (.bool ((rdOf false x7_2 x9_2) != (rdOf false t511 x9_2)))) (fun _ hk => hk.1)⟩,⟨by (with_reducible repeat (first|refine kn_ ?_ _|refine kd_ ?_|refine ka_ ?_ _));refine blk_far ?_ (by have h_:=Kd.R_ne HO_7.out BK492.out (by decide);intro e_;exact h_ (by rw [e_];rfl)) _;(with_reducible repeat (first|refine kn_ ?_ _|refine kd_ ?_|refine ka_ ?_ _));exact BK492.out⟩,⟨u2_ HB GB45 GE492⟩⟩
             ·rw [if_neg c44] at H
              exact absurd H (by simp)
            ·rw [if_neg c43] at H
             exact absurd H (by simp)
           ·rw [if_neg c42] at H
            have c42b0 : decide (x9_2 < (x7_2.length : Int)) = false:=decide_eq_false c42
            clear c42
            replace H:=Option.bind_eq_some_iff.mp H
            obtain ⟨t517,A500,H⟩:=H
            replace H : (some t517) = some r:=H
            have A50:=mk_ A500
            clear A500
            obtain rfl:=Option.some.inj H
            obtain ⟨Ao51,co51,eo51⟩:=Kd.R_slice HO_7.out
            subst eo51
            go_wp2_with (first|((with_reducible refine gate_callee (f:=70) rfl ?_);refine goesL_ (some 81) rfl rfl Try.func70 (by kernel_rfl) rfl #[.slice Ao51 x7_2.length co51] rfl qm_ ?_;(with_reducible refine (spec_l19List.calls k2 _ _ x7_2 t517 _ ?side1 ?side2 A50.out).mono ?_);(case side1 => repeat (first|exact (rr_ HO_7.out).2.2|(with_reducible refine ca_ ?_ _)|(with_reducible refine cn_ ?_ _)|(with_reducible refine cd_ ?_)));(case side2 => exact (rr_ HO_7.out).2.1);rintro e w52 ⟨v518,rfl,ho0,hb⟩;refine ⟨_,rfl,?_⟩;have n0_:=mk_ (rb_ (qr_ HO_7) hb);have n1_:=mk_ (rb_ (qr_ HO_8) hb);have n2_:=mk_ (Kd.R_lower ho0 (bz_ (qc_ HB GE492)));have n3_:=mk_ (blk_below (g:=gb492) (o:=.cells #[.int .i64 a0_0,.slice A0_1 l0_1.length c0_1,.slice (some ad499) l0_2.length c0_2,.slice A0_3 l0_3.length c0_3] 30 (0,0)) (qk_ BK492) hb);have n4_:=mk_ (st_ (qc_ HB GE492) hb);clear HO_7;clear HO_8;clear BK492;clear HB;have HO_7:=n0_;have HO_8:=n1_;have HO519:=n2_;have BK492:=n3_;have HB:=n4_;clear n0_ n1_ n2_ n3_ n4_;(try clear hb);(try clear hb2);(try clear hk);(try clear hi);(try clear ho0)))
            go_ret
            exact ⟨_,qe_,qr_ HO519,u1_ HB GE492⟩
        ·rw [if_neg c32] at H
         have c32b0 : (t500 == t502) = false:=beq_eq_false_iff_ne.mpr c32
         have c32b1 : (t500 != t502) = true:=bne_iff_ne.mpr c32
         obtain ⟨y503,hy503⟩ : ∃ y_ : List Int,y_ = (([] : List Int)):=⟨_,rfl⟩
         replace H : (some y503) = some r:=by first|(rw [hy503];with_reducible exact H)|(have H2_:=(Option.bind_some _ _).symm.trans H;rw [hy503];with_reducible exact H2_)|(have H2_:=(Option.bind_some _ _).symm.trans H;with_reducible exact H2_)|with_reducible exact H|(rw [hy503];exact H)|exact H
         have Ny503:=mk_ hy503
         clear hy503
         obtain rfl:=Option.some.inj H
         try go_wp2
         have n0_:=mk_ (kd_ BK492.out)
         have n1_:=mk_ (bd_ HB.out)
         clear BK492
         clear HB
         have BK492:=n0_
         have HB:=n1_
         clear n0_ n1_
         have p499 : 0 ≤ (a1 : Int):=od_ qa_
         have q499 : a1 < (l0_2.length : Int):=od_ qa_
         obtain ⟨ad499,e499,hx499_0⟩:=Kd.at_int HR0_2.out a1 p499 q499
         have hw499_0:=hx499_0
         cases e499
         replace hx499_0:=(HB.out.cell (wl_ w _ hx499_0)).trans hx499_0
         replace p499:=eq_true p499
         replace q499:=eq_true q499
         have p501 : 0 ≤ (a2 : Int):=od_ qa_
         have q501 : a2 < (l0_2.length : Int):=od_ qa_
         obtain ⟨ad501,e501,hx501_0⟩:=Kd.at_int HR0_2.out a2 p501 q501
         have hw501_0:=hx501_0
         obtain rfl : ad499 = ad501:=(by injection e501)
         replace hx501_0:=(HB.out.cell (wl_ w _ hx501_0)).trans hx501_0
         replace p501:=eq_true p501
         replace q501:=eq_true q501
         refine start_ (n:=21) (S:=fun w' => w'.cell? ⟨gb492,0,none⟩ = some (.int .i64 a0_0) ∧ w'.cell? ⟨gb492,1,none⟩ = some (.slice A0_1 l0_1.length c0_1) ∧ w'.cell? ⟨gb492,2,none⟩ = some (.slice (some ad499) l0_2.length c0_2) ∧ w'.cell? ⟨gb492,3,none⟩ = some (.slice A0_3 l0_3.length c0_3) ∧ w'.cell? (ad499.add (a1).toNat) = some (.int .i64 (rd l0_2 a1)) ∧ w'.cell? (ad499.add (a2).toNat) = some (.int .i64 (rd l0_2 a2))) (ds:=[]) #[false,false,false,false,false,false,false,false,false,false,false,false,false,false,false,false,false,false,false,false,false] (by kernel_rfl) rfl rfl ⟨(bc_ BK492.out 0).trans rfl,(bc_ BK492.out 1).trans rfl,(bc_ BK492.out 2).trans rfl,(bc_ BK492.out 3).trans rfl,((HB.out.cell (wl_ w _ hw499_0)).trans hw499_0),((HB.out.cell (wl_ w _ hw501_0)).trans hw501_0)⟩ (fun hHeld => ?_);refine with_tabW spec_TreeWay.tab3 spec_TreeWay.bits3 (fun HT_ HW_ => ?_)
         generalize wc.drew = w53 at BK492 HB hx499_0 hx501_0 hHeld ⊢
         refine pure_ (i:=0) (N:=some 26) (v:=?_) (a':=?_) #[true,false,false,false,false,false,false,false,false,false,false,false,false,false,false,false,false,false,false,false,false] rfl rfl (any_of HT_.out (by kernel_rfl)) (fun _ _ _ h => h) (Or.inl ⟨by rfl,?_⟩) ?_ ?_
         rotate_left
         ·intro w'
          go_simp
          with_reducible rfl
         rotate_left
         ·simp only [Act.put,sx_,sy_,sz_,i64_w,i32_w]
          rfl
         refine pure_ (i:=2) (N:=some 28) (v:=?_) (a':=?_) #[true,false,true,false,false,false,false,false,false,false,false,false,false,false,false,false,false,false,false,false,false] rfl rfl (any_of HT_.out (by kernel_rfl)) (fun _ _ _ h => h) (Or.inl ⟨by rfl,?_⟩) ?_ ?_
         rotate_left
         ·intro w'
          go_simp
          with_reducible rfl
         rotate_left
         ·simp only [Act.put,sx_,sy_,sz_,i64_w,i32_w]
          rfl
         refine pure_ (i:=4) (N:=some 30) (v:=?_) (a':=?_) #[true,false,true,false,true,false,false,false,false,false,false,false,false,false,false,false,false,false,false,false,false] rfl rfl (any_of HT_.out (by kernel_rfl)) (fun _ _ _ h => h) (Or.inl ⟨by rfl,?_⟩) ?_ ?_
         rotate_left
         ·intro w'
          go_simp
          with_reducible rfl
         rotate_left
         ·simp only [Act.put,sx_,sy_,sz_,i64_w,i32_w]
          rfl
         refine pure_ (i:=6) (N:=some 32) (v:=?_) (a':=?_) #[true,false,true,false,true,false,true,false,false,false,false,false,false,false,false,false,false,false,false,false,false] rfl rfl (any_of HT_.out (by kernel_rfl)) (fun _ _ _ h => h) (Or.inl ⟨by rfl,?_⟩) ?_ ?_
         rotate_left
         ·intro w'
          go_simp
          with_reducible rfl
         rotate_left
         ·simp only [Act.put,sx_,sy_,sz_,i64_w,i32_w]
          rfl
         refine pure_ (i:=10) (N:=some 36) (v:=?_) (a':=?_) #[true,false,true,false,true,false,true,false,false,false,true,false,false,false,false,false,false,false,false,false,false] rfl rfl (any_of HT_.out (by kernel_rfl)) (fun _ _ _ h => h) (Or.inl ⟨by rfl,?_⟩) ?_ ?_
         rotate_left
         ·intro w'
          go_simp
          with_reducible rfl
         rotate_left
         ·simp only [Act.put,sx_,sy_,sz_,i64_w,i32_w]
          rfl
         refine pure_ (i:=12) (N:=some 38) (v:=?_) (a':=?_) #[true,false,true,false,true,false,true,false,false,false,true,false,true,false,false,false,false,false,false,false,false] rfl rfl (any_of HT_.out (by kernel_rfl)) (fun _ _ _ h => h) (Or.inl ⟨by rfl,?_⟩) ?_ ?_
         rotate_left
         ·intro w'
          go_simp
          with_reducible rfl
         rotate_left
         ·simp only [Act.put,sx_,sy_,sz_,i64_w,i32_w]
          rfl
         refine pure_ (i:=14) (N:=some 40) (v:=?_) (a':=?_) #[true,false,true,false,true,false,true,false,false,false,true,false,true,false,true,false,false,false,false,false,false] rfl rfl (any_of HT_.out (by kernel_rfl)) (fun _ _ _ h => h) (Or.inl ⟨by rfl,?_⟩) ?_ ?_
         rotate_left
         ·intro w'
          go_simp
          with_reducible rfl
         rotate_left
         ·simp only [Act.put,sx_,sy_,sz_,i64_w,i32_w]
          rfl
         refine pure_ (i:=16) (N:=some 42) (v:=?_) (a':=?_) #[true,false,true,false,true,false,true,false,false,false,true,false,true,false,true,false,true,false,false,false,false] rfl rfl (any_of HT_.out (by kernel_rfl)) (fun _ _ _ h => h) (Or.inl ⟨by rfl,?_⟩) ?_ ?_
         rotate_left
         ·intro w'
          go_simp
          with_reducible rfl
         rotate_left
         ·simp only [Act.put,sx_,sy_,sz_,i64_w,i32_w]
          rfl
         refine take_ (i:=1) (N:=some 27) (v:=?_) (a':=?_) #[true,true,true,false,true,false,true,false,false,false,true,false,true,false,true,false,true,false,false,false,false] rfl rfl (take_ofW HT_.out HW_.out (by kernel_rfl)) (fun _ _ _ h => h) (Or.inl ⟨by rfl,?_⟩) hHeld ?_ ?_
         rotate_left
         ·rintro w' ⟨s0,s1,s2,s3,s4,s5⟩
          go_simp
          with_reducible rfl
         rotate_left
         ·simp only [Act.put,sx_,sy_,sz_,i64_w,i32_w]
          rfl
         refine take_ (i:=3) (N:=some 29) (v:=?_) (a':=?_) #[true,true,true,true,true,false,true,false,false,false,true,false,true,false,true,false,true,false,false,false,false] rfl rfl (take_ofW HT_.out HW_.out (by kernel_rfl)) (fun _ _ _ h => h) (Or.inl ⟨by rfl,?_⟩) hHeld ?_ ?_
         rotate_left
         ·rintro w' ⟨s0,s1,s2,s3,s4,s5⟩
          go_simp
          with_reducible rfl
         rotate_left
         ·simp only [Act.put,sx_,sy_,sz_,i64_w,i32_w]
          rfl
         refine take_ (i:=5) (N:=some 31) (v:=?_) (a':=?_) #[true,true,true,true,true,true,true,false,false,false,true,false,true,false,true,false,true,false,false,false,false] rfl rfl (take_ofW HT_.out HW_.out (by kernel_rfl)) (fun _ _ _ h => h) (Or.inl ⟨by rfl,?_⟩) hHeld ?_ ?_
         rotate_left
         ·rintro w' ⟨s0,s1,s2,s3,s4,s5⟩
          go_simp
          with_reducible rfl
         rotate_left
         ·simp only [Act.put,sx_,sy_,sz_,i64_w,i32_w]
          rfl
         refine pure_ (i:=7) (N:=some 33) (v:=?_) (a':=?_) #[true,true,true,true,true,true,true,true,false,false,true,false,true,false,true,false,true,false,false,false,false] rfl rfl (any_of HT_.out (by kernel_rfl)) (fun _ _ _ h => h) (Or.inl ⟨by rfl,?_⟩) ?_ ?_
         rotate_left
         ·intro w'
          go_simp
          with_reducible rfl
         rotate_left
         ·simp only [Act.put,sx_,sy_,sz_,i64_w,i32_w]
          rfl
         refine take_ (i:=8) (N:=some 34) (v:=?_) (a':=?_) #[true,true,true,true,true,true,true,true,true,false,true,false,true,false,true,false,true,false,false,false,false] rfl rfl (take_ofW HT_.out HW_.out (by kernel_rfl)) (fun _ _ _ h => h) (Or.inl ⟨by rfl,?_⟩) hHeld ?_ ?_
         rotate_left
         ·rintro w' ⟨s0,s1,s2,s3,s4,s5⟩
          go_simp
          with_reducible rfl
         rotate_left
         ·simp only [Act.put,sx_,sy_,sz_,i64_w,i32_w]
          rfl
         refine take_ (i:=11) (N:=some 37) (v:=?_) (a':=?_) #[true,true,true,true,true,true,true,true,true,false,true,true,true,false,true,false,true,false,false,false,false] rfl rfl (take_ofW HT_.out HW_.out (by kernel_rfl)) (fun _ _ _ h => h) (Or.inl ⟨by rfl,?_⟩) hHeld ?_ ?_
         rotate_left
         ·rintro w' ⟨s0,s1,s2,s3,s4,s5⟩
          go_simp
          with_reducible rfl
         rotate_left
         ·simp only [Act.put,sx_,sy_,sz_,i64_w,i32_w]
          rfl
         refine take_ (i:=13) (N:=some 39) (v:=?_) (a':=?_) #[true,true,true,true,true,true,true,true,true,false,true,true,true,true,true,false,true,false,false,false,false] rfl rfl (take_ofW HT_.out HW_.out (by kernel_rfl)) (fun _ _ _ h => h) (Or.inl ⟨by rfl,?_⟩) hHeld ?_ ?_
         rotate_left
         ·rintro w' ⟨s0,s1,s2,s3,s4,s5⟩
          go_simp
          with_reducible rfl
         rotate_left
         ·simp only [Act.put,sx_,sy_,sz_,i64_w,i32_w]
          rfl
         refine take_ (i:=15) (N:=some 41) (v:=?_) (a':=?_) #[true,true,true,true,true,true,true,true,true,false,true,true,true,true,true,true,true,false,false,false,false] rfl rfl (take_ofW HT_.out HW_.out (by kernel_rfl)) (fun _ _ _ h => h) (Or.inl ⟨by rfl,?_⟩) hHeld ?_ ?_
         rotate_left
         ·rintro w' ⟨s0,s1,s2,s3,s4,s5⟩
          go_simp
          with_reducible rfl
         rotate_left
         ·simp only [Act.put,sx_,sy_,sz_,i64_w,i32_w]
          rfl
         refine pure_ (i:=17) (N:=some 43) (v:=?_) (a':=?_) #[true,true,true,true,true,true,true,true,true,false,true,true,true,true,true,true,true,true,false,false,false] rfl rfl (any_of HT_.out (by kernel_rfl)) (fun _ _ _ h => h) (Or.inl ⟨by rfl,?_⟩) ?_ ?_
         rotate_left
         ·intro w'
          go_simp
          with_reducible rfl
         rotate_left
         ·simp only [Act.put,sx_,sy_,sz_,i64_w,i32_w]
          rfl
         refine take_ (i:=18) (N:=some 44) (v:=?_) (a':=?_) #[true,true,true,true,true,true,true,true,true,false,true,true,true,true,true,true,true,true,true,false,false] rfl rfl (take_ofW HT_.out HW_.out (by kernel_rfl)) (fun _ _ _ h => h) (Or.inl ⟨by rfl,?_⟩) hHeld ?_ ?_
         rotate_left
         ·rintro w' ⟨s0,s1,s2,s3,s4,s5⟩
          go_simp
          with_reducible rfl
         rotate_left
         ·simp only [Act.put,sx_,sy_,sz_,i64_w,i32_w]
          rfl
         refine one_ (i:=9) (N:=some 35) #[true,true,true,true,true,true,true,true,true,true,true,true,true,true,true,true,true,true,true,false,false] rfl rfl (one_of HT_.out (by kernel_rfl)) (by decide) (fun K hK => ?_)
         refine goes_ Try.func68 (by kernel_rfl) rfl #[.int .i64 a0_0,.slice A0_1 l0_1.length c0_1,.int .i64 (rd l0_2 a1)] (by rfl) rfl rfl qm_ ?_
         with_reducible refine (spec_l7Root.calls kj3 a0_0 _ _ l0_1 (rd l0_2 a1) t500 _ ?side1 ?side2 A28.out).mono ?_
         (case side1 => exact qn_ HR0_1 HB)
         (case side2 => exact HC0_1.out)
         rintro e w54 ⟨rfl,hb⟩
         refine ⟨_,rfl,?_⟩
         have n0_:=mk_ (blk_below (g:=gb492) (o:=.cells #[.int .i64 a0_0,.slice A0_1 l0_1.length c0_1,.slice (some ad499) l0_2.length c0_2,.slice A0_3 l0_3.length c0_3] 30 (0,0)) (qk_ BK492) hb)
         have n1_:=mk_ (st_ (qc_ HB GE492) hb)
         clear BK492
         clear HB
         have BK492:=n0_
         have HB:=n1_
         clear n0_ n1_
         (try clear hb)
         (try clear hb2)
         (try clear hk)
         (try clear hi)
         refine hK.out _ _ ⟨(bc_ BK492.out 0).trans rfl,(bc_ BK492.out 1).trans rfl,(bc_ BK492.out 2).trans rfl,(bc_ BK492.out 3).trans rfl,((HB.out.cell (wl_ w _ hw499_0)).trans hw499_0),((HB.out.cell (wl_ w _ hw501_0)).trans hw501_0)⟩ (fun hHeld => ?_)
         clear hK K
         refine norm_ (a':=?_) ?_ ?_
         rotate_left
         ·show Act.put _ (some 35) _ = _
          simp only [Act.put,sx_,sy_,sz_,i64_w,i32_w]
          rfl
         refine one_ (i:=19) (N:=some 45) #[true,true,true,true,true,true,true,true,true,true,true,true,true,true,true,true,true,true,true,true,false] rfl rfl (one_of HT_.out (by kernel_rfl)) (by decide) (fun K hK => ?_)
         refine goes_ Try.func68 (by kernel_rfl) rfl #[.int .i64 a0_0,.slice A0_1 l0_1.length c0_1,.int .i64 (rd l0_2 a2)] (by rfl) rfl rfl qm_ ?_
         with_reducible refine (spec_l7Root.calls kj3 a0_0 _ _ l0_1 (rd l0_2 a2) t502 _ ?side1 ?side2 A31.out).mono ?_
         (case side1 => exact qn_ HR0_1 HB)
         (case side2 => exact HC0_1.out)
         rintro e w55 ⟨rfl,hb⟩
         refine ⟨_,rfl,?_⟩
         have n0_:=mk_ (blk_below (g:=gb492) (o:=.cells #[.int .i64 a0_0,.slice A0_1 l0_1.length c0_1,.slice (some ad499) l0_2.length c0_2,.slice A0_3 l0_3.length c0_3] 30 (0,0)) (qk_ BK492) hb)
         have n1_:=mk_ (st_ (qc_ HB GE492) hb)
         clear BK492
         clear HB
         have BK492:=n0_
         have HB:=n1_
         clear n0_ n1_
         (try clear hb)
         (try clear hb2)
         (try clear hk)
         (try clear hi)
         refine hK.out _ _ ⟨(bc_ BK492.out 0).trans rfl,(bc_ BK492.out 1).trans rfl,(bc_ BK492.out 2).trans rfl,(bc_ BK492.out 3).trans rfl,((HB.out.cell (wl_ w _ hw499_0)).trans hw499_0),((HB.out.cell (wl_ w _ hw501_0)).trans hw501_0)⟩ (fun hHeld => ?_)
         clear hK K
         refine norm_ (a':=?_) ?_ ?_
         rotate_left
         ·show Act.put _ (some 45) _ = _
          simp only [Act.put,sx_,sy_,sz_,i64_w,i32_w]
          rfl
         refine pure_ (i:=20) (N:=some 46) (v:=?_) (a':=?_) #[true,true,true,true,true,true,true,true,true,true,true,true,true,true,true,true,true,true,true,true,true] rfl rfl (any_of HT_.out (by kernel_rfl)) (fun _ _ _ h => h) (Or.inl ⟨by rfl,?_⟩) ?_ ?_
         rotate_left
         ·intro w'
          go_simp
          with_reducible rfl
         rotate_left
         ·simp only [Act.put,sx_,sy_,sz_,i64_w,i32_w]
          rfl
         refine done_ (done_of HT_.out (by kernel_rfl)) ?_
         try go_wp2_with (first|((with_reducible refine gate_dst (N:=47) rfl ?_);refine Kd.R_lit (Kd.int .i64) _ 3 ?hg (N:=47) ?hd (xs:=([] : List Int)) (inner:=[]) (ok:=fun _ => True) (okp:=fun _ => True) ?hr ?hp (fun _ hk => hk) trivial (Below.refl _ _) (Nat.le_refl _) (by simp) ?_;(case hd => rfl);(case hg => rfl);(case hr => first|(go_simp;done)|(go_simp;rfl));(case hp => exact (Reps.none _ _));intro v504 w56 ho57 hb hg_ hnew_;clear hg_ hnew_;(first|rw [← Ny503.out] at ho57|(simp only [Int.reduceToNat] at ho57;rw [← Ny503.out] at ho57));have n0_:=mk_ (Kd.R_lower ho57 (bz_ (qc_ HB GE492)));have n1_:=mk_ (blk_below (g:=gb492) (o:=.cells #[.int .i64 a0_0,.slice A0_1 l0_1.length c0_1,.slice (some ad499) l0_2.length c0_2,.slice A0_3 l0_3.length c0_3] 30 (0,0)) (qk_ BK492) hb);have n2_:=mk_ (st_ (qc_ HB GE492) hb);clear BK492;clear HB;have HO505:=n0_;have BK492:=n1_;have HB:=n2_;clear n0_ n1_ n2_;clear hb ho57))
         go_ret
         exact ⟨_,qe_,qr_ HO505,u1_ HB GE492⟩
       ·rw [if_neg c30] at H
        exact absurd H (by simp)
      ·rw [if_neg c29] at H
       exact absurd H (by simp)
     ·rw [if_neg c27] at H
      exact absurd H (by simp)
    ·rw [if_neg c26] at H
     exact absurd H (by simp)

end Go.Proofs.Ytdamdcdjodmemaa.PAll
