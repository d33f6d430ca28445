/- Proved here: contracts of functions of the given program, or lemmas on them, for the laws of this seat. Written by xprint.py, a program of this session, on the ground of the kit's print; parts by hand: wip/x/ext. -/
import Derived.Test.YtdamdcdjodmemaaPAllx0
import Derived.Test.YtdamdcdjodmemaaPAllx1
namespace Go.Proofs.Ytdamdcdjodmemaa.PAll
open Go.RowKit Go.Proofs.YtdamdcdjodmemaaW.PrintWords Go.Proofs.YtdamdcdjodmemaaW.PrintLast Go.Proofs.YtdamdcdjodmemaaW.PrintMore
attribute [local go_sem] max2_int min2_int max_two min_two max_three min_three max_four min_four   -- for this text's walks alone
set_option linter.unusedVariables false
set_option linter.unusedSimpArgs false

/-! ### impl_Cable_other: function 82 -/
def impl_Cable_other.f (a0_0 : Int) (a0_1 : Int) (a0_2 : Int) (a1 : Int) : Option (Int × Bool):=if a1 = a0_0 then (some (a0_1,true)) else (if a1 = a0_1 then (some (a0_0,true)) else (some (0,false)))
set_option maxHeartbeats 8000000 in
set_option maxRecDepth 100000 in
theorem impl_Cable_other.calls (a0_0 : Int) (a0_1 : Int) (a0_2 : Int) (a1 : Int) (r1 : Int) (r2 : Bool) (w : World) (h : impl_Cable_other.f a0_0 a0_1 a0_2 a1 = some (r1,r2)) :
  Calls Try.prog 82 #[.agg #[.int .i64 a0_0,.int .i64 a0_1,.int .i64 a0_2],.int .i64 a1] w fun e w' => e = .returned (.tuple #[.int .i64 r1,.bool r2]) ∧ Below w.heap.size w w':=by
 have hu51:=Try.underlying51
 have HB:=mk_ (Below.refl w.heap.size w)
 have H : (if a1 = a0_0 then (some (a0_1,true)) else (if a1 = a0_1 then (some (a0_0,true)) else (some (0,false)))) = some (r1,r2):=h
 clear h
 by_cases c3 : a1 = a0_0
 ·rw [if_pos c3] at H
  have c3b0 : (a1 == a0_0) = true:=beq_iff_eq.mpr c3
  have c3b1 : (a1 != a0_0) = false:=bne_eq_false_iff_eq.mpr c3
  clear c3
  simp only [Option.some.injEq,Prod.mk.injEq] at H
  obtain ⟨rfl,rfl⟩:=H
  go_enter Try.func82,Try.ntmps82
  go_wp2_with (first|((with_reducible refine gate_dst (N:=2) rfl ?_);refine box_event ?hg (N:=2) ?hd (cs:=#[.int .i64 a0_0,.int .i64 a0_1,.int .i64 a0_2]) (t:=51) ?hr ?_;(case hd => rfl);(case hg => rfl);(case hr => first|(go_simp;done)|(go_simp;rfl));intro gb125 hg w4 hbox hb;have n0_:=mk_ (st_ (qb_ HB) hb);have n1_:=mk_ (hbox);have n2_:=mk_ ((by rw [hg];exact (bz_ (qb_ HB)) : w.heap.size ≤ gb125));have n3_:=mk_ ((by rw [hg];exact (bz_ (qb_ HB)) : w.heap.size ≤ gb125));clear HB;have HB:=n0_;have BK125:=n1_;have GW125:=n2_;have GE125:=n3_;clear n0_ n1_ n2_ n3_;clear hb hbox hg;have hcz5_0 : w4.cell? ⟨gb125,0,none⟩ = some (.int .i64 a0_0):=(bc_ BK125.out 0).trans rfl;have hcz5_1 : w4.cell? ⟨gb125,1,none⟩ = some (.int .i64 a0_1):=(bc_ BK125.out 1).trans rfl;have hcz5_2 : w4.cell? ⟨gb125,2,none⟩ = some (.int .i64 a0_2):=(bc_ BK125.out 2).trans rfl;have hfz5_0:=bf_ BK125.out 0;have hfz5_1:=bf_ BK125.out 1;have hfz5_2:=bf_ BK125.out 2))
  go_ret2
  exact ⟨qe_,u1_ HB GE125⟩
 ·rw [if_neg c3] at H
  have c3b0 : (a1 == a0_0) = false:=beq_eq_false_iff_ne.mpr c3
  have c3b1 : (a1 != a0_0) = true:=bne_iff_ne.mpr c3
  by_cases c6 : a1 = a0_1
  ·rw [if_pos c6] at H
   have c6b0 : (a1 == a0_1) = true:=beq_iff_eq.mpr c6
   have c6b1 : (a1 != a0_1) = false:=bne_eq_false_iff_eq.mpr c6
   clear c6
   simp only [Option.some.injEq,Prod.mk.injEq] at H
   obtain ⟨rfl,rfl⟩:=H
   go_enter Try.func82,Try.ntmps82
   go_wp2_with (first|((with_reducible refine gate_dst (N:=2) rfl ?_);refine box_event ?hg (N:=2) ?hd (cs:=#[.int .i64 a0_0,.int .i64 a0_1,.int .i64 a0_2]) (t:=51) ?hr ?_;(case hd => rfl);(case hg => rfl);(case hr => first|(go_simp;done)|(go_simp;rfl));intro gb125 hg w7 hbox hb;have n0_:=mk_ (st_ (qb_ HB) hb);have n1_:=mk_ (hbox);have n2_:=mk_ ((by rw [hg];exact (bz_ (qb_ HB)) : w.heap.size ≤ gb125));have n3_:=mk_ ((by rw [hg];exact (bz_ (qb_ HB)) : w.heap.size ≤ gb125));clear HB;have HB:=n0_;have BK125:=n1_;have GW125:=n2_;have GE125:=n3_;clear n0_ n1_ n2_ n3_;clear hb hbox hg;have hcz8_0 : w7.cell? ⟨gb125,0,none⟩ = some (.int .i64 a0_0):=(bc_ BK125.out 0).trans rfl;have hcz8_1 : w7.cell? ⟨gb125,1,none⟩ = some (.int .i64 a0_1):=(bc_ BK125.out 1).trans rfl;have hcz8_2 : w7.cell? ⟨gb125,2,none⟩ = some (.int .i64 a0_2):=(bc_ BK125.out 2).trans rfl;have hfz8_0:=bf_ BK125.out 0;have hfz8_1:=bf_ BK125.out 1;have hfz8_2:=bf_ BK125.out 2))
   go_ret2
   exact ⟨qe_,u1_ HB GE125⟩
  ·rw [if_neg c6] at H
   have c6b0 : (a1 == a0_1) = false:=beq_eq_false_iff_ne.mpr c6
   have c6b1 : (a1 != a0_1) = true:=bne_iff_ne.mpr c6
   simp only [Option.some.injEq,Prod.mk.injEq] at H
   obtain ⟨rfl,rfl⟩:=H
   go_enter Try.func82,Try.ntmps82
   go_wp2_with (first|((with_reducible refine gate_dst (N:=2) rfl ?_);refine box_event ?hg (N:=2) ?hd (cs:=#[.int .i64 a0_0,.int .i64 a0_1,.int .i64 a0_2]) (t:=51) ?hr ?_;(case hd => rfl);(case hg => rfl);(case hr => first|(go_simp;done)|(go_simp;rfl));intro gb125 hg w9 hbox hb;have n0_:=mk_ (st_ (qb_ HB) hb);have n1_:=mk_ (hbox);have n2_:=mk_ ((by rw [hg];exact (bz_ (qb_ HB)) : w.heap.size ≤ gb125));have n3_:=mk_ ((by rw [hg];exact (bz_ (qb_ HB)) : w.heap.size ≤ gb125));clear HB;have HB:=n0_;have BK125:=n1_;have GW125:=n2_;have GE125:=n3_;clear n0_ n1_ n2_ n3_;clear hb hbox hg;have hcz10_0 : w9.cell? ⟨gb125,0,none⟩ = some (.int .i64 a0_0):=(bc_ BK125.out 0).trans rfl;have hcz10_1 : w9.cell? ⟨gb125,1,none⟩ = some (.int .i64 a0_1):=(bc_ BK125.out 1).trans rfl;have hcz10_2 : w9.cell? ⟨gb125,2,none⟩ = some (.int .i64 a0_2):=(bc_ BK125.out 2).trans rfl;have hfz10_0:=bf_ BK125.out 0;have hfz10_1:=bf_ BK125.out 1;have hfz10_2:=bf_ BK125.out 2))
   go_ret2
   exact ⟨qe_,u1_ HB GE125⟩

/-! ### impl_upOf: function 63 -/
def impl_upOf.l0 : Nat → List Int → Int → Int → Int → List (S51) → Int → Int → Option (Int × Int)
 | 0,_,_,_,_,_,_,_ => none
 | k + 1,x1,x2,x8,x9,x14,x15,x16 => if x16 < x15 then (if 0 ≤ x16 then (if x16 < (x14.length : Int) then ((impl_Cable_other.f ((rd_T51 x14 x16).f0) ((rd_T51 x14 x16).f1) ((rd_T51 x14 x16).f2) x2).bind fun bt128 => (if bt128.2 = true then (if 0 ≤ bt128.1 then (if bt128.1 < (x1.length : Int) then (if 0 ≤ x2 then (if x2 < (x1.length : Int) then (if (wrap64 ((rd x1 bt128.1) + ((rd_T51 x14 x16).f2))) = (rd x1 x2) then (if x8 < 0 then (impl_upOf.l0 k x1 x2 x16 bt128.1 x14 x15 (wrap64 (x16 + 1))) else (if bt128.1 < x9 then (impl_upOf.l0 k x1 x2 x16 bt128.1 x14 x15 (wrap64 (x16 + 1))) else (impl_upOf.l0 k x1 x2 x8 x9 x14 x15 (wrap64 (x16 + 1))))) else (impl_upOf.l0 k x1 x2 x8 x9 x14 x15 (wrap64 (x16 + 1)))) else (none)) else (none)) else (none)) else (none)) else (impl_upOf.l0 k x1 x2 x8 x9 x14 x15 (wrap64 (x16 + 1))))) else (none)) else (none)) else (some (x8,x9))
def impl_upOf.f (k : Nat) (l0 : List (S51)) (l1 : List Int) (a2 : Int) : Option (Int × Int):=impl_upOf.l0 k l1 a2 (-1) (-1) l0 (l0.length : Int) 0
theorem impl_upOf.mono_l : ∀ k,(∀ y0 y1 y2 y3 y4 y5 y6,LeO (impl_upOf.l0 k y0 y1 y2 y3 y4 y5 y6) (impl_upOf.l0 (k + 1) y0 y1 y2 y3 y4 y5 y6))
 | 0 => fun _ _ _ _ _ _ _ r h => by simp [impl_upOf.l0] at h
 | k + 1 => by
  have ih0:=impl_upOf.mono_l k
  ·intro y0 y1 y2 y3 y4 y5 y6
   unfold impl_upOf.l0
   repeat' first
   | (with_reducible exact ih0 _ _ _ _ _ _ _)
   | (with_reducible exact LeO.refl _)
   | (with_reducible exact LeO.none _)
   | (with_reducible refine LeO.ite ?_ ?_)
   | (with_reducible refine LeO.bind ?_ (fun _ => ?_))
   | exact ih0 _ _ _ _ _ _ _
   | exact LeO.none _
   | refine LeO.ite ?_ ?_
   | refine LeO.bind ?_ (fun _ => ?_)
theorem impl_upOf.mono : ∀ a0 a1 a2 k,LeO (impl_upOf.f k a0 a1 a2) (impl_upOf.f (k + 1) a0 a1 a2):=by
 intro a0 a1 a2 k
 have ih0:=impl_upOf.mono_l k
 unfold impl_upOf.f
 repeat' first
   | (with_reducible exact ih0 _ _ _ _ _ _ _)
   | (with_reducible exact LeO.refl _)
   | (with_reducible exact LeO.none _)
   | (with_reducible refine LeO.ite ?_ ?_)
   | (with_reducible refine LeO.bind ?_ (fun _ => ?_))
   | exact ih0 _ _ _ _ _ _ _
   | exact LeO.none _
   | refine LeO.ite ?_ ?_
   | refine LeO.bind ?_ (fun _ => ?_)
set_option maxHeartbeats 8000000 in
set_option maxRecDepth 100000 in
theorem impl_upOf.calls (k : Nat) (A0 : Option Addr) (c0 : Nat) (l0 : List (S51)) (A1 : Option Addr) (c1 : Nat) (l1 : List Int) (a2 : Int) (r1 : Int) (r2 : Int) (w : World) (hr0 : Kd.C k51 w A0 l0.length l0) (hc0 : l0.length ≤ c0) (hr1 : Kd.C (Kd.int .i64) w A1 l1.length l1) (hc1 : l1.length ≤ c1) (h : impl_upOf.f k l0 l1 a2 = some (r1,r2)) :
  Calls Try.prog 63 #[.slice A0 l0.length c0,.slice A1 l1.length c1,.int .i64 a2] w fun e w' => e = .returned (.tuple #[.int .i64 r1,.int .i64 r2]) ∧ Below w.heap.size w w':=by
 have hu51:=Try.underlying51
 have HR0:=mk_ hr0
 have HC0:=mk_ hc0
 clear hr0 hc0
 have HR1:=mk_ hr1
 have HC1:=mk_ hc1
 clear hr1 hc1
 have HB:=mk_ (Below.refl w.heap.size w)
 have H : (impl_upOf.l0 k l1 a2 (-1) (-1) l0 (l0.length : Int) 0) = some (r1,r2):=h
 clear h
 have H':=mk_ H
 clear H
 go_enter Try.func63,Try.ntmps63
 go_wp2
 repeat (go_quiet (fail);try go_wp2)
 go_loopg [8,9,16] k (fun kq v8 v9 v16 w' => ∃ (x8_1 : Int) (x9_1 : Int) (x16_1 : Int),v8 = .int .i64 x8_1 ∧ v9 = .int .i64 x9_1 ∧ v16 = .int .i64 x16_1 ∧ Aside0 (impl_upOf.l0 kq l1 a2 x8_1 x9_1 l0 (l0.length : Int) x16_1 = some (r1,r2)) ∧ Aside0 (kq ≤ k) ∧ Aside0 (Below w.heap.size w w'))
 case atStart => exact ⟨((-1)),((-1)),(0),qf_,qf_,qf_,H',⟨Nat.le_refl _⟩,⟨u0_ HB⟩⟩
 case round =>
  clear H'
  try clear c1
  try clear p2
  obtain ⟨x8_1,x9_1,x16_1,rfl,rfl,rfl,HA,HK1,HB⟩:=hrel
  cases gk with
  | zero => exact absurd HA.out (by simp [impl_upOf.l0])
  | succ k1 =>
   have H:=HA.out
   clear HA
   simp only [impl_upOf.l0] at H
   by_cases c4 : x16_1 < (l0.length : Int)
   ·rw [if_pos c4] at H
    have c4b0 : decide (x16_1 < (l0.length : Int)) = true:=decide_eq_true c4
    clear c4
    by_cases c5 : 0 ≤ x16_1
    ·rw [if_pos c5] at H
     have c5b0 : decide (0 ≤ x16_1) = true:=decide_eq_true c5
     clear c5
     by_cases c6 : x16_1 < (l0.length : Int)
     ·rw [if_pos c6] at H
      have c6b0 : decide (x16_1 < (l0.length : Int)) = true:=decide_eq_true c6
      clear c6
      replace H:=Option.bind_eq_some_iff.mp H
      obtain ⟨⟨t128,t129⟩,A70,H⟩:=H
      replace H : (if t129 = true then (if 0 ≤ t128 then (if t128 < (l1.length : Int) then (if 0 ≤ a2 then (if a2 < (l1.length : Int) then (if (wrap64 ((rd l1 t128) + ((rd_T51 l0 x16_1).f2))) = (rd l1 a2) then (if x8_1 < 0 then (impl_upOf.l0 k1 l1 a2 x16_1 t128 l0 (l0.length : Int) (wrap64 (x16_1 + 1))) else (if t128 < x9_1 then (impl_upOf.l0 k1 l1 a2 x16_1 t128 l0 (l0.length : Int) (wrap64 (x16_1 + 1))) else (impl_upOf.l0 k1 l1 a2 x8_1 x9_1 l0 (l0.length : Int) (wrap64 (x16_1 + 1))))) else (impl_upOf.l0 k1 l1 a2 x8_1 x9_1 l0 (l0.length : Int) (wrap64 (x16_1 + 1)))) else (none)) else (none)) else (none)) else (none)) else (impl_upOf.l0 k1 l1 a2 x8_1 x9_1 l0 (l0.length : Int) (wrap64 (x16_1 + 1)))) = some (r1,r2):=H
      have A7:=mk_ A70
      clear A70
      by_cases c8 : t129 = true
      ·subst c8
       have H1 : (if 0 ≤ t128 then (if t128 < (l1.length : Int) then (if 0 ≤ a2 then (if a2 < (l1.length : Int) then (if (wrap64 ((rd l1 t128) + ((rd_T51 l0 x16_1).f2))) = (rd l1 a2) then (if x8_1 < 0 then (impl_upOf.l0 k1 l1 a2 x16_1 t128 l0 (l0.length : Int) (wrap64 (x16_1 + 1))) else (if t128 < x9_1 then (impl_upOf.l0 k1 l1 a2 x16_1 t128 l0 (l0.length : Int) (wrap64 (x16_1 + 1))) else (impl_upOf.l0 k1 l1 a2 x8_1 x9_1 l0 (l0.length : Int) (wrap64 (x16_1 + 1))))) else (impl_upOf.l0 k1 l1 a2 x8_1 x9_1 l0 (l0.length : Int) (wrap64 (x16_1 + 1)))) else (none)) else (none)) else (none)) else (none)) = some (r1,r2):=by rw [if_pos rfl] at H;exact H
       clear H
       have H:=H1
       clear H1
       by_cases c9 : 0 ≤ t128
       ·rw [if_pos c9] at H
        have c9b0 : decide (0 ≤ t128) = true:=decide_eq_true c9
        clear c9
        by_cases c10 : t128 < (l1.length : Int)
        ·rw [if_pos c10] at H
         have c10b0 : decide (t128 < (l1.length : Int)) = true:=decide_eq_true c10
         clear c10
         by_cases c11 : 0 ≤ a2
         ·rw [if_pos c11] at H
          have c11b0 : decide (0 ≤ a2) = true:=decide_eq_true c11
          clear c11
          by_cases c12 : a2 < (l1.length : Int)
          ·rw [if_pos c12] at H
           have c12b0 : decide (a2 < (l1.length : Int)) = true:=decide_eq_true c12
           clear c12
           by_cases c13 : (wrap64 ((rd l1 t128) + ((rd_T51 l0 x16_1).f2))) = (rd l1 a2)
           ·rw [if_pos c13] at H
            have c13b0 : ((wrap64 ((rd l1 t128) + ((rd_T51 l0 x16_1).f2))) == (rd l1 a2)) = true:=beq_iff_eq.mpr c13
            have c13b1 : ((wrap64 ((rd l1 t128) + ((rd_T51 l0 x16_1).f2))) != (rd l1 a2)) = false:=bne_eq_false_iff_eq.mpr c13
            clear c13
            by_cases c14 : x8_1 < 0
            ·rw [if_pos c14] at H
             have c14b0 : decide (x8_1 < 0) = true:=decide_eq_true c14
             clear c14
             have H':=mk_ H
             clear H
             have p126 : 0 ≤ (x16_1 : Int):=od_ qa_
             have q126 : x16_1 < (l0.length : Int):=od_ qa_
             obtain ⟨ad126,e126,hx126_0,hx126_1,hx126_2⟩:=at_T51 HR0.out x16_1 p126 q126
             cases e126
             replace hx126_0:=(HB.out.cell (wl_ w _ hx126_0)).trans hx126_0
             replace hx126_1:=(HB.out.cell (wl_ w _ hx126_1)).trans hx126_1
             replace hx126_2:=(HB.out.cell (wl_ w _ hx126_2)).trans hx126_2
             replace p126:=eq_true p126
             replace q126:=eq_true q126
             go_wp2_with (first|((with_reducible refine gate_dst (N:=11) rfl ?_);refine box_event ?hg (N:=11) ?hd (cs:=#[.int .i64 0,.int .i64 0,.int .i64 0]) (t:=51) ?hr ?_;(case hd => rfl);(case hg => rfl);(case hr => first|(go_simp;done)|(go_simp;rfl));intro gb127 hg w15 hbox hb;have n0_:=mk_ (st_ (qb_ HB) hb);have n1_:=mk_ (hbox);have n2_:=mk_ ((by rw [hg];exact (bz_ (qb_ HB)) : w.heap.size ≤ gb127));have n3_:=mk_ ((by rw [hg];exact (bz_ (qb_ HB)) : w.heap.size ≤ gb127));clear HB;have HB:=n0_;have BK127:=n1_;have GW127:=n2_;have GE127:=n3_;clear n0_ n1_ n2_ n3_;clear hb hbox hg;have hcz16_0 : w15.cell? ⟨gb127,0,none⟩ = some (.int .i64 0):=(bc_ BK127.out 0).trans rfl;have hcz16_1 : w15.cell? ⟨gb127,1,none⟩ = some (.int .i64 0):=(bc_ BK127.out 1).trans rfl;have hcz16_2 : w15.cell? ⟨gb127,2,none⟩ = some (.int .i64 0):=(bc_ BK127.out 2).trans rfl;have hfz16_0:=bf_ BK127.out 0;have hfz16_1:=bf_ BK127.out 1;have hfz16_2:=bf_ BK127.out 2)|(go_at_call 82;(with_reducible refine (impl_Cable_other.calls ((rd_T51 l0 x16_1).f0) ((rd_T51 l0 x16_1).f1) ((rd_T51 l0 x16_1).f2) a2 t128 true _ A7.out).mono ?_);rintro e w17 ⟨rfl,hb⟩;have n0_:=mk_ (blk_below (g:=gb127) (o:=.cells #[.int .i64 ((rd_T51 l0 x16_1).f0),.int .i64 ((rd_T51 l0 x16_1).f1),.int .i64 ((rd_T51 l0 x16_1).f2)] 51 (0,0)) (by (with_reducible repeat (first|refine kn_ ?_ _|refine kd_ ?_|refine ka_ ?_ _));refine blk_put (cs:=#[.int .i64 ((rd_T51 l0 x16_1).f0),.int .i64 ((rd_T51 l0 x16_1).f1),.int .i64 0]) ?_ 2 _ rfl;(with_reducible repeat (first|refine kn_ ?_ _|refine kd_ ?_|refine ka_ ?_ _));refine blk_put (cs:=#[.int .i64 ((rd_T51 l0 x16_1).f0),.int .i64 0,.int .i64 0]) ?_ 1 _ rfl;(with_reducible repeat (first|refine kn_ ?_ _|refine kd_ ?_|refine ka_ ?_ _));refine blk_put (cs:=#[.int .i64 0,.int .i64 0,.int .i64 0]) ?_ 0 _ rfl;(with_reducible repeat (first|refine kn_ ?_ _|refine kd_ ?_|refine ka_ ?_ _));exact BK127.out) hb);have n1_:=mk_ (st_ (qc_ HB GE127) hb);clear BK127;clear HB;have BK127:=n0_;have HB:=n1_;clear n0_ n1_;(try clear hb);(try clear hb2);(try clear hk);(try clear hi);have p130 : 0 ≤ (t128 : Int):=od_ qa_;have q130 : t128 < (l1.length : Int):=od_ qa_;obtain ⟨ad130,e130,hx130_0⟩:=Kd.at_int HR1.out t128 p130 q130;cases e130;replace hx130_0:=(HB.out.cell (wl_ w _ hx130_0)).trans hx130_0;replace p130:=eq_true p130;replace q130:=eq_true q130;have hcz18_0 : w17.cell? ⟨gb127,0,none⟩ = some (.int .i64 ((rd_T51 l0 x16_1).f0)):=(bc_ BK127.out 0).trans rfl;have hcz18_1 : w17.cell? ⟨gb127,1,none⟩ = some (.int .i64 ((rd_T51 l0 x16_1).f1)):=(bc_ BK127.out 1).trans rfl;have hcz18_2 : w17.cell? ⟨gb127,2,none⟩ = some (.int .i64 ((rd_T51 l0 x16_1).f2)):=(bc_ BK127.out 2).trans rfl;have hfz18_0:=bf_ BK127.out 0;have hfz18_1:=bf_ BK127.out 1;have hfz18_2:=bf_ BK127.out 2;have p131 : 0 ≤ (a2 : Int):=od_ qa_;have q131 : a2 < (l1.length : Int):=od_ qa_;obtain ⟨ad131,e131,hx131_0⟩:=Kd.at_int HR1.out a2 p131 q131;obtain rfl : ad130 = ad131:=(by injection e131);replace hx131_0:=(HB.out.cell (wl_ w _ hx131_0)).trans hx131_0;replace p131:=eq_true p131;replace q131:=eq_true q131))
             repeat (go_quiet (first|((with_reducible refine gate_dst (N:=11) rfl ?_);refine box_event ?hg (N:=11) ?hd (cs:=#[.int .i64 0,.int .i64 0,.int .i64 0]) (t:=51) ?hr ?_;(case hd => rfl);(case hg => rfl);(case hr => first|(go_simp;done)|(go_simp;rfl));intro gb127 hg w15 hbox hb;have n0_:=mk_ (st_ (qb_ HB) hb);have n1_:=mk_ (hbox);have n2_:=mk_ ((by rw [hg];exact (bz_ (qb_ HB)) : w.heap.size ≤ gb127));have n3_:=mk_ ((by rw [hg];exact (bz_ (qb_ HB)) : w.heap.size ≤ gb127));clear HB;have HB:=n0_;have BK127:=n1_;have GW127:=n2_;have GE127:=n3_;clear n0_ n1_ n2_ n3_;clear hb hbox hg;have hcz16_0 : w15.cell? ⟨gb127,0,none⟩ = some (.int .i64 0):=(bc_ BK127.out 0).trans rfl;have hcz16_1 : w15.cell? ⟨gb127,1,none⟩ = some (.int .i64 0):=(bc_ BK127.out 1).trans rfl;have hcz16_2 : w15.cell? ⟨gb127,2,none⟩ = some (.int .i64 0):=(bc_ BK127.out 2).trans rfl;have hfz16_0:=bf_ BK127.out 0;have hfz16_1:=bf_ BK127.out 1;have hfz16_2:=bf_ BK127.out 2)|(go_at_call 82;(with_reducible refine (impl_Cable_other.calls ((rd_T51 l0 x16_1).f0) ((rd_T51 l0 x16_1).f1) ((rd_T51 l0 x16_1).f2) a2 t128 true _ A7.out).mono ?_);rintro e w17 ⟨rfl,hb⟩;have n0_:=mk_ (blk_below (g:=gb127) (o:=.cells #[.int .i64 ((rd_T51 l0 x16_1).f0),.int .i64 ((rd_T51 l0 x16_1).f1),.int .i64 ((rd_T51 l0 x16_1).f2)] 51 (0,0)) (by (with_reducible repeat (first|refine kn_ ?_ _|refine kd_ ?_|refine ka_ ?_ _));refine blk_put (cs:=#[.int .i64 ((rd_T51 l0 x16_1).f0),.int .i64 ((rd_T51 l0 x16_1).f1),.int .i64 0]) ?_ 2 _ rfl;(with_reducible repeat (first|refine kn_ ?_ _|refine kd_ ?_|refine ka_ ?_ _));refine blk_put (cs:=#[.int .i64 ((rd_T51 l0 x16_1).f0),.int .i64 0,.int .i64 0]) ?_ 1 _ rfl;(with_reducible repeat (first|refine kn_ ?_ _|refine kd_ ?_|refine ka_ ?_ _));refine blk_put (cs:=#[.int .i64 0,.int .i64 0,.int .i64 0]) ?_ 0 _ rfl;(with_reducible repeat (first|refine kn_ ?_ _|refine kd_ ?_|refine ka_ ?_ _));exact BK127.out) hb);have n1_:=mk_ (st_ (qc_ HB GE127) hb);clear BK127;clear HB;have BK127:=n0_;have HB:=n1_;clear n0_ n1_;(try clear hb);(try clear hb2);(try clear hk);(try clear hi);have p130 : 0 ≤ (t128 : Int):=od_ qa_;have q130 : t128 < (l1.length : Int):=od_ qa_;obtain ⟨ad130,e130,hx130_0⟩:=Kd.at_int HR1.out t128 p130 q130;cases e130;replace hx130_0:=(HB.out.cell (wl_ w _ hx130_0)).trans hx130_0;replace p130:=eq_true p130;replace q130:=eq_true q130;have hcz18_0 : w17.cell? ⟨gb127,0,none⟩ = some (.int .i64 ((rd_T51 l0 x16_1).f0)):=(bc_ BK127.out 0).trans rfl;have hcz18_1 : w17.cell? ⟨gb127,1,none⟩ = some (.int .i64 ((rd_T51 l0 x16_1).f1)):=(bc_ BK127.out 1).trans rfl;have hcz18_2 : w17.cell? ⟨gb127,2,none⟩ = some (.int .i64 ((rd_T51 l0 x16_1).f2)):=(bc_ BK127.out 2).trans rfl;have hfz18_0:=bf_ BK127.out 0;have hfz18_1:=bf_ BK127.out 1;have hfz18_2:=bf_ BK127.out 2;have p131 : 0 ≤ (a2 : Int):=od_ qa_;have q131 : a2 < (l1.length : Int):=od_ qa_;obtain ⟨ad131,e131,hx131_0⟩:=Kd.at_int HR1.out a2 p131 q131;obtain rfl : ad130 = ad131:=(by injection e131);replace hx131_0:=(HB.out.cell (wl_ w _ hx131_0)).trans hx131_0;replace p131:=eq_true p131;replace q131:=eq_true q131));try go_wp2_with (first|((with_reducible refine gate_dst (N:=11) rfl ?_);refine box_event ?hg (N:=11) ?hd (cs:=#[.int .i64 0,.int .i64 0,.int .i64 0]) (t:=51) ?hr ?_;(case hd => rfl);(case hg => rfl);(case hr => first|(go_simp;done)|(go_simp;rfl));intro gb127 hg w15 hbox hb;have n0_:=mk_ (st_ (qb_ HB) hb);have n1_:=mk_ (hbox);have n2_:=mk_ ((by rw [hg];exact (bz_ (qb_ HB)) : w.heap.size ≤ gb127));have n3_:=mk_ ((by rw [hg];exact (bz_ (qb_ HB)) : w.heap.size ≤ gb127));clear HB;have HB:=n0_;have BK127:=n1_;have GW127:=n2_;have GE127:=n3_;clear n0_ n1_ n2_ n3_;clear hb hbox hg;have hcz16_0 : w15.cell? ⟨gb127,0,none⟩ = some (.int .i64 0):=(bc_ BK127.out 0).trans rfl;have hcz16_1 : w15.cell? ⟨gb127,1,none⟩ = some (.int .i64 0):=(bc_ BK127.out 1).trans rfl;have hcz16_2 : w15.cell? ⟨gb127,2,none⟩ = some (.int .i64 0):=(bc_ BK127.out 2).trans rfl;have hfz16_0:=bf_ BK127.out 0;have hfz16_1:=bf_ BK127.out 1;have hfz16_2:=bf_ BK127.out 2)|(go_at_call 82;(with_reducible refine (impl_Cable_other.calls ((rd_T51 l0 x16_1).f0) ((rd_T51 l0 x16_1).f1) ((rd_T51 l0 x16_1).f2) a2 t128 true _ A7.out).mono ?_);rintro e w17 ⟨rfl,hb⟩;have n0_:=mk_ (blk_below (g:=gb127) (o:=.cells #[.int .i64 ((rd_T51 l0 x16_1).f0),.int .i64 ((rd_T51 l0 x16_1).f1),.int .i64 ((rd_T51 l0 x16_1).f2)] 51 (0,0)) (by (with_reducible repeat (first|refine kn_ ?_ _|refine kd_ ?_|refine ka_ ?_ _));refine blk_put (cs:=#[.int .i64 ((rd_T51 l0 x16_1).f0),.int .i64 ((rd_T51 l0 x16_1).f1),.int .i64 0]) ?_ 2 _ rfl;(with_reducible repeat (first|refine kn_ ?_ _|refine kd_ ?_|refine ka_ ?_ _));refine blk_put (cs:=#[.int .i64 ((rd_T51 l0 x16_1).f0),.int .i64 0,.int .i64 0]) ?_ 1 _ rfl;(with_reducible repeat (first|refine kn_ ?_ _|refine kd_ ?_|refine ka_ ?_ _));refine blk_put (cs:=#[.int .i64 0,.int .i64 0,.int .i64 0]) ?_ 0 _ rfl;(with_reducible repeat (first|refine kn_ ?_ _|refine kd_ ?_|refine ka_ ?_ _));exact BK127.out) hb);have n1_:=mk_ (st_ (qc_ HB GE127) hb);clear BK127;clear HB;have BK127:=n0_;have HB:=n1_;clear n0_ n1_;(try clear hb);(try clear hb2);(try clear hk);(try clear hi);have p130 : 0 ≤ (t128 : Int):=od_ qa_;have q130 : t128 < (l1.length : Int):=od_ qa_;obtain ⟨ad130,e130,hx130_0⟩:=Kd.at_int HR1.out t128 p130 q130;cases e130;replace hx130_0:=(HB.out.cell (wl_ w _ hx130_0)).trans hx130_0;replace p130:=eq_true p130;replace q130:=eq_true q130;have hcz18_0 : w17.cell? ⟨gb127,0,none⟩ = some (.int .i64 ((rd_T51 l0 x16_1).f0)):=(bc_ BK127.out 0).trans rfl;have hcz18_1 : w17.cell? ⟨gb127,1,none⟩ = some (.int .i64 ((rd_T51 l0 x16_1).f1)):=(bc_ BK127.out 1).trans rfl;have hcz18_2 : w17.cell? ⟨gb127,2,none⟩ = some (.int .i64 ((rd_T51 l0 x16_1).f2)):=(bc_ BK127.out 2).trans rfl;have hfz18_0:=bf_ BK127.out 0;have hfz18_1:=bf_ BK127.out 1;have hfz18_2:=bf_ BK127.out 2;have p131 : 0 ≤ (a2 : Int):=od_ qa_;have q131 : a2 < (l1.length : Int):=od_ qa_;obtain ⟨ad131,e131,hx131_0⟩:=Kd.at_int HR1.out a2 p131 q131;obtain rfl : ad130 = ad131:=(by injection e131);replace hx131_0:=(HB.out.cell (wl_ w _ hx131_0)).trans hx131_0;replace p131:=eq_true p131;replace q131:=eq_true q131)))
             go_roundg k1
             case measure => have:=HK1.out;omega
             case rel => exact ⟨(x16_1),(t128),(wrap64 (x16_1 + 1)),qf_,qf_,qf_,H',⟨by have:=HK1.out;omega⟩,⟨u1_ HB GE127⟩⟩
            ·rw [if_neg c14] at H
             have c14b0 : decide (x8_1 < 0) = false:=decide_eq_false c14
             clear c14
             by_cases c19 : t128 < x9_1
             ·rw [if_pos c19] at H
              have c19b0 : decide (t128 < x9_1) = true:=decide_eq_true c19
              clear c19
              have H':=mk_ H
              clear H
              have p126 : 0 ≤ (x16_1 : Int):=od_ qa_
              have q126 : x16_1 < (l0.length : Int):=od_ qa_
              obtain ⟨ad126,e126,hx126_0,hx126_1,hx126_2⟩:=at_T51 HR0.out x16_1 p126 q126
              cases e126
              replace hx126_0:=(HB.out.cell (wl_ w _ hx126_0)).trans hx126_0
              replace hx126_1:=(HB.out.cell (wl_ w _ hx126_1)).trans hx126_1
              replace hx126_2:=(HB.out.cell (wl_ w _ hx126_2)).trans hx126_2
              replace p126:=eq_true p126
              replace q126:=eq_true q126
              go_wp2_with (first|((with_reducible refine gate_dst (N:=11) rfl ?_);refine box_event ?hg (N:=11) ?hd (cs:=#[.int .i64 0,.int .i64 0,.int .i64 0]) (t:=51) ?hr ?_;(case hd => rfl);(case hg => rfl);(case hr => first|(go_simp;done)|(go_simp;rfl));intro gb127 hg w20 hbox hb;have n0_:=mk_ (st_ (qb_ HB) hb);have n1_:=mk_ (hbox);have n2_:=mk_ ((by rw [hg];exact (bz_ (qb_ HB)) : w.heap.size ≤ gb127));have n3_:=mk_ ((by rw [hg];exact (bz_ (qb_ HB)) : w.heap.size ≤ gb127));clear HB;have HB:=n0_;have BK127:=n1_;have GW127:=n2_;have GE127:=n3_;clear n0_ n1_ n2_ n3_;clear hb hbox hg;have hcz21_0 : w20.cell? ⟨gb127,0,none⟩ = some (.int .i64 0):=(bc_ BK127.out 0).trans rfl;have hcz21_1 : w20.cell? ⟨gb127,1,none⟩ = some (.int .i64 0):=(bc_ BK127.out 1).trans rfl;have hcz21_2 : w20.cell? ⟨gb127,2,none⟩ = some (.int .i64 0):=(bc_ BK127.out 2).trans rfl;have hfz21_0:=bf_ BK127.out 0;have hfz21_1:=bf_ BK127.out 1;have hfz21_2:=bf_ BK127.out 2)|(go_at_call 82;(with_reducible refine (impl_Cable_other.calls ((rd_T51 l0 x16_1).f0) ((rd_T51 l0 x16_1).f1) ((rd_T51 l0 x16_1).f2) a2 t128 true _ A7.out).mono ?_);rintro e w22 ⟨rfl,hb⟩;have n0_:=mk_ (blk_below (g:=gb127) (o:=.cells #[.int .i64 ((rd_T51 l0 x16_1).f0),.int .i64 ((rd_T51 l0 x16_1).f1),.int .i64 ((rd_T51 l0 x16_1).f2)] 51 (0,0)) (by (with_reducible repeat (first|refine kn_ ?_ _|refine kd_ ?_|refine ka_ ?_ _));refine blk_put (cs:=#[.int .i64 ((rd_T51 l0 x16_1).f0),.int .i64 ((rd_T51 l0 x16_1).f1),.int .i64 0]) ?_ 2 _ rfl;(with_reducible repeat (first|refine kn_ ?_ _|refine kd_ ?_|refine ka_ ?_ _));refine blk_put (cs:=#[.int .i64 ((rd_T51 l0 x16_1).f0),.int .i64 0,.int .i64 0]) ?_ 1 _ rfl;(with_reducible repeat (first|refine kn_ ?_ _|refine kd_ ?_|refine ka_ ?_ _));refine blk_put (cs:=#[.int .i64 0,.int .i64 0,.int .i64 0]) ?_ 0 _ rfl;(with_reducible repeat (first|refine kn_ ?_ _|refine kd_ ?_|refine ka_ ?_ _));exact BK127.out) hb);have n1_:=mk_ (st_ (qc_ HB GE127) hb);clear BK127;clear HB;have BK127:=n0_;have HB:=n1_;clear n0_ n1_;(try clear hb);(try clear hb2);(try clear hk);(try clear hi);have p130 : 0 ≤ (t128 : Int):=od_ qa_;have q130 : t128 < (l1.length : Int):=od_ qa_;obtain ⟨ad130,e130,hx130_0⟩:=Kd.at_int HR1.out t128 p130 q130;cases e130;replace hx130_0:=(HB.out.cell (wl_ w _ hx130_0)).trans hx130_0;replace p130:=eq_true p130;replace q130:=eq_true q130;have hcz23_0 : w22.cell? ⟨gb127,0,none⟩ = some (.int .i64 ((rd_T51 l0 x16_1).f0)):=(bc_ BK127.out 0).trans rfl;have hcz23_1 : w22.cell? ⟨gb127,1,none⟩ = some (.int .i64 ((rd_T51 l0 x16_1).f1)):=(bc_ BK127.out 1).trans rfl;have hcz23_2 : w22.cell? ⟨gb127,2,none⟩ = some (.int .i64 ((rd_T51 l0 x16_1).f2)):=(bc_ BK127.out 2).trans rfl;have hfz23_0:=bf_ BK127.out 0;have hfz23_1:=bf_ BK127.out 1;have hfz23_2:=bf_ BK127.out 2;have p131 : 0 ≤ (a2 : Int):=od_ qa_;have q131 : a2 < (l1.length : Int):=od_ qa_;obtain ⟨ad131,e131,hx131_0⟩:=Kd.at_int HR1.out a2 p131 q131;obtain rfl : ad130 = ad131:=(by injection e131);replace hx131_0:=(HB.out.cell (wl_ w _ hx131_0)).trans hx131_0;replace p131:=eq_true p131;replace q131:=eq_true q131))
              repeat (go_quiet (first|((with_reducible refine gate_dst (N:=11) rfl ?_);refine box_event ?hg (N:=11) ?hd (cs:=#[.int .i64 0,.int .i64 0,.int .i64 0]) (t:=51) ?hr ?_;(case hd => rfl);(case hg => rfl);(case hr => first|(go_simp;done)|(go_simp;rfl));intro gb127 hg w20 hbox hb;have n0_:=mk_ (st_ (qb_ HB) hb);have n1_:=mk_ (hbox);have n2_:=mk_ ((by rw [hg];exact (bz_ (qb_ HB)) : w.heap.size ≤ gb127));have n3_:=mk_ ((by rw [hg];exact (bz_ (qb_ HB)) : w.heap.size ≤ gb127));clear HB;have HB:=n0_;have BK127:=n1_;have GW127:=n2_;have GE127:=n3_;clear n0_ n1_ n2_ n3_;clear hb hbox hg;have hcz21_0 : w20.cell? ⟨gb127,0,none⟩ = some (.int .i64 0):=(bc_ BK127.out 0).trans rfl;have hcz21_1 : w20.cell? ⟨gb127,1,none⟩ = some (.int .i64 0):=(bc_ BK127.out 1).trans rfl;have hcz21_2 : w20.cell? ⟨gb127,2,none⟩ = some (.int .i64 0):=(bc_ BK127.out 2).trans rfl;have hfz21_0:=bf_ BK127.out 0;have hfz21_1:=bf_ BK127.out 1;have hfz21_2:=bf_ BK127.out 2)|(go_at_call 82;(with_reducible refine (impl_Cable_other.calls ((rd_T51 l0 x16_1).f0) ((rd_T51 l0 x16_1).f1) ((rd_T51 l0 x16_1).f2) a2 t128 true _ A7.out).mono ?_);rintro e w22 ⟨rfl,hb⟩;have n0_:=mk_ (blk_below (g:=gb127) (o:=.cells #[.int .i64 ((rd_T51 l0 x16_1).f0),.int .i64 ((rd_T51 l0 x16_1).f1),.int .i64 ((rd_T51 l0 x16_1).f2)] 51 (0,0)) (by (with_reducible repeat (first|refine kn_ ?_ _|refine kd_ ?_|refine ka_ ?_ _));refine blk_put (cs:=#[.int .i64 ((rd_T51 l0 x16_1).f0),.int .i64 ((rd_T51 l0 x16_1).f1),.int .i64 0]) ?_ 2 _ rfl;(with_reducible repeat (first|refine kn_ ?_ _|refine kd_ ?_|refine ka_ ?_ _));refine blk_put (cs:=#[.int .i64 ((rd_T51 l0 x16_1).f0),.int .i64 0,.int .i64 0]) ?_ 1 _ rfl;(with_reducible repeat (first|refine kn_ ?_ _|refine kd_ ?_|refine ka_ ?_ _));refine blk_put (cs:=#[.int .i64 0,.int .i64 0,.int .i64 0]) ?_ 0 _ rfl;(with_reducible repeat (first|refine kn_ ?_ _|refine kd_ ?_|refine ka_ ?_ _));exact BK127.out) hb);have n1_:=mk_ (st_ (qc_ HB GE127) hb);clear BK127;clear HB;have BK127:=n0_;have HB:=n1_;clear n0_ n1_;(try clear hb);(try clear hb2);(try clear hk);(try clear hi);have p130 : 0 ≤ (t128 : Int):=od_ qa_;have q130 : t128 < (l1.length : Int):=od_ qa_;obtain ⟨ad130,e130,hx130_0⟩:=Kd.at_int HR1.out t128 p130 q130;cases e130;replace hx130_0:=(HB.out.cell (wl_ w _ hx130_0)).trans hx130_0;replace p130:=eq_true p130;replace q130:=eq_true q130;have hcz23_0 : w22.cell? ⟨gb127,0,none⟩ = some (.int .i64 ((rd_T51 l0 x16_1).f0)):=(bc_ BK127.out 0).trans rfl;have hcz23_1 : w22.cell? ⟨gb127,1,none⟩ = some (.int .i64 ((rd_T51 l0 x16_1).f1)):=(bc_ BK127.out 1).trans rfl;have hcz23_2 : w22.cell? ⟨gb127,2,none⟩ = some (.int .i64 ((rd_T51 l0 x16_1).f2)):=(bc_ BK127.out 2).trans rfl;have hfz23_0:=bf_ BK127.out 0;have hfz23_1:=bf_ BK127.out 1;have hfz23_2:=bf_ BK127.out 2;have p131 : 0 ≤ (a2 : Int):=od_ qa_;have q131 : a2 < (l1.length : Int):=od_ qa_;obtain ⟨ad131,e131,hx131_0⟩:=Kd.at_int HR1.out a2 p131 q131;obtain rfl : ad130 = ad131:=(by injection e131);replace hx131_0:=(HB.out.cell (wl_ w _ hx131_0)).trans hx131_0;replace p131:=eq_true p131;replace q131:=eq_true q131));try go_wp2_with (first|((with_reducible refine gate_dst (N:=11) rfl ?_);refine box_event ?hg (N:=11) ?hd (cs:=#[.int .i64 0,.int .i64 0,.int .i64 0]) (t:=51) ?hr ?_;(case hd => rfl);(case hg => rfl);(case hr => first|(go_simp;done)|(go_simp;rfl));intro gb127 hg w20 hbox hb;have n0_:=mk_ (st_ (qb_ HB) hb);have n1_:=mk_ (hbox);have n2_:=mk_ ((by rw [hg];exact (bz_ (qb_ HB)) : w.heap.size ≤ gb127));have n3_:=mk_ ((by rw [hg];exact (bz_ (qb_ HB)) : w.heap.size ≤ gb127));clear HB;have HB:=n0_;have BK127:=n1_;have GW127:=n2_;have GE127:=n3_;clear n0_ n1_ n2_ n3_;clear hb hbox hg;have hcz21_0 : w20.cell? ⟨gb127,0,none⟩ = some (.int .i64 0):=(bc_ BK127.out 0).trans rfl;have hcz21_1 : w20.cell? ⟨gb127,1,none⟩ = some (.int .i64 0):=(bc_ BK127.out 1).trans rfl;have hcz21_2 : w20.cell? ⟨gb127,2,none⟩ = some (.int .i64 0):=(bc_ BK127.out 2).trans rfl;have hfz21_0:=bf_ BK127.out 0;have hfz21_1:=bf_ BK127.out 1;have hfz21_2:=bf_ BK127.out 2)|(go_at_call 82;(with_reducible refine (impl_Cable_other.calls ((rd_T51 l0 x16_1).f0) ((rd_T51 l0 x16_1).f1) ((rd_T51 l0 x16_1).f2) a2 t128 true _ A7.out).mono ?_);rintro e w22 ⟨rfl,hb⟩;have n0_:=mk_ (blk_below (g:=gb127) (o:=.cells #[.int .i64 ((rd_T51 l0 x16_1).f0),.int .i64 ((rd_T51 l0 x16_1).f1),.int .i64 ((rd_T51 l0 x16_1).f2)] 51 (0,0)) (by (with_reducible repeat (first|refine kn_ ?_ _|refine kd_ ?_|refine ka_ ?_ _));refine blk_put (cs:=#[.int .i64 ((rd_T51 l0 x16_1).f0),.int .i64 ((rd_T51 l0 x16_1).f1),.int .i64 0]) ?_ 2 _ rfl;(with_reducible repeat (first|refine kn_ ?_ _|refine kd_ ?_|refine ka_ ?_ _));refine blk_put (cs:=#[.int .i64 ((rd_T51 l0 x16_1).f0),.int .i64 0,.int .i64 0]) ?_ 1 _ rfl;(with_reducible repeat (first|refine kn_ ?_ _|refine kd_ ?_|refine ka_ ?_ _));refine blk_put (cs:=#[.int .i64 0,.int .i64 0,.int .i64 0]) ?_ 0 _ rfl;(with_reducible repeat (first|refine kn_ ?_ _|refine kd_ ?_|refine ka_ ?_ _));exact BK127.out) hb);have n1_:=mk_ (st_ (qc_ HB GE127) hb);clear BK127;clear HB;have BK127:=n0_;have HB:=n1_;clear n0_ n1_;(try clear hb);(try clear hb2);(try clear hk);(try clear hi);have p130 : 0 ≤ (t128 : Int):=od_ qa_;have q130 : t128 < (l1.length : Int):=od_ qa_;obtain ⟨ad130,e130,hx130_0⟩:=Kd.at_int HR1.out t128 p130 q130;cases e130;replace hx130_0:=(HB.out.cell (wl_ w _ hx130_0)).trans hx130_0;replace p130:=eq_true p130;replace q130:=eq_true q130;have hcz23_0 : w22.cell? ⟨gb127,0,none⟩ = some (.int .i64 ((rd_T51 l0 x16_1).f0)):=(bc_ BK127.out 0).trans rfl;have hcz23_1 : w22.cell? ⟨gb127,1,none⟩ = some (.int .i64 ((rd_T51 l0 x16_1).f1)):=(bc_ BK127.out 1).trans rfl;have hcz23_2 : w22.cell? ⟨gb127,2,none⟩ = some (.int .i64 ((rd_T51 l0 x16_1).f2)):=(bc_ BK127.out 2).trans rfl;have hfz23_0:=bf_ BK127.out 0;have hfz23_1:=bf_ BK127.out 1;have hfz23_2:=bf_ BK127.out 2;have p131 : 0 ≤ (a2 : Int):=od_ qa_;have q131 : a2 < (l1.length : Int):=od_ qa_;obtain ⟨ad131,e131,hx131_0⟩:=Kd.at_int HR1.out a2 p131 q131;obtain rfl : ad130 = ad131:=(by injection e131);replace hx131_0:=(HB.out.cell (wl_ w _ hx131_0)).trans hx131_0;replace p131:=eq_true p131;replace q131:=eq_true q131)))
              go_roundg k1
              case measure => have:=HK1.out;omega
              case rel => exact ⟨(x16_1),(t128),(wrap64 (x16_1 + 1)),qf_,qf_,qf_,H',⟨by have:=HK1.out;omega⟩,⟨u1_ HB GE127⟩⟩
             ·rw [if_neg c19] at H
              have c19b0 : decide (t128 < x9_1) = false:=decide_eq_false c19
              clear c19
              have H':=mk_ H
              clear H
              have p126 : 0 ≤ (x16_1 : Int):=od_ qa_
              have q126 : x16_1 < (l0.length : Int):=od_ qa_
              obtain ⟨ad126,e126,hx126_0,hx126_1,hx126_2⟩:=at_T51 HR0.out x16_1 p126 q126
              cases e126
              replace hx126_0:=(HB.out.cell (wl_ w _ hx126_0)).trans hx126_0
              replace hx126_1:=(HB.out.cell (wl_ w _ hx126_1)).trans hx126_1
              replace hx126_2:=(HB.out.cell (wl_ w _ hx126_2)).trans hx126_2
              replace p126:=eq_true p126
              replace q126:=eq_true q126
              go_wp2_with (first|((with_reducible refine gate_dst (N:=11) rfl ?_);refine box_event ?hg (N:=11) ?hd (cs:=#[.int .i64 0,.int .i64 0,.int .i64 0]) (t:=51) ?hr ?_;(case hd => rfl);(case hg => rfl);(case hr => first|(go_simp;done)|(go_simp;rfl));intro gb127 hg w24 hbox hb;have n0_:=mk_ (st_ (qb_ HB) hb);have n1_:=mk_ (hbox);have n2_:=mk_ ((by rw [hg];exact (bz_ (qb_ HB)) : w.heap.size ≤ gb127));have n3_:=mk_ ((by rw [hg];exact (bz_ (qb_ HB)) : w.heap.size ≤ gb127));clear HB;have HB:=n0_;have BK127:=n1_;have GW127:=n2_;have GE127:=n3_;clear n0_ n1_ n2_ n3_;clear hb hbox hg;have hcz25_0 : w24.cell? ⟨gb127,0,none⟩ = some (.int .i64 0):=(bc_ BK127.out 0).trans rfl;have hcz25_1 : w24.cell? ⟨gb127,1,none⟩ = some (.int .i64 0):=(bc_ BK127.out 1).trans rfl;have hcz25_2 : w24.cell? ⟨gb127,2,none⟩ = some (.int .i64 0):=(bc_ BK127.out 2).trans rfl;have hfz25_0:=bf_ BK127.out 0;have hfz25_1:=bf_ BK127.out 1;have hfz25_2:=bf_ BK127.out 2)|(go_at_call 82;(with_reducible refine (impl_Cable_other.calls ((rd_T51 l0 x16_1).f0) ((rd_T51 l0 x16_1).f1) ((rd_T51 l0 x16_1).f2) a2 t128 true _ A7.out).mono ?_);rintro e w26 ⟨rfl,hb⟩;have n0_:=mk_ (blk_below (g:=gb127) (o:=.cells #[.int .i64 ((rd_T51 l0 x16_1).f0),.int .i64 ((rd_T51 l0 x16_1).f1),.int .i64 ((rd_T51 l0 x16_1).f2)] 51 (0,0)) (by (with_reducible repeat (first|refine kn_ ?_ _|refine kd_ ?_|refine ka_ ?_ _));refine blk_put (cs:=#[.int .i64 ((rd_T51 l0 x16_1).f0),.int .i64 ((rd_T51 l0 x16_1).f1),.int .i64 0]) ?_ 2 _ rfl;(with_reducible repeat (first|refine kn_ ?_ _|refine kd_ ?_|refine ka_ ?_ _));refine blk_put (cs:=#[.int .i64 ((rd_T51 l0 x16_1).f0),.int .i64 0,.int .i64 0]) ?_ 1 _ rfl;(with_reducible repeat (first|refine kn_ ?_ _|refine kd_ ?_|refine ka_ ?_ _));refine blk_put (cs:=#[.int .i64 0,.int .i64 0,.int .i64 0]) ?_ 0 _ rfl;(with_reducible repeat (first|refine kn_ ?_ _|refine kd_ ?_|refine ka_ ?_ _));exact BK127.out) hb);have n1_:=mk_ (st_ (qc_ HB GE127) hb);clear BK127;clear HB;have BK127:=n0_;have HB:=n1_;clear n0_ n1_;(try clear hb);(try clear hb2);(try clear hk);(try clear hi);have p130 : 0 ≤ (t128 : Int):=od_ qa_;have q130 : t128 < (l1.length : Int):=od_ qa_;obtain ⟨ad130,e130,hx130_0⟩:=Kd.at_int HR1.out t128 p130 q130;cases e130;replace hx130_0:=(HB.out.cell (wl_ w _ hx130_0)).trans hx130_0;replace p130:=eq_true p130;replace q130:=eq_true q130;have hcz27_0 : w26.cell? ⟨gb127,0,none⟩ = some (.int .i64 ((rd_T51 l0 x16_1).f0)):=(bc_ BK127.out 0).trans rfl;have hcz27_1 : w26.cell? ⟨gb127,1,none⟩ = some (.int .i64 ((rd_T51 l0 x16_1).f1)):=(bc_ BK127.out 1).trans rfl;have hcz27_2 : w26.cell? ⟨gb127,2,none⟩ = some (.int .i64 ((rd_T51 l0 x16_1).f2)):=(bc_ BK127.out 2).trans rfl;have hfz27_0:=bf_ BK127.out 0;have hfz27_1:=bf_ BK127.out 1;have hfz27_2:=bf_ BK127.out 2;have p131 : 0 ≤ (a2 : Int):=od_ qa_;have q131 : a2 < (l1.length : Int):=od_ qa_;obtain ⟨ad131,e131,hx131_0⟩:=Kd.at_int HR1.out a2 p131 q131;obtain rfl : ad130 = ad131:=(by injection e131);replace hx131_0:=(HB.out.cell (wl_ w _ hx131_0)).trans hx131_0;replace p131:=eq_true p131;replace q131:=eq_true q131))
              repeat (go_quiet (first|((with_reducible refine gate_dst (N:=11) rfl ?_);refine box_event ?hg (N:=11) ?hd (cs:=#[.int .i64 0,.int .i64 0,.int .i64 0]) (t:=51) ?hr ?_;(case hd => rfl);(case hg => rfl);(case hr => first|(go_simp;done)|(go_simp;rfl));intro gb127 hg w24 hbox hb;have n0_:=mk_ (st_ (qb_ HB) hb);have n1_:=mk_ (hbox);have n2_:=mk_ ((by rw [hg];exact (bz_ (qb_ HB)) : w.heap.size ≤ gb127));have n3_:=mk_ ((by rw [hg];exact (bz_ (qb_ HB)) : w.heap.size ≤ gb127));clear HB;have HB:=n0_;have BK127:=n1_;have GW127:=n2_;have GE127:=n3_;clear n0_ n1_ n2_ n3_;clear hb hbox hg;have hcz25_0 : w24.cell? ⟨gb127,0,none⟩ = some (.int .i64 0):=(bc_ BK127.out 0).trans rfl;have hcz25_1 : w24.cell? ⟨gb127,1,none⟩ = some (.int .i64 0):=(bc_ BK127.out 1).trans rfl;have hcz25_2 : w24.cell? ⟨gb127,2,none⟩ = some (.int .i64 0):=(bc_ BK127.out 2).trans rfl;have hfz25_0:=bf_ BK127.out 0;have hfz25_1:=bf_ BK127.out 1;have hfz25_2:=bf_ BK127.out 2)|(go_at_call 82;(with_reducible refine (impl_Cable_other.calls ((rd_T51 l0 x16_1).f0) ((rd_T51 l0 x16_1).f1) ((rd_T51 l0 x16_1).f2) a2 t128 true _ A7.out).mono ?_);rintro e w26 ⟨rfl,hb⟩;have n0_:=mk_ (blk_below (g:=gb127) (o:=.cells #[.int .i64 ((rd_T51 l0 x16_1).f0),.int .i64 ((rd_T51 l0 x16_1).f1),.int .i64 ((rd_T51 l0 x16_1).f2)] 51 (0,0)) (by (with_reducible repeat (first|refine kn_ ?_ _|refine kd_ ?_|refine ka_ ?_ _));refine blk_put (cs:=#[.int .i64 ((rd_T51 l0 x16_1).f0),.int .i64 ((rd_T51 l0 x16_1).f1),.int .i64 0]) ?_ 2 _ rfl;(with_reducible repeat (first|refine kn_ ?_ _|refine kd_ ?_|refine ka_ ?_ _));refine blk_put (cs:=#[.int .i64 ((rd_T51 l0 x16_1).f0),.int .i64 0,.int .i64 0]) ?_ 1 _ rfl;(with_reducible repeat (first|refine kn_ ?_ _|refine kd_ ?_|refine ka_ ?_ _));refine blk_put (cs:=#[.int .i64 0,.int .i64 0,.int .i64 0]) ?_ 0 _ rfl;(with_reducible repeat (first|refine kn_ ?_ _|refine kd_ ?_|refine ka_ ?_ _));exact BK127.out) hb);have n1_:=mk_ (st_ (qc_ HB GE127) hb);clear BK127;clear HB;have BK127:=n0_;have HB:=n1_;clear n0_ n1_;(try clear hb);(try clear hb2);(try clear hk);(try clear hi);have p130 : 0 ≤ (t128 : Int):=od_ qa_;have q130 : t128 < (l1.length : Int):=od_ qa_;obtain ⟨ad130,e130,hx130_0⟩:=Kd.at_int HR1.out t128 p130 q130;cases e130;replace hx130_0:=(HB.out.cell (wl_ w _ hx130_0)).trans hx130_0;replace p130:=eq_true p130;replace q130:=eq_true q130;have hcz27_0 : w26.cell? ⟨gb127,0,none⟩ = some (.int .i64 ((rd_T51 l0 x16_1).f0)):=(bc_ BK127.out 0).trans rfl;have hcz27_1 : w26.cell? ⟨gb127,1,none⟩ = some (.int .i64 ((rd_T51 l0 x16_1).f1)):=(bc_ BK127.out 1).trans rfl;have hcz27_2 : w26.cell? ⟨gb127,2,none⟩ = some (.int .i64 ((rd_T51 l0 x16_1).f2)):=(bc_ BK127.out 2).trans rfl;have hfz27_0:=bf_ BK127.out 0;have hfz27_1:=bf_ BK127.out 1;have hfz27_2:=bf_ BK127.out 2;have p131 : 0 ≤ (a2 : Int):=od_ qa_;have q131 : a2 < (l1.length : Int):=od_ qa_;obtain ⟨ad131,e131,hx131_0⟩:=Kd.at_int HR1.out a2 p131 q131;obtain rfl : ad130 = ad131:=(by injection e131);replace hx131_0:=(HB.out.cell (wl_ w _ hx131_0)).trans hx131_0;replace p131:=eq_true p131;replace q131:=eq_true q131));try go_wp2_with (first|((with_reducible refine gate_dst (N:=11) rfl ?_);refine box_event ?hg (N:=11) ?hd (cs:=#[.int .i64 0,.int .i64 0,.int .i64 0]) (t:=51) ?hr ?_;(case hd => rfl);(case hg => rfl);(case hr => first|(go_simp;done)|(go_simp;rfl));intro gb127 hg w24 hbox hb;have n0_:=mk_ (st_ (qb_ HB) hb);have n1_:=mk_ (hbox);have n2_:=mk_ ((by rw [hg];exact (bz_ (qb_ HB)) : w.heap.size ≤ gb127));have n3_:=mk_ ((by rw [hg];exact (bz_ (qb_ HB)) : w.heap.size ≤ gb127));clear HB;have HB:=n0_;have BK127:=n1_;have GW127:=n2_;have GE127:=n3_;clear n0_ n1_ n2_ n3_;clear hb hbox hg;have hcz25_0 : w24.cell? ⟨gb127,0,none⟩ = some (.int .i64 0):=(bc_ BK127.out 0).trans rfl;have hcz25_1 : w24.cell? ⟨gb127,1,none⟩ = some (.int .i64 0):=(bc_ BK127.out 1).trans rfl;have hcz25_2 : w24.cell? ⟨gb127,2,none⟩ = some (.int .i64 0):=(bc_ BK127.out 2).trans rfl;have hfz25_0:=bf_ BK127.out 0;have hfz25_1:=bf_ BK127.out 1;have hfz25_2:=bf_ BK127.out 2)|(go_at_call 82;(with_reducible refine (impl_Cable_other.calls ((rd_T51 l0 x16_1).f0) ((rd_T51 l0 x16_1).f1) ((rd_T51 l0 x16_1).f2) a2 t128 true _ A7.out).mono ?_);rintro e w26 ⟨rfl,hb⟩;have n0_:=mk_ (blk_below (g:=gb127) (o:=.cells #[.int .i64 ((rd_T51 l0 x16_1).f0),.int .i64 ((rd_T51 l0 x16_1).f1),.int .i64 ((rd_T51 l0 x16_1).f2)] 51 (0,0)) (by (with_reducible repeat (first|refine kn_ ?_ _|refine kd_ ?_|refine ka_ ?_ _));refine blk_put (cs:=#[.int .i64 ((rd_T51 l0 x16_1).f0),.int .i64 ((rd_T51 l0 x16_1).f1),.int .i64 0]) ?_ 2 _ rfl;(with_reducible repeat (first|refine kn_ ?_ _|refine kd_ ?_|refine ka_ ?_ _));refine blk_put (cs:=#[.int .i64 ((rd_T51 l0 x16_1).f0),.int .i64 0,.int .i64 0]) ?_ 1 _ rfl;(with_reducible repeat (first|refine kn_ ?_ _|refine kd_ ?_|refine ka_ ?_ _));refine blk_put (cs:=#[.int .i64 0,.int .i64 0,.int .i64 0]) ?_ 0 _ rfl;(with_reducible repeat (first|refine kn_ ?_ _|refine kd_ ?_|refine ka_ ?_ _));exact BK127.out) hb);have n1_:=mk_ (st_ (qc_ HB GE127) hb);clear BK127;clear HB;have BK127:=n0_;have HB:=n1_;clear n0_ n1_;(try clear hb);(try clear hb2);(try clear hk);(try clear hi);have p130 : 0 ≤ (t128 : Int):=od_ qa_;have q130 : t128 < (l1.length : Int):=od_ qa_;obtain ⟨ad130,e130,hx130_0⟩:=Kd.at_int HR1.out t128 p130 q130;cases e130;replace hx130_0:=(HB.out.cell (wl_ w _ hx130_0)).trans hx130_0;replace p130:=eq_true p130;replace q130:=eq_true q130;have hcz27_0 : w26.cell? ⟨gb127,0,none⟩ = some (.int .i64 ((rd_T51 l0 x16_1).f0)):=(bc_ BK127.out 0).trans rfl;have hcz27_1 : w26.cell? ⟨gb127,1,none⟩ = some (.int .i64 ((rd_T51 l0 x16_1).f1)):=(bc_ BK127.out 1).trans rfl;have hcz27_2 : w26.cell? ⟨gb127,2,none⟩ = some (.int .i64 ((rd_T51 l0 x16_1).f2)):=(bc_ BK127.out 2).trans rfl;have hfz27_0:=bf_ BK127.out 0;have hfz27_1:=bf_ BK127.out 1;have hfz27_2:=bf_ BK127.out 2;have p131 : 0 ≤ (a2 : Int):=od_ qa_;have q131 : a2 < (l1.length : Int):=od_ qa_;obtain ⟨ad131,e131,hx131_0⟩:=Kd.at_int HR1.out a2 p131 q131;obtain rfl : ad130 = ad131:=(by injection e131);replace hx131_0:=(HB.out.cell (wl_ w _ hx131_0)).trans hx131_0;replace p131:=eq_true p131;replace q131:=eq_true q131)))
              go_roundg k1
              case measure => have:=HK1.out;omega
              case rel => exact ⟨(x8_1),(x9_1),(wrap64 (x16_1 + 1)),qf_,qf_,qf_,H',⟨by have:=HK1.out;omega⟩,⟨u1_ HB GE127⟩⟩
           ·rw [if_neg c13] at H
            have c13b0 : ((wrap64 ((rd l1 t128) + ((rd_T51 l0 x16_1).f2))) == (rd l1 a2)) = false:=beq_eq_false_iff_ne.mpr c13
            have c13b1 : ((wrap64 ((rd l1 t128) + ((rd_T51 l0 x16_1).f2))) != (rd l1 a2)) = true:=bne_iff_ne.mpr c13
            have H':=mk_ H
            clear H
            have p126 : 0 ≤ (x16_1 : Int):=od_ qa_
            have q126 : x16_1 < (l0.length : Int):=od_ qa_
            obtain ⟨ad126,e126,hx126_0,hx126_1,hx126_2⟩:=at_T51 HR0.out x16_1 p126 q126
            cases e126
            replace hx126_0:=(HB.out.cell (wl_ w _ hx126_0)).trans hx126_0
            replace hx126_1:=(HB.out.cell (wl_ w _ hx126_1)).trans hx126_1
            replace hx126_2:=(HB.out.cell (wl_ w _ hx126_2)).trans hx126_2
            replace p126:=eq_true p126
            replace q126:=eq_true q126
            go_wp2_with (first|((with_reducible refine gate_dst (N:=11) rfl ?_);refine box_event ?hg (N:=11) ?hd (cs:=#[.int .i64 0,.int .i64 0,.int .i64 0]) (t:=51) ?hr ?_;(case hd => rfl);(case hg => rfl);(case hr => first|(go_simp;done)|(go_simp;rfl));intro gb127 hg w28 hbox hb;have n0_:=mk_ (st_ (qb_ HB) hb);have n1_:=mk_ (hbox);have n2_:=mk_ ((by rw [hg];exact (bz_ (qb_ HB)) : w.heap.size ≤ gb127));have n3_:=mk_ ((by rw [hg];exact (bz_ (qb_ HB)) : w.heap.size ≤ gb127));clear HB;have HB:=n0_;have BK127:=n1_;have GW127:=n2_;have GE127:=n3_;clear n0_ n1_ n2_ n3_;clear hb hbox hg;have hcz29_0 : w28.cell? ⟨gb127,0,none⟩ = some (.int .i64 0):=(bc_ BK127.out 0).trans rfl;have hcz29_1 : w28.cell? ⟨gb127,1,none⟩ = some (.int .i64 0):=(bc_ BK127.out 1).trans rfl;have hcz29_2 : w28.cell? ⟨gb127,2,none⟩ = some (.int .i64 0):=(bc_ BK127.out 2).trans rfl;have hfz29_0:=bf_ BK127.out 0;have hfz29_1:=bf_ BK127.out 1;have hfz29_2:=bf_ BK127.out 2)|(go_at_call 82;(with_reducible refine (impl_Cable_other.calls ((rd_T51 l0 x16_1).f0) ((rd_T51 l0 x16_1).f1) ((rd_T51 l0 x16_1).f2) a2 t128 true _ A7.out).mono ?_);rintro e w30 ⟨rfl,hb⟩;have n0_:=mk_ (blk_below (g:=gb127) (o:=.cells #[.int .i64 ((rd_T51 l0 x16_1).f0),.int .i64 ((rd_T51 l0 x16_1).f1),.int .i64 ((rd_T51 l0 x16_1).f2)] 51 (0,0)) (by (with_reducible repeat (first|refine kn_ ?_ _|refine kd_ ?_|refine ka_ ?_ _));refine blk_put (cs:=#[.int .i64 ((rd_T51 l0 x16_1).f0),.int .i64 ((rd_T51 l0 x16_1).f1),.int .i64 0]) ?_ 2 _ rfl;(with_reducible repeat (first|refine kn_ ?_ _|refine kd_ ?_|refine ka_ ?_ _));refine blk_put (cs:=#[.int .i64 ((rd_T51 l0 x16_1).f0),.int .i64 0,.int .i64 0]) ?_ 1 _ rfl;(with_reducible repeat (first|refine kn_ ?_ _|refine kd_ ?_|refine ka_ ?_ _));refine blk_put (cs:=#[.int .i64 0,.int .i64 0,.int .i64 0]) ?_ 0 _ rfl;(with_reducible repeat (first|refine kn_ ?_ _|refine kd_ ?_|refine ka_ ?_ _));exact BK127.out) hb);have n1_:=mk_ (st_ (qc_ HB GE127) hb);clear BK127;clear HB;have BK127:=n0_;have HB:=n1_;clear n0_ n1_;(try clear hb);(try clear hb2);(try clear hk);(try clear hi);have p130 : 0 ≤ (t128 : Int):=od_ qa_;have q130 : t128 < (l1.length : Int):=od_ qa_;obtain ⟨ad130,e130,hx130_0⟩:=Kd.at_int HR1.out t128 p130 q130;cases e130;replace hx130_0:=(HB.out.cell (wl_ w _ hx130_0)).trans hx130_0;replace p130:=eq_true p130;replace q130:=eq_true q130;have hcz31_0 : w30.cell? ⟨gb127,0,none⟩ = some (.int .i64 ((rd_T51 l0 x16_1).f0)):=(bc_ BK127.out 0).trans rfl;have hcz31_1 : w30.cell? ⟨gb127,1,none⟩ = some (.int .i64 ((rd_T51 l0 x16_1).f1)):=(bc_ BK127.out 1).trans rfl;have hcz31_2 : w30.cell? ⟨gb127,2,none⟩ = some (.int .i64 ((rd_T51 l0 x16_1).f2)):=(bc_ BK127.out 2).trans rfl;have hfz31_0:=bf_ BK127.out 0;have hfz31_1:=bf_ BK127.out 1;have hfz31_2:=bf_ BK127.out 2;have p131 : 0 ≤ (a2 : Int):=od_ qa_;have q131 : a2 < (l1.length : Int):=od_ qa_;obtain ⟨ad131,e131,hx131_0⟩:=Kd.at_int HR1.out a2 p131 q131;obtain rfl : ad130 = ad131:=(by injection e131);replace hx131_0:=(HB.out.cell (wl_ w _ hx131_0)).trans hx131_0;replace p131:=eq_true p131;replace q131:=eq_true q131))
            repeat (go_quiet (first|((with_reducible refine gate_dst (N:=11) rfl ?_);refine box_event ?hg (N:=11) ?hd (cs:=#[.int .i64 0,.int .i64 0,.int .i64 0]) (t:=51) ?hr ?_;(case hd => rfl);(case hg => rfl);(case hr => first|(go_simp;done)|(go_simp;rfl));intro gb127 hg w28 hbox hb;have n0_:=mk_ (st_ (qb_ HB) hb);have n1_:=mk_ (hbox);have n2_:=mk_ ((by rw [hg];exact (bz_ (qb_ HB)) : w.heap.size ≤ gb127));have n3_:=mk_ ((by rw [hg];exact (bz_ (qb_ HB)) : w.heap.size ≤ gb127));clear HB;have HB:=n0_;have BK127:=n1_;have GW127:=n2_;have GE127:=n3_;clear n0_ n1_ n2_ n3_;clear hb hbox hg;have hcz29_0 : w28.cell? ⟨gb127,0,none⟩ = some (.int .i64 0):=(bc_ BK127.out 0).trans rfl;have hcz29_1 : w28.cell? ⟨gb127,1,none⟩ = some (.int .i64 0):=(bc_ BK127.out 1).trans rfl;have hcz29_2 : w28.cell? ⟨gb127,2,none⟩ = some (.int .i64 0):=(bc_ BK127.out 2).trans rfl;have hfz29_0:=bf_ BK127.out 0;have hfz29_1:=bf_ BK127.out 1;have hfz29_2:=bf_ BK127.out 2)|(go_at_call 82;(with_reducible refine (impl_Cable_other.calls ((rd_T51 l0 x16_1).f0) ((rd_T51 l0 x16_1).f1) ((rd_T51 l0 x16_1).f2) a2 t128 true _ A7.out).mono ?_);rintro e w30 ⟨rfl,hb⟩;have n0_:=mk_ (blk_below (g:=gb127) (o:=.cells #[.int .i64 ((rd_T51 l0 x16_1).f0),.int .i64 ((rd_T51 l0 x16_1).f1),.int .i64 ((rd_T51 l0 x16_1).f2)] 51 (0,0)) (by (with_reducible repeat (first|refine kn_ ?_ _|refine kd_ ?_|refine ka_ ?_ _));refine blk_put (cs:=#[.int .i64 ((rd_T51 l0 x16_1).f0),.int .i64 ((rd_T51 l0 x16_1).f1),.int .i64 0]) ?_ 2 _ rfl;(with_reducible repeat (first|refine kn_ ?_ _|refine kd_ ?_|refine ka_ ?_ _));refine blk_put (cs:=#[.int .i64 ((rd_T51 l0 x16_1).f0),.int .i64 0,.int .i64 0]) ?_ 1 _ rfl;(with_reducible repeat (first|refine kn_ ?_ _|refine kd_ ?_|refine ka_ ?_ _));refine blk_put (cs:=#[.int .i64 0,.int .i64 0,.int .i64 0]) ?_ 0 _ rfl;(with_reducible repeat (first|refine kn_ ?_ _|refine kd_ ?_|refine ka_ ?_ _));exact BK127.out) hb);have n1_:=mk_ (st_ (qc_ HB GE127) hb);clear BK127;clear HB;have BK127:=n0_;have HB:=n1_;clear n0_ n1_;(try clear hb);(try clear hb2);(try clear hk);(try clear hi);have p130 : 0 ≤ (t128 : Int):=od_ qa_;have q130 : t128 < (l1.length : Int):=od_ qa_;obtain ⟨ad130,e130,hx130_0⟩:=Kd.at_int HR1.out t128 p130 q130;cases e130;replace hx130_0:=(HB.out.cell (wl_ w _ hx130_0)).trans hx130_0;replace p130:=eq_true p130;replace q130:=eq_true q130;have hcz31_0 : w30.cell? ⟨gb127,0,none⟩ = some (.int .i64 ((rd_T51 l0 x16_1).f0)):=(bc_ BK127.out 0).trans rfl;have hcz31_1 : w30.cell? ⟨gb127,1,none⟩ = some (.int .i64 ((rd_T51 l0 x16_1).f1)):=(bc_ BK127.out 1).trans rfl;have hcz31_2 : w30.cell? ⟨gb127,2,none⟩ = some (.int .i64 ((rd_T51 l0 x16_1).f2)):=(bc_ BK127.out 2).trans rfl;have hfz31_0:=bf_ BK127.out 0;have hfz31_1:=bf_ BK127.out 1;have hfz31_2:=bf_ BK127.out 2;have p131 : 0 ≤ (a2 : Int):=od_ qa_;have q131 : a2 < (l1.length : Int):=od_ qa_;obtain ⟨ad131,e131,hx131_0⟩:=Kd.at_int HR1.out a2 p131 q131;obtain rfl : ad130 = ad131:=(by injection e131);replace hx131_0:=(HB.out.cell (wl_ w _ hx131_0)).trans hx131_0;replace p131:=eq_true p131;replace q131:=eq_true q131));try go_wp2_with (first|((with_reducible refine gate_dst (N:=11) rfl ?_);refine box_event ?hg (N:=11) ?hd (cs:=#[.int .i64 0,.int .i64 0,.int .i64 0]) (t:=51) ?hr ?_;(case hd => rfl);(case hg => rfl);(case hr => first|(go_simp;done)|(go_simp;rfl));intro gb127 hg w28 hbox hb;have n0_:=mk_ (st_ (qb_ HB) hb);have n1_:=mk_ (hbox);have n2_:=mk_ ((by rw [hg];exact (bz_ (qb_ HB)) : w.heap.size ≤ gb127));have n3_:=mk_ ((by rw [hg];exact (bz_ (qb_ HB)) : w.heap.size ≤ gb127));clear HB;have HB:=n0_;have BK127:=n1_;have GW127:=n2_;have GE127:=n3_;clear n0_ n1_ n2_ n3_;clear hb hbox hg;have hcz29_0 : w28.cell? ⟨gb127,0,none⟩ = some (.int .i64 0):=(bc_ BK127.out 0).trans rfl;have hcz29_1 : w28.cell? ⟨gb127,1,none⟩ = some (.int .i64 0):=(bc_ BK127.out 1).trans rfl;have hcz29_2 : w28.cell? ⟨gb127,2,none⟩ = some (.int .i64 0):=(bc_ BK127.out 2).trans rfl;have hfz29_0:=bf_ BK127.out 0;have hfz29_1:=bf_ BK127.out 1;have hfz29_2:=bf_ BK127.out 2)|(go_at_call 82;(with_reducible refine (impl_Cable_other.calls ((rd_T51 l0 x16_1).f0) ((rd_T51 l0 x16_1).f1) ((rd_T51 l0 x16_1).f2) a2 t128 true _ A7.out).mono ?_);rintro e w30 ⟨rfl,hb⟩;have n0_:=mk_ (blk_below (g:=gb127) (o:=.cells #[.int .i64 ((rd_T51 l0 x16_1).f0),.int .i64 ((rd_T51 l0 x16_1).f1),.int .i64 ((rd_T51 l0 x16_1).f2)] 51 (0,0)) (by (with_reducible repeat (first|refine kn_ ?_ _|refine kd_ ?_|refine ka_ ?_ _));refine blk_put (cs:=#[.int .i64 ((rd_T51 l0 x16_1).f0),.int .i64 ((rd_T51 l0 x16_1).f1),.int .i64 0]) ?_ 2 _ rfl;(with_reducible repeat (first|refine kn_ ?_ _|refine kd_ ?_|refine ka_ ?_ _));refine blk_put (cs:=#[.int .i64 ((rd_T51 l0 x16_1).f0),.int .i64 0,.int .i64 0]) ?_ 1 _ rfl;(with_reducible repeat (first|refine kn_ ?_ _|refine kd_ ?_|refine ka_ ?_ _));refine blk_put (cs:=#[.int .i64 0,.int .i64 0,.int .i64 0]) ?_ 0 _ rfl;(with_reducible repeat (first|refine kn_ ?_ _|refine kd_ ?_|refine ka_ ?_ _));exact BK127.out) hb);have n1_:=mk_ (st_ (qc_ HB GE127) hb);clear BK127;clear HB;have BK127:=n0_;have HB:=n1_;clear n0_ n1_;(try clear hb);(try clear hb2);(try clear hk);(try clear hi);have p130 : 0 ≤ (t128 : Int):=od_ qa_;have q130 : t128 < (l1.length : Int):=od_ qa_;obtain ⟨ad130,e130,hx130_0⟩:=Kd.at_int HR1.out t128 p130 q130;cases e130;replace hx130_0:=(HB.out.cell (wl_ w _ hx130_0)).trans hx130_0;replace p130:=eq_true p130;replace q130:=eq_true q130;have hcz31_0 : w30.cell? ⟨gb127,0,none⟩ = some (.int .i64 ((rd_T51 l0 x16_1).f0)):=(bc_ BK127.out 0).trans rfl;have hcz31_1 : w30.cell? ⟨gb127,1,none⟩ = some (.int .i64 ((rd_T51 l0 x16_1).f1)):=(bc_ BK127.out 1).trans rfl;have hcz31_2 : w30.cell? ⟨gb127,2,none⟩ = some (.int .i64 ((rd_T51 l0 x16_1).f2)):=(bc_ BK127.out 2).trans rfl;have hfz31_0:=bf_ BK127.out 0;have hfz31_1:=bf_ BK127.out 1;have hfz31_2:=bf_ BK127.out 2;have p131 : 0 ≤ (a2 : Int):=od_ qa_;have q131 : a2 < (l1.length : Int):=od_ qa_;obtain ⟨ad131,e131,hx131_0⟩:=Kd.at_int HR1.out a2 p131 q131;obtain rfl : ad130 = ad131:=(by injection e131);replace hx131_0:=(HB.out.cell (wl_ w _ hx131_0)).trans hx131_0;replace p131:=eq_true p131;replace q131:=eq_true q131)))
            go_roundg k1
            case measure => have:=HK1.out;omega
            case rel => exact ⟨(x8_1),(x9_1),(wrap64 (x16_1 + 1)),qf_,qf_,qf_,H',⟨by have:=HK1.out;omega⟩,⟨u1_ HB GE127⟩⟩
          ·rw [if_neg c12] at H
           exact absurd H (by simp)
         ·rw [if_neg c11] at H
          exact absurd H (by simp)
        ·rw [if_neg c10] at H
         exact absurd H (by simp)
       ·rw [if_neg c9] at H
        exact absurd H (by simp)
      ·replace c8:=Bool.eq_false_iff.mpr c8
       subst c8
       have H1 : (impl_upOf.l0 k1 l1 a2 x8_1 x9_1 l0 (l0.length : Int) (wrap64 (x16_1 + 1))) = some (r1,r2):=by rw [if_neg (show ¬ (false = true) by decide)] at H;exact H
       clear H
       have H:=H1
       clear H1
       have H':=mk_ H
       clear H
       have p126 : 0 ≤ (x16_1 : Int):=od_ qa_
       have q126 : x16_1 < (l0.length : Int):=od_ qa_
       obtain ⟨ad126,e126,hx126_0,hx126_1,hx126_2⟩:=at_T51 HR0.out x16_1 p126 q126
       cases e126
       replace hx126_0:=(HB.out.cell (wl_ w _ hx126_0)).trans hx126_0
       replace hx126_1:=(HB.out.cell (wl_ w _ hx126_1)).trans hx126_1
       replace hx126_2:=(HB.out.cell (wl_ w _ hx126_2)).trans hx126_2
       replace p126:=eq_true p126
       replace q126:=eq_true q126
       go_wp2_with (first|((with_reducible refine gate_dst (N:=11) rfl ?_);refine box_event ?hg (N:=11) ?hd (cs:=#[.int .i64 0,.int .i64 0,.int .i64 0]) (t:=51) ?hr ?_;(case hd => rfl);(case hg => rfl);(case hr => first|(go_simp;done)|(go_simp;rfl));intro gb127 hg w32 hbox hb;have n0_:=mk_ (st_ (qb_ HB) hb);have n1_:=mk_ (hbox);have n2_:=mk_ ((by rw [hg];exact (bz_ (qb_ HB)) : w.heap.size ≤ gb127));have n3_:=mk_ ((by rw [hg];exact (bz_ (qb_ HB)) : w.heap.size ≤ gb127));clear HB;have HB:=n0_;have BK127:=n1_;have GW127:=n2_;have GE127:=n3_;clear n0_ n1_ n2_ n3_;clear hb hbox hg;have hcz33_0 : w32.cell? ⟨gb127,0,none⟩ = some (.int .i64 0):=(bc_ BK127.out 0).trans rfl;have hcz33_1 : w32.cell? ⟨gb127,1,none⟩ = some (.int .i64 0):=(bc_ BK127.out 1).trans rfl;have hcz33_2 : w32.cell? ⟨gb127,2,none⟩ = some (.int .i64 0):=(bc_ BK127.out 2).trans rfl;have hfz33_0:=bf_ BK127.out 0;have hfz33_1:=bf_ BK127.out 1;have hfz33_2:=bf_ BK127.out 2)|(go_at_call 82;(with_reducible refine (impl_Cable_other.calls ((rd_T51 l0 x16_1).f0) ((rd_T51 l0 x16_1).f1) ((rd_T51 l0 x16_1).f2) a2 t128 false _ A7.out).mono ?_);rintro e w34 ⟨rfl,hb⟩;have n0_:=mk_ (blk_below (g:=gb127) (o:=.cells #[.int .i64 ((rd_T51 l0 x16_1).f0),.int .i64 ((rd_T51 l0 x16_1).f1),.int .i64 ((rd_T51 l0 x16_1).f2)] 51 (0,0)) (by (with_reducible repeat (first|refine kn_ ?_ _|refine kd_ ?_|refine ka_ ?_ _));refine blk_put (cs:=#[.int .i64 ((rd_T51 l0 x16_1).f0),.int .i64 ((rd_T51 l0 x16_1).f1),.int .i64 0]) ?_ 2 _ rfl;(with_reducible repeat (first|refine kn_ ?_ _|refine kd_ ?_|refine ka_ ?_ _));refine blk_put (cs:=#[.int .i64 ((rd_T51 l0 x16_1).f0),.int .i64 0,.int .i64 0]) ?_ 1 _ rfl;(with_reducible repeat (first|refine kn_ ?_ _|refine kd_ ?_|refine ka_ ?_ _));refine blk_put (cs:=#[.int .i64 0,.int .i64 0,.int .i64 0]) ?_ 0 _ rfl;(with_reducible repeat (first|refine kn_ ?_ _|refine kd_ ?_|refine ka_ ?_ _));exact BK127.out) hb);have n1_:=mk_ (st_ (qc_ HB GE127) hb);clear BK127;clear HB;have BK127:=n0_;have HB:=n1_;clear n0_ n1_;(try clear hb);(try clear hb2);(try clear hk);(try clear hi)))
       repeat (go_quiet (first|((with_reducible refine gate_dst (N:=11) rfl ?_);refine box_event ?hg (N:=11) ?hd (cs:=#[.int .i64 0,.int .i64 0,.int .i64 0]) (t:=51) ?hr ?_;(case hd => rfl);(case hg => rfl);(case hr => first|(go_simp;done)|(go_simp;rfl));intro gb127 hg w32 hbox hb;have n0_:=mk_ (st_ (qb_ HB) hb);have n1_:=mk_ (hbox);have n2_:=mk_ ((by rw [hg];exact (bz_ (qb_ HB)) : w.heap.size ≤ gb127));have n3_:=mk_ ((by rw [hg];exact (bz_ (qb_ HB)) : w.heap.size ≤ gb127));clear HB;have HB:=n0_;have BK127:=n1_;have GW127:=n2_;have GE127:=n3_;clear n0_ n1_ n2_ n3_;clear hb hbox hg;have hcz33_0 : w32.cell? ⟨gb127,0,none⟩ = some (.int .i64 0):=(bc_ BK127.out 0).trans rfl;have hcz33_1 : w32.cell? ⟨gb127,1,none⟩ = some (.int .i64 0):=(bc_ BK127.out 1).trans rfl;have hcz33_2 : w32.cell? ⟨gb127,2,none⟩ = some (.int .i64 0):=(bc_ BK127.out 2).trans rfl;have hfz33_0:=bf_ BK127.out 0;have hfz33_1:=bf_ BK127.out 1;have hfz33_2:=bf_ BK127.out 2)|(go_at_call 82;(with_reducible refine (impl_Cable_other.calls ((rd_T51 l0 x16_1).f0) ((rd_T51 l0 x16_1).f1) ((rd_T51 l0 x16_1).f2) a2 t128 false _ A7.out).mono ?_);rintro e w34 ⟨rfl,hb⟩;have n0_:=mk_ (blk_below (g:=gb127) (o:=.cells #[.int .i64 ((rd_T51 l0 x16_1).f0),.int .i64 ((rd_T51 l0 x16_1).f1),.int .i64 ((rd_T51 l0 x16_1).f2)] 51 (0,0)) (by (with_reducible repeat (first|refine kn_ ?_ _|refine kd_ ?_|refine ka_ ?_ _));refine blk_put (cs:=#[.int .i64 ((rd_T51 l0 x16_1).f0),.int .i64 ((rd_T51 l0 x16_1).f1),.int .i64 0]) ?_ 2 _ rfl;(with_reducible repeat (first|refine kn_ ?_ _|refine kd_ ?_|refine ka_ ?_ _));refine blk_put (cs:=#[.int .i64 ((rd_T51 l0 x16_1).f0),.int .i64 0,.int .i64 0]) ?_ 1 _ rfl;(with_reducible repeat (first|refine kn_ ?_ _|refine kd_ ?_|refine ka_ ?_ _));refine blk_put (cs:=#[.int .i64 0,.int .i64 0,.int .i64 0]) ?_ 0 _ rfl;(with_reducible repeat (first|refine kn_ ?_ _|refine kd_ ?_|refine ka_ ?_ _));exact BK127.out) hb);have n1_:=mk_ (st_ (qc_ HB GE127) hb);clear BK127;clear HB;have BK127:=n0_;have HB:=n1_;clear n0_ n1_;(try clear hb);(try clear hb2);(try clear hk);(try clear hi)));try go_wp2_with (first|((with_reducible refine gate_dst (N:=11) rfl ?_);refine box_event ?hg (N:=11) ?hd (cs:=#[.int .i64 0,.int .i64 0,.int .i64 0]) (t:=51) ?hr ?_;(case hd => rfl);(case hg => rfl);(case hr => first|(go_simp;done)|(go_simp;rfl));intro gb127 hg w32 hbox hb;have n0_:=mk_ (st_ (qb_ HB) hb);have n1_:=mk_ (hbox);have n2_:=mk_ ((by rw [hg];exact (bz_ (qb_ HB)) : w.heap.size ≤ gb127));have n3_:=mk_ ((by rw [hg];exact (bz_ (qb_ HB)) : w.heap.size ≤ gb127));clear HB;have HB:=n0_;have BK127:=n1_;have GW127:=n2_;have GE127:=n3_;clear n0_ n1_ n2_ n3_;clear hb hbox hg;have hcz33_0 : w32.cell? ⟨gb127,0,none⟩ = some (.int .i64 0):=(bc_ BK127.out 0).trans rfl;have hcz33_1 : w32.cell? ⟨gb127,1,none⟩ = some (.int .i64 0):=(bc_ BK127.out 1).trans rfl;have hcz33_2 : w32.cell? ⟨gb127,2,none⟩ = some (.int .i64 0):=(bc_ BK127.out 2).trans rfl;have hfz33_0:=bf_ BK127.out 0;have hfz33_1:=bf_ BK127.out 1;have hfz33_2:=bf_ BK127.out 2)|(go_at_call 82;(with_reducible refine (impl_Cable_other.calls ((rd_T51 l0 x16_1).f0) ((rd_T51 l0 x16_1).f1) ((rd_T51 l0 x16_1).f2) a2 t128 false _ A7.out).mono ?_);rintro e w34 ⟨rfl,hb⟩;have n0_:=mk_ (blk_below (g:=gb127) (o:=.cells #[.int .i64 ((rd_T51 l0 x16_1).f0),.int .i64 ((rd_T51 l0 x16_1).f1),.int .i64 ((rd_T51 l0 x16_1).f2)] 51 (0,0)) (by (with_reducible repeat (first|refine kn_ ?_ _|refine kd_ ?_|refine ka_ ?_ _));refine blk_put (cs:=#[.int .i64 ((rd_T51 l0 x16_1).f0),.int .i64 ((rd_T51 l0 x16_1).f1),.int .i64 0]) ?_ 2 _ rfl;(with_reducible repeat (first|refine kn_ ?_ _|refine kd_ ?_|refine ka_ ?_ _));refine blk_put (cs:=#[.int .i64 ((rd_T51 l0 x16_1).f0),.int .i64 0,.int .i64 0]) ?_ 1 _ rfl;(with_reducible repeat (first|refine kn_ ?_ _|refine kd_ ?_|refine ka_ ?_ _));refine blk_put (cs:=#[.int .i64 0,.int .i64 0,.int .i64 0]) ?_ 0 _ rfl;(with_reducible repeat (first|refine kn_ ?_ _|refine kd_ ?_|refine ka_ ?_ _));exact BK127.out) hb);have n1_:=mk_ (st_ (qc_ HB GE127) hb);clear BK127;clear HB;have BK127:=n0_;have HB:=n1_;clear n0_ n1_;(try clear hb);(try clear hb2);(try clear hk);(try clear hi))))
       go_roundg k1
       case measure => have:=HK1.out;omega
       case rel => exact ⟨(x8_1),(x9_1),(wrap64 (x16_1 + 1)),qf_,qf_,qf_,H',⟨by have:=HK1.out;omega⟩,⟨u1_ HB GE127⟩⟩
     ·rw [if_neg c6] at H
      exact absurd H (by simp)
    ·rw [if_neg c5] at H
     exact absurd H (by simp)
   ·rw [if_neg c4] at H
    have c4b0 : decide (x16_1 < (l0.length : Int)) = false:=decide_eq_false c4
    clear c4
    simp only [Option.some.injEq,Prod.mk.injEq] at H
    obtain ⟨rfl,rfl⟩:=H
    go_wp2
    repeat (go_quiet (fail);try go_wp2)
    go_ret2
    exact ⟨qe_,u0_ HB⟩

/-! ### cmp_isNaN_int: function 112 -/
def cmp_isNaN_int.f (a0 : Int) : Option (Bool):=some (a0 != a0)
set_option maxHeartbeats 8000000 in
set_option maxRecDepth 100000 in
theorem cmp_isNaN_int.calls (a0 : Int) (r : Bool) (w : World) (h : cmp_isNaN_int.f a0 = some r) :
  Calls Try.prog 112 #[.int .i64 a0] w fun e w' => e = .returned (.bool r) ∧ Drawn0 w w':=by
 have H : (some (a0 != a0)) = some r:=h
 clear h
 obtain rfl:=Option.some.inj H
 go_enter Try.func112,Try.ntmps112
 go_wp2
 go_ret
 exact ⟨by first|rfl|(simp;done)|(simp [*];done),by repeat (first|exact Drawn0.refl _|apply Drawn0.step)⟩

/-! ### cmp_Less_int: function 99 -/
def cmp_Less_int.f (a0 : Int) (a1 : Int) : Option (Bool):=(cmp_isNaN_int.f a0).bind fun t132 => (if t132 = true then ((cmp_isNaN_int.f a1).bind fun t133 => (if t133 = true then (some (decide (a0 < a1))) else (some true))) else (some (decide (a0 < a1))))
set_option maxHeartbeats 8000000 in
set_option maxRecDepth 100000 in
theorem cmp_Less_int.calls (a0 : Int) (a1 : Int) (r : Bool) (w : World) (h : cmp_Less_int.f a0 a1 = some r) :
  Calls Try.prog 99 #[.int .i64 a0,.int .i64 a1] w fun e w' => e = .returned (.bool r) ∧ Drawn0 w w':=by
 have H : ((cmp_isNaN_int.f a0).bind fun t132 => (if t132 = true then ((cmp_isNaN_int.f a1).bind fun t133 => (if t133 = true then (some (decide (a0 < a1))) else (some true))) else (some (decide (a0 < a1))))) = some r:=h
 clear h
 replace H:=Option.bind_eq_some_iff.mp H
 obtain ⟨t132,A30,H⟩:=H
 replace H : (if t132 = true then ((cmp_isNaN_int.f a1).bind fun t133 => (if t133 = true then (some (decide (a0 < a1))) else (some true))) else (some (decide (a0 < a1)))) = some r:=H
 have A3:=mk_ A30
 clear A30
 by_cases c4 : t132 = true
 ·subst c4
  have H1 : ((cmp_isNaN_int.f a1).bind fun t133 => (if t133 = true then (some (decide (a0 < a1))) else (some true))) = some r:=by rw [if_pos rfl] at H;exact H
  clear H
  have H:=H1
  clear H1
  replace H:=Option.bind_eq_some_iff.mp H
  obtain ⟨t133,A50,H⟩:=H
  replace H : (if t133 = true then (some (decide (a0 < a1))) else (some true)) = some r:=H
  have A5:=mk_ A50
  clear A50
  by_cases c6 : t133 = true
  ·subst c6
   have H1 : (some (decide (a0 < a1))) = some r:=by rw [if_pos rfl] at H;exact H
   clear H
   have H:=H1
   clear H1
   obtain rfl:=Option.some.inj H
   go_enter Try.func99,Try.ntmps99
   go_wp2_with (first|((with_reducible refine gate_callee (f:=112) rfl ?_);refine goesL_ (some 6) rfl rfl Try.func112 (by kernel_rfl) rfl #[.int .i64 a0] rfl qm_ ?_;(with_reducible refine (cmp_isNaN_int.calls a0 true _ A3.out).mono ?_);rintro e w' ⟨rfl,⟨nd,rfl⟩⟩;refine ⟨_,rfl,?_⟩)|(go_at_call 112;(with_reducible refine (cmp_isNaN_int.calls a1 true _ A5.out).mono ?_);rintro e w' ⟨rfl,⟨nd,rfl⟩⟩))
   go_ret
   exact ⟨by first|rfl|(simp;done)|(simp [*];done),by repeat (first|exact Drawn0.refl _|apply Drawn0.step)⟩
  ·replace c6:=Bool.eq_false_iff.mpr c6
   subst c6
   have H1 : (some true) = some r:=by rw [if_neg (show ¬ (false = true) by decide)] at H;exact H
   clear H
   have H:=H1
   clear H1
   obtain rfl:=Option.some.inj H
   go_enter Try.func99,Try.ntmps99
   go_wp2_with (first|((with_reducible refine gate_callee (f:=112) rfl ?_);refine goesL_ (some 6) rfl rfl Try.func112 (by kernel_rfl) rfl #[.int .i64 a0] rfl qm_ ?_;(with_reducible refine (cmp_isNaN_int.calls a0 true _ A3.out).mono ?_);rintro e w' ⟨rfl,⟨nd,rfl⟩⟩;refine ⟨_,rfl,?_⟩)|(go_at_call 112;(with_reducible refine (cmp_isNaN_int.calls a1 false _ A5.out).mono ?_);rintro e w' ⟨rfl,⟨nd,rfl⟩⟩))
   go_ret
   exact ⟨by first|rfl|(simp;done)|(simp [*];done),by repeat (first|exact Drawn0.refl _|apply Drawn0.step)⟩
 ·replace c4:=Bool.eq_false_iff.mpr c4
  subst c4
  have H1 : (some (decide (a0 < a1))) = some r:=by rw [if_neg (show ¬ (false = true) by decide)] at H;exact H
  clear H
  have H:=H1
  clear H1
  obtain rfl:=Option.some.inj H
  go_enter Try.func99,Try.ntmps99
  go_wp2_with (first|((with_reducible refine gate_callee (f:=112) rfl ?_);refine goesL_ (some 6) rfl rfl Try.func112 (by kernel_rfl) rfl #[.int .i64 a0] rfl qm_ ?_;(with_reducible refine (cmp_isNaN_int.calls a0 false _ A3.out).mono ?_);rintro e w' ⟨rfl,⟨nd,rfl⟩⟩;refine ⟨_,rfl,?_⟩))
  go_ret
  exact ⟨by first|rfl|(simp;done)|(simp [*];done),by repeat (first|exact Drawn0.refl _|apply Drawn0.step)⟩

/-! ### slices_insertionSortOrdered_int: function 93 -/
mutual
def slices_insertionSortOrdered_int.l0 : Nat → List Int → Int → Int → Int → Option (List Int)
 | 0,_,_,_,_ => none
 | k + 1,x0,x1,x2,x6 => if x6 < x2 then (slices_insertionSortOrdered_int.l1 k x0 x1 x2 x6 x6) else (some x0)
def slices_insertionSortOrdered_int.l1 : Nat → List Int → Int → Int → Int → Int → Option (List Int)
 | 0,_,_,_,_,_ => none
 | k + 1,x0,x1,x2,x6,x7 => if x7 > x1 then (if 0 ≤ x7 then (if x7 < (x0.length : Int) then (if 0 ≤ (wrap64 (x7 - 1)) then (if (wrap64 (x7 - 1)) < (x0.length : Int) then ((cmp_Less_int.f (rd x0 x7) (rd x0 (wrap64 (x7 - 1)))).bind fun t136 => (if t136 = true then (slices_insertionSortOrdered_int.l1 k ((x0.set (x7 : Int).toNat (rd x0 (wrap64 (x7 - 1)))).set ((wrap64 (x7 - 1)) : Int).toNat (rd x0 x7)) x1 x2 x6 (wrap64 (x7 - 1))) else (slices_insertionSortOrdered_int.l0 k x0 x1 x2 (wrap64 (x6 + 1))))) else (none)) else (none)) else (none)) else (none)) else (slices_insertionSortOrdered_int.l0 k x0 x1 x2 (wrap64 (x6 + 1)))
end
def slices_insertionSortOrdered_int.f (k : Nat) (l0 : List Int) (a1 : Int) (a2 : Int) : Option (List Int):=slices_insertionSortOrdered_int.l0 k l0 a1 a2 (wrap64 (a1 + 1))
theorem slices_insertionSortOrdered_int.mono_l : ∀ k,(∀ y0 y1 y2 y3,LeO (slices_insertionSortOrdered_int.l0 k y0 y1 y2 y3) (slices_insertionSortOrdered_int.l0 (k + 1) y0 y1 y2 y3)) ∧ (∀ y0 y1 y2 y3 y4,LeO (slices_insertionSortOrdered_int.l1 k y0 y1 y2 y3 y4) (slices_insertionSortOrdered_int.l1 (k + 1) y0 y1 y2 y3 y4))
 | 0 => ⟨fun _ _ _ _ r h => by simp [slices_insertionSortOrdered_int.l0] at h,fun _ _ _ _ _ r h => by simp [slices_insertionSortOrdered_int.l1] at h⟩
 | k + 1 => by
  obtain ⟨ih0,ih1⟩:=slices_insertionSortOrdered_int.mono_l k
  refine ⟨?_,?_⟩
  ·intro y0 y1 y2 y3
   unfold slices_insertionSortOrdered_int.l0
   repeat' first
   | (with_reducible exact ih0 _ _ _ _)
   | (with_reducible exact ih1 _ _ _ _ _)
   | (with_reducible exact LeO.refl _)
   | (with_reducible exact LeO.none _)
   | (with_reducible refine LeO.ite ?_ ?_)
   | (with_reducible refine LeO.bind ?_ (fun _ => ?_))
   | exact ih0 _ _ _ _
   | exact ih1 _ _ _ _ _
   | exact LeO.none _
   | refine LeO.ite ?_ ?_
   | refine LeO.bind ?_ (fun _ => ?_)
  ·intro y0 y1 y2 y3 y4
   unfold slices_insertionSortOrdered_int.l1
   repeat' first
   | (with_reducible exact ih0 _ _ _ _)
   | (with_reducible exact ih1 _ _ _ _ _)
   | (with_reducible exact LeO.refl _)
   | (with_reducible exact LeO.none _)
   | (with_reducible refine LeO.ite ?_ ?_)
   | (with_reducible refine LeO.bind ?_ (fun _ => ?_))
   | exact ih0 _ _ _ _
   | exact ih1 _ _ _ _ _
   | exact LeO.none _
   | refine LeO.ite ?_ ?_
   | refine LeO.bind ?_ (fun _ => ?_)
theorem slices_insertionSortOrdered_int.mono : ∀ a0 a1 a2 k,LeO (slices_insertionSortOrdered_int.f k a0 a1 a2) (slices_insertionSortOrdered_int.f (k + 1) a0 a1 a2):=by
 intro a0 a1 a2 k
 obtain ⟨ih0,ih1⟩:=slices_insertionSortOrdered_int.mono_l k
 unfold slices_insertionSortOrdered_int.f
 repeat' first
   | (with_reducible exact ih0 _ _ _ _)
   | (with_reducible exact ih1 _ _ _ _ _)
   | (with_reducible exact LeO.refl _)
   | (with_reducible exact LeO.none _)
   | (with_reducible refine LeO.ite ?_ ?_)
   | (with_reducible refine LeO.bind ?_ (fun _ => ?_))
   | exact ih0 _ _ _ _
   | exact ih1 _ _ _ _ _
   | exact LeO.none _
   | refine LeO.ite ?_ ?_
   | refine LeO.bind ?_ (fun _ => ?_)
def slices_insertionSortOrdered_int.T4 : Bool × List (List Nat × List Nat):=(true,[([],[]),([],[]),([0,1],[0,1]),([2],[2]),([3],[3]),([3],[3]),([4,5,3],[3,4,5]),([6,3],[3,6]),([3],[3]),([3],[3]),([9,3],[3,9]),([8,10,3],[3,8,10]),([11,3],[3,11]),([7,12,3,3],[3,7,12]),([3,13],[3,13])])
def slices_insertionSortOrdered_int.B4 : List Nat:=[0,0,3,7,15,15,63,127,15,15,527,1807,3855,8191,16383]
theorem slices_insertionSortOrdered_int.tab4 : rtab .any (opsOf Try.f93 4) = slices_insertionSortOrdered_int.T4:=by kernel_rfl
theorem slices_insertionSortOrdered_int.bits4 : waitsOk slices_insertionSortOrdered_int.T4.2 slices_insertionSortOrdered_int.B4 = true:=by kernel_rfl
def slices_insertionSortOrdered_int.T6 : Bool × List (List Nat × List Nat):=(true,[([],[]),([],[]),([],[]),([],[]),([3],[3]),([],[]),([],[]),([6],[6]),([5,7],[5,7]),([8],[8]),([],[]),([],[]),([10,11],[10,11]),([12],[12]),([0,1,0,1,5,6,7,8,9,13],[0,1]),([14,9,0,1,5,6,7,8,9,13],[9,14]),([2,4,0,1,2,3,4,5,6,7,8,9,10,11,12,13,14,15],[2,4]),([16,13,15,0,1,2,3,4,5,6,7,8,9,10,11,12,13,14,15],[13,16])])
def slices_insertionSortOrdered_int.B6 : List Nat:=[0,0,0,0,8,0,0,64,224,480,0,0,3072,7168,16355,32739,65535,131071]
theorem slices_insertionSortOrdered_int.tab6 : rtab .any (opsOf Try.f93 6) = slices_insertionSortOrdered_int.T6:=by kernel_rfl
theorem slices_insertionSortOrdered_int.bits6 : waitsOk slices_insertionSortOrdered_int.T6.2 slices_insertionSortOrdered_int.B6 = true:=by kernel_rfl
set_option maxHeartbeats 8000000 in
set_option maxRecDepth 100000 in
theorem slices_insertionSortOrdered_int.calls (k : Nat) (P0_ : Nat → Prop) (u9000_ : Value) (l0 : List Int) (a1 : Int) (a2 : Int) (r : List Int) (w0 w : World) (hB : Below w0.heap.size w0 w) (ho0 : Kd.R (Kd.int .i64) 3 w w0.heap.size P0_ u9000_ l0) (h : slices_insertionSortOrdered_int.f k l0 a1 a2 = some r) :
  Calls Try.prog 93 #[u9000_,.int .i64 a1,.int .i64 a2] w fun e w' => e = .returned (.tuple #[]) ∧ Kd.R (Kd.int .i64) 3 w' w0.heap.size (fun k_ => (P0_ k_ ∨ w.heap.size ≤ k_)) u9000_ r ∧ Below w0.heap.size w0 w' ∧ Kept w w' (fun k_ => P0_ k_):=by
 have HO0:=mk_ (show Kd.R (Kd.int .i64) 3 w w0.heap.size (fun k_ => (P0_ k_ ∨ w.heap.size ≤ k_)) u9000_ l0 from rm_ ho0 (fun k_ hk => (.inl hk)))
 have HK:=mk_ (Kept.refl w (fun k_ => P0_ k_))
 have HW0:=mk_ hB.size
 have HB:=mk_ hB
 clear hB
 have H : (slices_insertionSortOrdered_int.l0 k l0 a1 a2 (wrap64 (a1 + 1))) = some r:=h
 clear h
 have H':=mk_ H
 clear H
 go_enter Try.func93,Try.ntmps93
 go_wp2
 go_loopg [6] k (fun kq v6 w' => ∃ (x0_1 : List Int) (x6_1 : Int),v6 = .int .i64 x6_1 ∧ Aside0 (slices_insertionSortOrdered_int.l0 kq x0_1 a1 a2 x6_1 = some r) ∧ Aside0 (kq ≤ k) ∧ Aside0 (Kd.R (Kd.int .i64) 3 w' w0.heap.size (fun k_ => (P0_ k_ ∨ w.heap.size ≤ k_)) u9000_ x0_1) ∧ Aside0 (Kept w w' (fun k_ => P0_ k_)) ∧ Aside0 (Below w0.heap.size w0 w'))
 case atStart => exact ⟨(l0),(wrap64 (a1 + 1)),qf_,H',⟨Nat.le_refl _⟩,⟨qr_ HO0⟩,⟨u3_ HK⟩,⟨u0_ HB⟩⟩
 case round =>
  clear H'
  try clear p2
  obtain ⟨x0_1,x6_1,rfl,HA,HK1,HO_0,HK,HB⟩:=hrel
  cases gk with
  | zero => exact absurd HA.out (by simp [slices_insertionSortOrdered_int.l0])
  | succ k1 =>
   have H:=HA.out
   clear HA
   simp only [slices_insertionSortOrdered_int.l0] at H
   by_cases c4 : x6_1 < a2
   ·rw [if_pos c4] at H
    have c4b0 : decide (x6_1 < a2) = true:=decide_eq_true c4
    clear c4
    have H':=mk_ H
    clear H
    go_wp2
    go_loopg [7] k1 (fun kq v7 w' => ∃ (x0_2 : List Int) (x7_2 : Int),v7 = .int .i64 x7_2 ∧ Aside0 (slices_insertionSortOrdered_int.l1 kq x0_2 a1 a2 x6_1 x7_2 = some r) ∧ Aside0 (kq ≤ k1) ∧ Aside0 (Kd.R (Kd.int .i64) 3 w' w0.heap.size (fun k_ => (P0_ k_ ∨ w.heap.size ≤ k_)) u9000_ x0_2) ∧ Aside0 (Kept w w' (fun k_ => P0_ k_)) ∧ Aside0 (Below w0.heap.size w0 w'))
    case atStart => exact ⟨(x0_1),(x6_1),qf_,H',⟨Nat.le_refl _⟩,⟨qr_ HO_0⟩,⟨u3_ HK⟩,⟨u0_ HB⟩⟩
    case round =>
     clear H'
     try clear p2
     try clear c4
     try clear c4b0
     try clear p2
     obtain ⟨x0_2,x7_2,rfl,HA,HK2,HO_0,HK,HB⟩:=hrel
     cases gk with
     | zero => exact absurd HA.out (by simp [slices_insertionSortOrdered_int.l1])
     | succ k2 =>
      have H:=HA.out
      clear HA
      simp only [slices_insertionSortOrdered_int.l1] at H
      by_cases c5 : x7_2 > a1
      ·rw [if_pos c5] at H
       have c5b0 : decide (a1 < x7_2) = true:=decide_eq_true c5
       clear c5
       by_cases c6 : 0 ≤ x7_2
       ·rw [if_pos c6] at H
        have c6b0 : decide (0 ≤ x7_2) = true:=decide_eq_true c6
        clear c6
        by_cases c7 : x7_2 < (x0_2.length : Int)
        ·rw [if_pos c7] at H
         have c7b0 : decide (x7_2 < (x0_2.length : Int)) = true:=decide_eq_true c7
         clear c7
         obtain ⟨ji8,hji8⟩ : ∃ j_ : Int,(wrap64 (x7_2 - 1)) = j_:=⟨_,rfl⟩
         replace H : (if 0 ≤ (ji8) then (if (ji8) < (x0_2.length : Int) then ((cmp_Less_int.f (rd x0_2 x7_2) (rd x0_2 (ji8))).bind fun t136 => (if t136 = true then (slices_insertionSortOrdered_int.l1 k2 ((x0_2.set (x7_2 : Int).toNat (rd x0_2 (ji8))).set ((ji8) : Int).toNat (rd x0_2 x7_2)) a1 a2 x6_1 ji8) else (slices_insertionSortOrdered_int.l0 k2 x0_2 a1 a2 (wrap64 (x6_1 + 1))))) else (none)) else (none)) = some r:=by first|(rw [hji8] at H;exact H)|(simp only [hji8] at H ⊢;exact H)
         have hji8w : (IntKind.i64.wrap (x7_2 - 1)) = ji8:=(i64_w _).trans hji8
         by_cases c9 : 0 ≤ (ji8)
         ·rw [if_pos c9] at H
          have c9b0 : decide (0 ≤ (ji8)) = true:=decide_eq_true c9
          clear c9
          by_cases c10 : (ji8) < (x0_2.length : Int)
          ·rw [if_pos c10] at H
           have c10b0 : decide ((ji8) < (x0_2.length : Int)) = true:=decide_eq_true c10
           clear c10
           replace H:=Option.bind_eq_some_iff.mp H
           obtain ⟨t136,A110,H⟩:=H
           replace H : (if t136 = true then (slices_insertionSortOrdered_int.l1 k2 ((x0_2.set (x7_2 : Int).toNat (rd x0_2 (ji8))).set ((ji8) : Int).toNat (rd x0_2 x7_2)) a1 a2 x6_1 ji8) else (slices_insertionSortOrdered_int.l0 k2 x0_2 a1 a2 (wrap64 (x6_1 + 1)))) = some r:=H
           have A11:=mk_ A110
           clear A110
           by_cases c12 : t136 = true
           ·subst c12
            have H1 : (slices_insertionSortOrdered_int.l1 k2 ((x0_2.set (x7_2 : Int).toNat (rd x0_2 (ji8))).set ((ji8) : Int).toNat (rd x0_2 x7_2)) a1 a2 x6_1 ji8) = some r:=by rw [if_pos rfl] at H;exact H
            clear H
            have H:=H1
            clear H1
            obtain ⟨y139,hy139⟩ : ∃ y_ : List Int,y_ = (x0_2.set (x7_2 : Int).toNat (rd x0_2 (ji8))):=⟨_,rfl⟩
            replace H : (slices_insertionSortOrdered_int.l1 k2 (y139.set ((ji8) : Int).toNat (rd x0_2 x7_2)) a1 a2 x6_1 ji8) = some r:=by first|(rw [hy139];with_reducible exact H)|(have H2_:=(Option.bind_some _ _).symm.trans H;rw [hy139];with_reducible exact H2_)|(have H2_:=(Option.bind_some _ _).symm.trans H;with_reducible exact H2_)|with_reducible exact H|(rw [hy139];exact H)|exact H
            have Ny139:=mk_ hy139
            clear hy139
            obtain ⟨y140,hy140⟩ : ∃ y_ : List Int,y_ = (y139.set ((ji8) : Int).toNat (rd x0_2 x7_2)):=⟨_,rfl⟩
            replace H : (slices_insertionSortOrdered_int.l1 k2 y140 a1 a2 x6_1 ji8) = some r:=by first|(rw [hy140];with_reducible exact H)|(have H2_:=(Option.bind_some _ _).symm.trans H;rw [hy140];with_reducible exact H2_)|(have H2_:=(Option.bind_some _ _).symm.trans H;with_reducible exact H2_)|with_reducible exact H|(rw [hy140];exact H)|exact H
            have Ny140:=mk_ hy140
            clear hy140
            have H':=mk_ H
            clear H
            try go_wp2
            have n0_:=mk_ (rd_ HO_0.out)
            have n1_:=mk_ (Kept.drew HK.out)
            have n2_:=mk_ (bd_ HB.out)
            clear HO_0
            clear HK
            clear HB
            have HO_0:=n0_
            have HK:=n1_
            have HB:=n2_
            clear n0_ n1_ n2_
            obtain ⟨Ao16,co16,eo16⟩:=Kd.R_slice HO_0.out
            (first|subst eo16|(injection eo16 with f1_ f2_ f3_;have f4_:=f1_.symm;have f5_:=f3_.symm;clear f1_ f2_ f3_;subst f4_;subst f5_))
            have p134 : 0 ≤ (x7_2 : Int):=od_ qa_
            have q134 : x7_2 < (x0_2.length : Int):=od_ qa_
            obtain ⟨ad134,e134,hx134_0⟩:=Kd.at_int (rr_ HO_0.out).2.2 x7_2 p134 q134
            cases e134
            replace p134:=eq_true p134
            replace q134:=eq_true q134
            have p135 : 0 ≤ ((ji8) : Int):=od_ qa_
            have q135 : (ji8) < (x0_2.length : Int):=od_ qa_
            obtain ⟨ad135,e135,hx135_0⟩:=Kd.at_int (rr_ HO_0.out).2.2 (ji8) p135 q135
            obtain rfl : ad134 = ad135:=(by injection e135)
            replace p135:=eq_true p135
            replace q135:=eq_true q135
            refine start_ (n:=15) (S:=fun w' => w'.cell? (ad134.add (x7_2).toNat) = some (.int .i64 (rd x0_2 x7_2)) ∧ w'.cell? (ad134.add ((ji8)).toNat) = some (.int .i64 (rd x0_2 (ji8)))) (ds:=[]) #[false,false,false,false,false,false,false,false,false,false,false,false,false,false,false] (by kernel_rfl) rfl rfl ⟨hx134_0,hx135_0⟩ (fun hHeld => ?_);refine with_tabW slices_insertionSortOrdered_int.tab4 slices_insertionSortOrdered_int.bits4 (fun HT_ HW_ => ?_)
            generalize wr.drew = w15 at HO_0 HK HB hx134_0 hx135_0 hHeld ⊢
            refine pure_ (i:=0) (N:=some 16) (v:=?_) (a':=?_) #[true,false,false,false,false,false,false,false,false,false,false,false,false,false,false] rfl rfl (any_of HT_.out (by kernel_rfl)) (fun _ _ _ h => h) (Or.inl ⟨by rfl,?_⟩) ?_ ?_
            rotate_left
            ·intro w'
             go_simp
             with_reducible rfl
            rotate_left
            ·simp only [Act.put,sx_,sy_,sz_,i64_w,i32_w]
             rfl
            refine pure_ (i:=1) (N:=some 17) (v:=?_) (a':=?_) #[true,true,false,false,false,false,false,false,false,false,false,false,false,false,false] rfl rfl (any_of HT_.out (by kernel_rfl)) (fun _ _ _ h => h) (Or.inl ⟨by rfl,?_⟩) ?_ ?_
            rotate_left
            ·intro w'
             go_simp
             with_reducible rfl
            rotate_left
            ·simp only [Act.put,sx_,sy_,sz_,i64_w,i32_w]
             rfl
            refine pure_ (i:=2) (N:=some 18) (v:=?_) (a':=?_) #[true,true,true,false,false,false,false,false,false,false,false,false,false,false,false] rfl rfl (any_of HT_.out (by kernel_rfl)) (fun _ _ _ h => h) (Or.inl ⟨by rfl,?_⟩) ?_ ?_
            rotate_left
            ·intro w'
             go_simp
             with_reducible rfl
            rotate_left
            ·simp only [Act.put,sx_,sy_,sz_,i64_w,i32_w]
             rfl
            refine pure_ (i:=3) (N:=some 19) (v:=?_) (a':=?_) #[true,true,true,true,false,false,false,false,false,false,false,false,false,false,false] rfl rfl (any_of HT_.out (by kernel_rfl)) (fun _ _ _ h => h) (Or.inl ⟨by rfl,?_⟩) ?_ ?_
            rotate_left
            ·intro w'
             go_simp
             with_reducible rfl
            rotate_left
            ·simp only [Act.put,sx_,sy_,sz_,i64_w,i32_w]
             rfl
            refine pure_ (i:=4) (N:=some 20) (v:=?_) (a':=?_) #[true,true,true,true,true,false,false,false,false,false,false,false,false,false,false] rfl rfl (any_of HT_.out (by kernel_rfl)) (fun _ _ _ h => h) (Or.inl ⟨by rfl,?_⟩) ?_ ?_
            rotate_left
            ·intro w'
             go_simp
             with_reducible rfl
            rotate_left
            ·simp only [Act.put,sx_,sy_,sz_,i64_w,i32_w]
             rfl
            refine pure_ (i:=5) (N:=some 21) (v:=?_) (a':=?_) #[true,true,true,true,true,true,false,false,false,false,false,false,false,false,false] rfl rfl (any_of HT_.out (by kernel_rfl)) (fun _ _ _ h => h) (Or.inl ⟨by rfl,?_⟩) ?_ ?_
            rotate_left
            ·intro w'
             go_simp
             with_reducible rfl
            rotate_left
            ·simp only [Act.put,sx_,sy_,sz_,i64_w,i32_w]
             rfl
            refine pure_ (i:=6) (N:=some 22) (v:=?_) (a':=?_) #[true,true,true,true,true,true,true,false,false,false,false,false,false,false,false] rfl rfl (any_of HT_.out (by kernel_rfl)) (fun _ _ _ h => h) (Or.inl ⟨by rfl,?_⟩) ?_ ?_
            rotate_left
            ·intro w'
             go_simp
             with_reducible rfl
            rotate_left
            ·simp only [Act.put,sx_,sy_,sz_,i64_w,i32_w]
             rfl
            refine pure_ (i:=8) (N:=some 24) (v:=?_) (a':=?_) #[true,true,true,true,true,true,true,false,true,false,false,false,false,false,false] rfl rfl (any_of HT_.out (by kernel_rfl)) (fun _ _ _ h => h) (Or.inl ⟨by rfl,?_⟩) ?_ ?_
            rotate_left
            ·intro w'
             go_simp
             with_reducible rfl
            rotate_left
            ·simp only [Act.put,sx_,sy_,sz_,i64_w,i32_w]
             rfl
            refine pure_ (i:=9) (N:=some 25) (v:=?_) (a':=?_) #[true,true,true,true,true,true,true,false,true,true,false,false,false,false,false] rfl rfl (any_of HT_.out (by kernel_rfl)) (fun _ _ _ h => h) (Or.inl ⟨by rfl,?_⟩) ?_ ?_
            rotate_left
            ·intro w'
             go_simp
             with_reducible rfl
            rotate_left
            ·simp only [Act.put,sx_,sy_,sz_,i64_w,i32_w]
             rfl
            refine pure_ (i:=10) (N:=some 26) (v:=?_) (a':=?_) #[true,true,true,true,true,true,true,false,true,true,true,false,false,false,false] rfl rfl (any_of HT_.out (by kernel_rfl)) (fun _ _ _ h => h) (Or.inl ⟨by rfl,?_⟩) ?_ ?_
            rotate_left
            ·intro w'
             go_simp
             with_reducible rfl
            rotate_left
            ·simp only [Act.put,sx_,sy_,sz_,i64_w,i32_w]
             rfl
            refine pure_ (i:=11) (N:=some 27) (v:=?_) (a':=?_) #[true,true,true,true,true,true,true,false,true,true,true,true,false,false,false] rfl rfl (any_of HT_.out (by kernel_rfl)) (fun _ _ _ h => h) (Or.inl ⟨by rfl,?_⟩) ?_ ?_
            rotate_left
            ·intro w'
             go_simp
             with_reducible rfl
            rotate_left
            ·simp only [Act.put,sx_,sy_,sz_,i64_w,i32_w]
             rfl
            refine take_ (i:=7) (N:=some 23) (v:=?_) (a':=?_) #[true,true,true,true,true,true,true,true,true,true,true,true,false,false,false] rfl rfl (take_ofW HT_.out HW_.out (by kernel_rfl)) (fun _ _ _ h => h) (Or.inl ⟨by rfl,?_⟩) hHeld ?_ ?_
            rotate_left
            ·rintro w' ⟨s0,s1⟩
             go_simp
             with_reducible rfl
            rotate_left
            ·simp only [Act.put,sx_,sy_,sz_,i64_w,i32_w]
             rfl
            refine take_ (i:=12) (N:=some 28) (v:=?_) (a':=?_) #[true,true,true,true,true,true,true,true,true,true,true,true,true,false,false] rfl rfl (take_ofW HT_.out HW_.out (by kernel_rfl)) (fun _ _ _ h => h) (Or.inl ⟨by rfl,?_⟩) hHeld ?_ ?_
            rotate_left
            ·rintro w' ⟨s0,s1⟩
             go_simp
             with_reducible rfl
            rotate_left
            ·simp only [Act.put,sx_,sy_,sz_,i64_w,i32_w]
             rfl
            refine one_ (i:=13) (N:=some 29) #[true,true,true,true,true,true,true,true,true,true,true,true,true,true,false] rfl rfl (one_of HT_.out (by kernel_rfl)) (by decide) (fun K hK => ?_)
            refine goes_ Try.func99 (by kernel_rfl) rfl #[.int .i64 (rd x0_2 x7_2),.int .i64 (rd x0_2 (ji8))] (by rfl) rfl rfl (by (try simp only [List.map_toArray,List.map_cons,List.map_nil]);first|done|(simp only [hji8];rfl)|rfl|(simp only [List.length_drop,List.length_take];rfl)) ?_
            with_reducible refine (cmp_Less_int.calls (rd x0_2 x7_2) (rd x0_2 (ji8)) true _ A11.out).mono ?_
            rintro e w' ⟨rfl,⟨nd,rfl⟩⟩
            refine ⟨_,rfl,?_⟩
            refine hK.out _ _ ⟨hHeld.1,hHeld.2⟩ (fun hHeld => ?_)
            clear hK K
            refine norm_ (a':=?_) ?_ ?_
            rotate_left
            ·show Act.put _ (some 29) _ = _
             simp only [Act.put,sx_,sy_,sz_,i64_w,i32_w]
             rfl
            refine pure_ (i:=14) (N:=some 30) (v:=?_) (a':=?_) #[true,true,true,true,true,true,true,true,true,true,true,true,true,true,true] rfl rfl (any_of HT_.out (by kernel_rfl)) (fun _ _ _ h => h) (Or.inl ⟨by rfl,?_⟩) ?_ ?_
            rotate_left
            ·intro w'
             go_simp
             with_reducible rfl
            rotate_left
            ·simp only [Act.put,sx_,sy_,sz_,i64_w,i32_w]
             rfl
            refine done_ (done_of HT_.out (by kernel_rfl)) ?_
            try go_wp2
            (try (rw [drewN_self w15];generalize hq_ : World.drewN w15 _ = w15;have n0_ : Aside0 (Kd.R (Kd.int .i64) 3 w15 w0.heap.size (fun k_ => (P0_ k_ ∨ w.heap.size ≤ k_)) (.slice (some ad134) x0_2.length co16) x0_2):=⟨by rw [← hq_];exact (qr_ HO_0)⟩;have n1_ : Aside0 (Kept w w15 (fun k_ => P0_ k_)):=⟨by rw [← hq_];exact (u3_ HK)⟩;have n2_ : Aside0 (Below w0.heap.size w0 w15):=⟨by rw [← hq_];exact (qb_ HB)⟩;clear HO_0 HK HB hq_;have HO_0:=n0_;have HK:=n1_;have HB:=n2_;clear n0_ n1_ n2_))
            have n0_:=mk_ (rd_ HO_0.out)
            have n1_:=mk_ (Kept.drew HK.out)
            have n2_:=mk_ (bd_ HB.out)
            clear HO_0
            clear HK
            clear HB
            have HO_0:=n0_
            have HK:=n1_
            have HB:=n2_
            clear n0_ n1_ n2_
            have p137 : 0 ≤ ((ji8) : Int):=od_ qa_
            have q137 : (ji8) < (x0_2.length : Int):=od_ qa_
            obtain ⟨ad137,e137,hx137_0⟩:=Kd.at_int (rr_ HO_0.out).2.2 (ji8) p137 q137
            obtain rfl : ad134 = ad137:=(by injection e137)
            replace p137:=eq_true p137
            replace q137:=eq_true q137
            have p138 : 0 ≤ (x7_2 : Int):=od_ qa_
            have q138 : x7_2 < (x0_2.length : Int):=od_ qa_
            obtain ⟨ad138,e138,hx138_0⟩:=Kd.at_int (rr_ HO_0.out).2.2 x7_2 p138 q138
            obtain rfl : ad134 = ad138:=(by injection e138)
            replace p138:=eq_true p138
            replace q138:=eq_true q138
            have p13 : 0 ≤ (x7_2 : Int):=od_ qa_
            have q13 : (x7_2 : Int) < ((x0_2.length : Int) : Int):=od_ qa_
            obtain ⟨go13,co13,eo13,gb13,gl13,cl13,HG13⟩:=Kd.R_form HO_0.out (by omega)
            (first|cases eo13|(injection eo13 with ea_ en_ ec_;(first|subst ea_|(injection ea_ with ea_;subst ea_));subst ec_;clear en_))
            have GB13:=mk_ gb13
            have GG13:=mk_ HG13
            clear gb13 gl13 HG13
            have HMgo13:=mk_ (show (P0_ go13 ∨ w.heap.size ≤ go13) from (HO_0.out.1 _ rfl))
            (first|simp only [add_plain] at hx134_0|skip)
            (first|simp only [add_plain] at hx135_0|skip)
            (first|simp only [add_plain] at hx137_0|skip)
            (first|simp only [add_plain] at hx138_0|skip)
            obtain ⟨hx13_0,hf13_0⟩:=Kd.R_celln 0 HO_0.out (x7_2 : Int) p13 q13
            replace p13:=eq_true p13
            replace q13:=eq_true q13
            have HP18:=Kd.R_putn HO_0.out (x7_2 : Int) (rd x0_2 (ji8))
            rw [← Ny139.out] at HP18
            have HQ18:=mk_ HP18
            clear HP18
            have p14 : 0 ≤ ((ji8) : Int):=od_ qa_
            have q14 : ((ji8) : Int) < ((x0_2.length : Int) : Int):=od_ qa_
            obtain ⟨hx14_0,hf14_0⟩:=Kd.R_celln 0 HQ18.out ((ji8) : Int) p14 q14
            replace p14:=eq_true p14
            replace q14:=eq_true q14
            have HP19:=Kd.R_putn HQ18.out ((ji8) : Int) (rd x0_2 x7_2)
            rw [← Ny140.out] at HP19
            have HQ19:=mk_ HP19
            clear HP19
            refine start_ (n:=18) (S:=fun w' => w'.cell? ⟨go13,((ji8)).toNat,none⟩ = some (.int .i64 (rd x0_2 (ji8))) ∧ w'.cell? ⟨go13,(x7_2).toNat,none⟩ = some (.int .i64 (rd x0_2 x7_2))) (ds:=[15,17]) #[false,false,false,false,false,false,false,false,false,false,false,false,false,false,false,false,false,false] (by kernel_rfl) rfl rfl ⟨hx137_0,hx138_0⟩ (fun hHeld => ?_);refine with_tabW slices_insertionSortOrdered_int.tab6 slices_insertionSortOrdered_int.bits6 (fun HT_ HW_ => ?_)
            generalize w15.drew = w17 at HO_0 HK HB GG13 HQ18 HQ19 hf13_0 hf14_0 hx134_0 hx135_0 hx137_0 hx138_0 hx13_0 hx14_0 hHeld ⊢
            refine pure_ (i:=0) (N:=some 33) (v:=?_) (a':=?_) #[true,false,false,false,false,false,false,false,false,false,false,false,false,false,false,false,false,false] rfl rfl (any_of HT_.out (by kernel_rfl)) (fun _ _ _ h => h) (Or.inl ⟨by rfl,?_⟩) ?_ ?_
            rotate_left
            ·intro w'
             go_simp
             with_reducible rfl
            rotate_left
            ·simp only [Act.put,sx_,sy_,sz_,i64_w,i32_w]
             rfl
            refine pure_ (i:=1) (N:=some 34) (v:=?_) (a':=?_) #[true,true,false,false,false,false,false,false,false,false,false,false,false,false,false,false,false,false] rfl rfl (any_of HT_.out (by kernel_rfl)) (fun _ _ _ h => h) (Or.inl ⟨by rfl,?_⟩) ?_ ?_
            rotate_left
            ·intro w'
             go_simp
             with_reducible rfl
            rotate_left
            ·simp only [Act.put,sx_,sy_,sz_,i64_w,i32_w]
             rfl
            refine pure_ (i:=2) (N:=some 35) (v:=?_) (a':=?_) #[true,true,true,false,false,false,false,false,false,false,false,false,false,false,false,false,false,false] rfl rfl (any_of HT_.out (by kernel_rfl)) (fun _ _ _ h => h) (Or.inl ⟨by rfl,?_⟩) ?_ ?_
            rotate_left
            ·intro w'
             go_simp
             with_reducible rfl
            rotate_left
            ·simp only [Act.put,sx_,sy_,sz_,i64_w,i32_w]
             rfl
            refine pure_ (i:=3) (N:=some 36) (v:=?_) (a':=?_) #[true,true,true,true,false,false,false,false,false,false,false,false,false,false,false,false,false,false] rfl rfl (any_of HT_.out (by kernel_rfl)) (fun _ _ _ h => h) (Or.inl ⟨by rfl,?_⟩) ?_ ?_
            rotate_left
            ·intro w'
             go_simp
             with_reducible rfl
            rotate_left
            ·simp only [Act.put,sx_,sy_,sz_,i64_w,i32_w]
             rfl
            refine pure_ (i:=4) (N:=some 37) (v:=?_) (a':=?_) #[true,true,true,true,true,false,false,false,false,false,false,false,false,false,false,false,false,false] rfl rfl (any_of HT_.out (by kernel_rfl)) (fun _ _ _ h => h) (Or.inl ⟨by rfl,?_⟩) ?_ ?_
            rotate_left
            ·intro w'
             go_simp
             with_reducible rfl
            rotate_left
            ·simp only [Act.put,sx_,sy_,sz_,i64_w,i32_w]
             rfl
            refine pure_ (i:=5) (N:=some 38) (v:=?_) (a':=?_) #[true,true,true,true,true,true,false,false,false,false,false,false,false,false,false,false,false,false] rfl rfl (any_of HT_.out (by kernel_rfl)) (fun _ _ _ h => h) (Or.inl ⟨by rfl,?_⟩) ?_ ?_
            rotate_left
            ·intro w'
             go_simp
             with_reducible rfl
            rotate_left
            ·simp only [Act.put,sx_,sy_,sz_,i64_w,i32_w]
             rfl
            refine pure_ (i:=6) (N:=some 39) (v:=?_) (a':=?_) #[true,true,true,true,true,true,true,false,false,false,false,false,false,false,false,false,false,false] rfl rfl (any_of HT_.out (by kernel_rfl)) (fun _ _ _ h => h) (Or.inl ⟨by rfl,?_⟩) ?_ ?_
            rotate_left
            ·intro w'
             go_simp
             with_reducible rfl
            rotate_left
            ·simp only [Act.put,sx_,sy_,sz_,i64_w,i32_w]
             rfl
            refine pure_ (i:=7) (N:=some 40) (v:=?_) (a':=?_) #[true,true,true,true,true,true,true,true,false,false,false,false,false,false,false,false,false,false] rfl rfl (any_of HT_.out (by kernel_rfl)) (fun _ _ _ h => h) (Or.inl ⟨by rfl,?_⟩) ?_ ?_
            rotate_left
            ·intro w'
             go_simp
             with_reducible rfl
            rotate_left
            ·simp only [Act.put,sx_,sy_,sz_,i64_w,i32_w]
             rfl
            refine pure_ (i:=8) (N:=some 41) (v:=?_) (a':=?_) #[true,true,true,true,true,true,true,true,true,false,false,false,false,false,false,false,false,false] rfl rfl (any_of HT_.out (by kernel_rfl)) (fun _ _ _ h => h) (Or.inl ⟨by rfl,?_⟩) ?_ ?_
            rotate_left
            ·intro w'
             go_simp
             with_reducible rfl
            rotate_left
            ·simp only [Act.put,sx_,sy_,sz_,i64_w,i32_w]
             rfl
            refine pure_ (i:=10) (N:=some 43) (v:=?_) (a':=?_) #[true,true,true,true,true,true,true,true,true,false,true,false,false,false,false,false,false,false] rfl rfl (any_of HT_.out (by kernel_rfl)) (fun _ _ _ h => h) (Or.inl ⟨by rfl,?_⟩) ?_ ?_
            rotate_left
            ·intro w'
             go_simp
             with_reducible rfl
            rotate_left
            ·simp only [Act.put,sx_,sy_,sz_,i64_w,i32_w]
             rfl
            refine pure_ (i:=11) (N:=some 44) (v:=?_) (a':=?_) #[true,true,true,true,true,true,true,true,true,false,true,true,false,false,false,false,false,false] rfl rfl (any_of HT_.out (by kernel_rfl)) (fun _ _ _ h => h) (Or.inl ⟨by rfl,?_⟩) ?_ ?_
            rotate_left
            ·intro w'
             go_simp
             with_reducible rfl
            rotate_left
            ·simp only [Act.put,sx_,sy_,sz_,i64_w,i32_w]
             rfl
            refine pure_ (i:=12) (N:=some 45) (v:=?_) (a':=?_) #[true,true,true,true,true,true,true,true,true,false,true,true,true,false,false,false,false,false] rfl rfl (any_of HT_.out (by kernel_rfl)) (fun _ _ _ h => h) (Or.inl ⟨by rfl,?_⟩) ?_ ?_
            rotate_left
            ·intro w'
             go_simp
             with_reducible rfl
            rotate_left
            ·simp only [Act.put,sx_,sy_,sz_,i64_w,i32_w]
             rfl
            refine take_ (i:=9) (N:=some 42) (v:=?_) (a':=?_) #[true,true,true,true,true,true,true,true,true,true,true,true,true,false,false,false,false,false] rfl rfl (take_ofW HT_.out HW_.out (by kernel_rfl)) (fun _ _ _ h => h) (Or.inl ⟨by rfl,?_⟩) hHeld ?_ ?_
            rotate_left
            ·rintro w' ⟨s0,s1⟩
             go_simp
             with_reducible rfl
            rotate_left
            ·simp only [Act.put,sx_,sy_,sz_,i64_w,i32_w]
             rfl
            refine take_ (i:=13) (N:=some 46) (v:=?_) (a':=?_) #[true,true,true,true,true,true,true,true,true,true,true,true,true,true,false,false,false,false] rfl rfl (take_ofW HT_.out HW_.out (by kernel_rfl)) (fun _ _ _ h => h) (Or.inl ⟨by rfl,?_⟩) hHeld ?_ ?_
            rotate_left
            ·rintro w' ⟨s0,s1⟩
             go_simp
             with_reducible rfl
            rotate_left
            ·simp only [Act.put,sx_,sy_,sz_,i64_w,i32_w]
             rfl
            refine pure_ (i:=14) (N:=some 47) (v:=?_) (a':=?_) #[true,true,true,true,true,true,true,true,true,true,true,true,true,true,true,false,false,false] rfl rfl (any_of HT_.out (by kernel_rfl)) (fun _ _ _ h => h) (Or.inl ⟨by rfl,?_⟩) ?_ ?_
            rotate_left
            ·intro w'
             go_simp
             with_reducible rfl
            rotate_left
            ·simp only [Act.put,sx_,sy_,sz_,i64_w,i32_w]
             rfl
            refine last_ (i:=15) (N:=none) #[true,true,true,true,true,true,true,true,true,true,true,true,true,true,true,true,false,false] rfl rfl (one_of HT_.out (by kernel_rfl)) (by decide) (fun K hK => ?_)
            refine skip_ (w1:=?_) (by rfl) rfl ?_ ?_
            rotate_left
            ·go_simp
             rfl
            refine hK.out _ _ ?_
            clear hK K
            refine pure_ (i:=16) (N:=some 48) (v:=?_) (a':=?_) #[true,true,true,true,true,true,true,true,true,true,true,true,true,true,true,true,true,false] rfl rfl (any_of HT_.out (by kernel_rfl)) (fun _ _ _ h => h) (Or.inl ⟨by rfl,?_⟩) ?_ ?_
            rotate_left
            ·intro w'
             go_simp
             with_reducible rfl
            rotate_left
            ·simp only [Act.put,sx_,sy_,sz_,i64_w,i32_w]
             rfl
            refine last_ (i:=17) (N:=none) #[true,true,true,true,true,true,true,true,true,true,true,true,true,true,true,true,true,true] rfl rfl (one_of HT_.out (by kernel_rfl)) (by decide) (fun K hK => ?_)
            refine skip_ (w1:=?_) (by rfl) rfl ?_ ?_
            rotate_left
            ·go_simp
             rfl
            refine hK.out _ _ ?_
            clear hK K
            refine done_ (done_of HT_.out (by kernel_rfl)) ?_
            try go_wp2
            go_roundg k2
            case measure => have:=HK1.out;have:=HK2.out;omega
            case rel => exact ⟨(y140),(ji8),(by first|rfl|(simp;done)|(simp only [← hji8] <;> (first|rfl|simp))|(simp [*];done)),H',⟨by have:=HK1.out;have:=HK2.out;omega⟩,⟨qr_ HQ19⟩,⟨u4_ HK HMgo13⟩,⟨u5_ HB GB13⟩⟩
           ·replace c12:=Bool.eq_false_iff.mpr c12
            subst c12
            have H1 : (slices_insertionSortOrdered_int.l0 k2 x0_2 a1 a2 (wrap64 (x6_1 + 1))) = some r:=by rw [if_neg (show ¬ (false = true) by decide)] at H;exact H
            clear H
            have H:=H1
            clear H1
            have H':=mk_ H
            clear H
            try go_wp2
            have n0_:=mk_ (rd_ HO_0.out)
            have n1_:=mk_ (Kept.drew HK.out)
            have n2_:=mk_ (bd_ HB.out)
            clear HO_0
            clear HK
            clear HB
            have HO_0:=n0_
            have HK:=n1_
            have HB:=n2_
            clear n0_ n1_ n2_
            obtain ⟨Ao21,co21,eo21⟩:=Kd.R_slice HO_0.out
            (first|subst eo21|(injection eo21 with f1_ f2_ f3_;have f4_:=f1_.symm;have f5_:=f3_.symm;clear f1_ f2_ f3_;subst f4_;subst f5_))
            have p134 : 0 ≤ (x7_2 : Int):=od_ qa_
            have q134 : x7_2 < (x0_2.length : Int):=od_ qa_
            obtain ⟨ad134,e134,hx134_0⟩:=Kd.at_int (rr_ HO_0.out).2.2 x7_2 p134 q134
            cases e134
            replace p134:=eq_true p134
            replace q134:=eq_true q134
            have p135 : 0 ≤ ((ji8) : Int):=od_ qa_
            have q135 : (ji8) < (x0_2.length : Int):=od_ qa_
            obtain ⟨ad135,e135,hx135_0⟩:=Kd.at_int (rr_ HO_0.out).2.2 (ji8) p135 q135
            obtain rfl : ad134 = ad135:=(by injection e135)
            replace p135:=eq_true p135
            replace q135:=eq_true q135
            refine start_ (n:=15) (S:=fun w' => w'.cell? (ad134.add (x7_2).toNat) = some (.int .i64 (rd x0_2 x7_2)) ∧ w'.cell? (ad134.add ((ji8)).toNat) = some (.int .i64 (rd x0_2 (ji8)))) (ds:=[]) #[false,false,false,false,false,false,false,false,false,false,false,false,false,false,false] (by kernel_rfl) rfl rfl ⟨hx134_0,hx135_0⟩ (fun hHeld => ?_);refine with_tabW slices_insertionSortOrdered_int.tab4 slices_insertionSortOrdered_int.bits4 (fun HT_ HW_ => ?_)
            generalize wr.drew = w20 at HO_0 HK HB hx134_0 hx135_0 hHeld ⊢
            refine pure_ (i:=0) (N:=some 16) (v:=?_) (a':=?_) #[true,false,false,false,false,false,false,false,false,false,false,false,false,false,false] rfl rfl (any_of HT_.out (by kernel_rfl)) (fun _ _ _ h => h) (Or.inl ⟨by rfl,?_⟩) ?_ ?_
            rotate_left
            ·intro w'
             go_simp
             with_reducible rfl
            rotate_left
            ·simp only [Act.put,sx_,sy_,sz_,i64_w,i32_w]
             rfl
            refine pure_ (i:=1) (N:=some 17) (v:=?_) (a':=?_) #[true,true,false,false,false,false,false,false,false,false,false,false,false,false,false] rfl rfl (any_of HT_.out (by kernel_rfl)) (fun _ _ _ h => h) (Or.inl ⟨by rfl,?_⟩) ?_ ?_
            rotate_left
            ·intro w'
             go_simp
             with_reducible rfl
            rotate_left
            ·simp only [Act.put,sx_,sy_,sz_,i64_w,i32_w]
             rfl
            refine pure_ (i:=2) (N:=some 18) (v:=?_) (a':=?_) #[true,true,true,false,false,false,false,false,false,false,false,false,false,false,false] rfl rfl (any_of HT_.out (by kernel_rfl)) (fun _ _ _ h => h) (Or.inl ⟨by rfl,?_⟩) ?_ ?_
            rotate_left
            ·intro w'
             go_simp
             with_reducible rfl
            rotate_left
            ·simp only [Act.put,sx_,sy_,sz_,i64_w,i32_w]
             rfl
            refine pure_ (i:=3) (N:=some 19) (v:=?_) (a':=?_) #[true,true,true,true,false,false,false,false,false,false,false,false,false,false,false] rfl rfl (any_of HT_.out (by kernel_rfl)) (fun _ _ _ h => h) (Or.inl ⟨by rfl,?_⟩) ?_ ?_
            rotate_left
            ·intro w'
             go_simp
             with_reducible rfl
            rotate_left
            ·simp only [Act.put,sx_,sy_,sz_,i64_w,i32_w]
             rfl
            refine pure_ (i:=4) (N:=some 20) (v:=?_) (a':=?_) #[true,true,true,true,true,false,false,false,false,false,false,false,false,false,false] rfl rfl (any_of HT_.out (by kernel_rfl)) (fun _ _ _ h => h) (Or.inl ⟨by rfl,?_⟩) ?_ ?_
            rotate_left
            ·intro w'
             go_simp
             with_reducible rfl
            rotate_left
            ·simp only [Act.put,sx_,sy_,sz_,i64_w,i32_w]
             rfl
            refine pure_ (i:=5) (N:=some 21) (v:=?_) (a':=?_) #[true,true,true,true,true,true,false,false,false,false,false,false,false,false,false] rfl rfl (any_of HT_.out (by kernel_rfl)) (fun _ _ _ h => h) (Or.inl ⟨by rfl,?_⟩) ?_ ?_
            rotate_left
            ·intro w'
             go_simp
             with_reducible rfl
            rotate_left
            ·simp only [Act.put,sx_,sy_,sz_,i64_w,i32_w]
             rfl
            refine pure_ (i:=6) (N:=some 22) (v:=?_) (a':=?_) #[true,true,true,true,true,true,true,false,false,false,false,false,false,false,false] rfl rfl (any_of HT_.out (by kernel_rfl)) (fun _ _ _ h => h) (Or.inl ⟨by rfl,?_⟩) ?_ ?_
            rotate_left
            ·intro w'
             go_simp
             with_reducible rfl
            rotate_left
            ·simp only [Act.put,sx_,sy_,sz_,i64_w,i32_w]
             rfl
            refine pure_ (i:=8) (N:=some 24) (v:=?_) (a':=?_) #[true,true,true,true,true,true,true,false,true,false,false,false,false,false,false] rfl rfl (any_of HT_.out (by kernel_rfl)) (fun _ _ _ h => h) (Or.inl ⟨by rfl,?_⟩) ?_ ?_
            rotate_left
            ·intro w'
             go_simp
             with_reducible rfl
            rotate_left
            ·simp only [Act.put,sx_,sy_,sz_,i64_w,i32_w]
             rfl
            refine pure_ (i:=9) (N:=some 25) (v:=?_) (a':=?_) #[true,true,true,true,true,true,true,false,true,true,false,false,false,false,false] rfl rfl (any_of HT_.out (by kernel_rfl)) (fun _ _ _ h => h) (Or.inl ⟨by rfl,?_⟩) ?_ ?_
            rotate_left
            ·intro w'
             go_simp
             with_reducible rfl
            rotate_left
            ·simp only [Act.put,sx_,sy_,sz_,i64_w,i32_w]
             rfl
            refine pure_ (i:=10) (N:=some 26) (v:=?_) (a':=?_) #[true,true,true,true,true,true,true,false,true,true,true,false,false,false,false] rfl rfl (any_of HT_.out (by kernel_rfl)) (fun _ _ _ h => h) (Or.inl ⟨by rfl,?_⟩) ?_ ?_
            rotate_left
            ·intro w'
             go_simp
             with_reducible rfl
            rotate_left
            ·simp only [Act.put,sx_,sy_,sz_,i64_w,i32_w]
             rfl
            refine pure_ (i:=11) (N:=some 27) (v:=?_) (a':=?_) #[true,true,true,true,true,true,true,false,true,true,true,true,false,false,false] rfl rfl (any_of HT_.out (by kernel_rfl)) (fun _ _ _ h => h) (Or.inl ⟨by rfl,?_⟩) ?_ ?_
            rotate_left
            ·intro w'
             go_simp
             with_reducible rfl
            rotate_left
            ·simp only [Act.put,sx_,sy_,sz_,i64_w,i32_w]
             rfl
            refine take_ (i:=7) (N:=some 23) (v:=?_) (a':=?_) #[true,true,true,true,true,true,true,true,true,true,true,true,false,false,false] rfl rfl (take_ofW HT_.out HW_.out (by kernel_rfl)) (fun _ _ _ h => h) (Or.inl ⟨by rfl,?_⟩) hHeld ?_ ?_
            rotate_left
            ·rintro w' ⟨s0,s1⟩
             go_simp
             with_reducible rfl
            rotate_left
            ·simp only [Act.put,sx_,sy_,sz_,i64_w,i32_w]
             rfl
            refine take_ (i:=12) (N:=some 28) (v:=?_) (a':=?_) #[true,true,true,true,true,true,true,true,true,true,true,true,true,false,false] rfl rfl (take_ofW HT_.out HW_.out (by kernel_rfl)) (fun _ _ _ h => h) (Or.inl ⟨by rfl,?_⟩) hHeld ?_ ?_
            rotate_left
            ·rintro w' ⟨s0,s1⟩
             go_simp
             with_reducible rfl
            rotate_left
            ·simp only [Act.put,sx_,sy_,sz_,i64_w,i32_w]
             rfl
            refine one_ (i:=13) (N:=some 29) #[true,true,true,true,true,true,true,true,true,true,true,true,true,true,false] rfl rfl (one_of HT_.out (by kernel_rfl)) (by decide) (fun K hK => ?_)
            refine goes_ Try.func99 (by kernel_rfl) rfl #[.int .i64 (rd x0_2 x7_2),.int .i64 (rd x0_2 (ji8))] (by rfl) rfl rfl (by (try simp only [List.map_toArray,List.map_cons,List.map_nil]);first|done|(simp only [hji8];rfl)|rfl|(simp only [List.length_drop,List.length_take];rfl)) ?_
            with_reducible refine (cmp_Less_int.calls (rd x0_2 x7_2) (rd x0_2 (ji8)) false _ A11.out).mono ?_
            rintro e w' ⟨rfl,⟨nd,rfl⟩⟩
            refine ⟨_,rfl,?_⟩
            refine hK.out _ _ ⟨hHeld.1,hHeld.2⟩ (fun hHeld => ?_)
            clear hK K
            refine norm_ (a':=?_) ?_ ?_
            rotate_left
            ·show Act.put _ (some 29) _ = _
             simp only [Act.put,sx_,sy_,sz_,i64_w,i32_w]
             rfl
            refine pure_ (i:=14) (N:=some 30) (v:=?_) (a':=?_) #[true,true,true,true,true,true,true,true,true,true,true,true,true,true,true] rfl rfl (any_of HT_.out (by kernel_rfl)) (fun _ _ _ h => h) (Or.inl ⟨by rfl,?_⟩) ?_ ?_
            rotate_left
            ·intro w'
             go_simp
             with_reducible rfl
            rotate_left
            ·simp only [Act.put,sx_,sy_,sz_,i64_w,i32_w]
             rfl
            refine done_ (done_of HT_.out (by kernel_rfl)) ?_
            try go_wp2
            go_roundg k2
            case measure => have:=HK1.out;have:=HK2.out;omega
            case rel => exact ⟨(x0_2),(wrap64 (x6_1 + 1)),qf_,H',⟨by have:=HK1.out;have:=HK2.out;omega⟩,⟨qr_ HO_0⟩,⟨u3_ HK⟩,⟨u0_ HB⟩⟩
          ·rw [if_neg c10] at H
           exact absurd H (by simp)
         ·rw [if_neg c9] at H
          exact absurd H (by simp)
        ·rw [if_neg c7] at H
         exact absurd H (by simp)
       ·rw [if_neg c6] at H
        exact absurd H (by simp)
      ·rw [if_neg c5] at H
       have c5b0 : decide (a1 < x7_2) = false:=decide_eq_false c5
       clear c5
       have H':=mk_ H
       clear H
       try go_wp2
       have n0_:=mk_ (rd_ HO_0.out)
       have n1_:=mk_ (Kept.drew HK.out)
       have n2_:=mk_ (bd_ HB.out)
       clear HO_0
       clear HK
       clear HB
       have HO_0:=n0_
       have HK:=n1_
       have HB:=n2_
       clear n0_ n1_ n2_
       refine start_ (n:=15) (S:=fun w' => True) (ds:=[]) #[false,false,false,false,false,false,false,false,false,false,false,false,false,false,false] (by kernel_rfl) rfl rfl trivial (fun hHeld => ?_);refine with_tabW slices_insertionSortOrdered_int.tab4 slices_insertionSortOrdered_int.bits4 (fun HT_ HW_ => ?_)
       generalize wr.drew = w22 at HO_0 HK HB hHeld ⊢
       refine pure_ (i:=0) (N:=some 16) (v:=?_) (a':=?_) #[true,false,false,false,false,false,false,false,false,false,false,false,false,false,false] rfl rfl (any_of HT_.out (by kernel_rfl)) (fun _ _ _ h => h) (Or.inl ⟨by rfl,?_⟩) ?_ ?_
       rotate_left
       ·intro w'
        go_simp
        with_reducible rfl
       rotate_left
       ·simp only [Act.put,sx_,sy_,sz_,i64_w,i32_w]
        rfl
       refine pure_ (i:=1) (N:=some 17) (v:=?_) (a':=?_) #[true,true,false,false,false,false,false,false,false,false,false,false,false,false,false] rfl rfl (any_of HT_.out (by kernel_rfl)) (fun _ _ _ h => h) (Or.inl ⟨by rfl,?_⟩) ?_ ?_
       rotate_left
       ·intro w'
        go_simp
        with_reducible rfl
       rotate_left
       ·simp only [Act.put,sx_,sy_,sz_,i64_w,i32_w]
        rfl
       refine pure_ (i:=2) (N:=some 18) (v:=?_) (a':=?_) #[true,true,true,false,false,false,false,false,false,false,false,false,false,false,false] rfl rfl (any_of HT_.out (by kernel_rfl)) (fun _ _ _ h => h) (Or.inl ⟨by rfl,?_⟩) ?_ ?_
       rotate_left
       ·intro w'
        go_simp
        with_reducible rfl
       rotate_left
       ·simp only [Act.put,sx_,sy_,sz_,i64_w,i32_w]
        rfl
       refine pure_ (i:=3) (N:=some 19) (v:=?_) (a':=?_) #[true,true,true,true,false,false,false,false,false,false,false,false,false,false,false] rfl rfl (any_of HT_.out (by kernel_rfl)) (fun _ _ _ h => h) (Or.inl ⟨by rfl,?_⟩) ?_ ?_
       rotate_left
       ·intro w'
        go_simp
        with_reducible rfl
       rotate_left
       ·simp only [Act.put,sx_,sy_,sz_,i64_w,i32_w]
        rfl
       refine pure_ (i:=4) (N:=some 20) (v:=undef) (a':=?_) #[true,true,true,true,true,false,false,false,false,false,false,false,false,false,false] rfl rfl (any_of HT_.out (by kernel_rfl)) (fun _ _ _ h => h) (Or.inr ⟨by rfl,rfl⟩) ?_ ?_
       rotate_left
       ·simp only [Act.put,sx_,sy_,sz_,i64_w,i32_w]
        rfl
       refine pure_ (i:=5) (N:=some 21) (v:=undef) (a':=?_) #[true,true,true,true,true,true,false,false,false,false,false,false,false,false,false] rfl rfl (any_of HT_.out (by kernel_rfl)) (fun _ _ _ h => h) (Or.inr ⟨by rfl,rfl⟩) ?_ ?_
       rotate_left
       ·simp only [Act.put,sx_,sy_,sz_,i64_w,i32_w]
        rfl
       refine pure_ (i:=6) (N:=some 22) (v:=undef) (a':=?_) #[true,true,true,true,true,true,true,false,false,false,false,false,false,false,false] rfl rfl (any_of HT_.out (by kernel_rfl)) (fun _ _ _ h => h) (Or.inr ⟨by rfl,rfl⟩) ?_ ?_
       rotate_left
       ·simp only [Act.put,sx_,sy_,sz_,i64_w,i32_w]
        rfl
       refine pure_ (i:=7) (N:=some 23) (v:=undef) (a':=?_) #[true,true,true,true,true,true,true,true,false,false,false,false,false,false,false] rfl rfl (any_of HT_.out (by kernel_rfl)) (fun _ _ _ h => h) (Or.inr ⟨by rfl,rfl⟩) ?_ ?_
       rotate_left
       ·simp only [Act.put,sx_,sy_,sz_,i64_w,i32_w]
        rfl
       refine pure_ (i:=8) (N:=some 24) (v:=undef) (a':=?_) #[true,true,true,true,true,true,true,true,true,false,false,false,false,false,false] rfl rfl (any_of HT_.out (by kernel_rfl)) (fun _ _ _ h => h) (Or.inr ⟨by rfl,rfl⟩) ?_ ?_
       rotate_left
       ·simp only [Act.put,sx_,sy_,sz_,i64_w,i32_w]
        rfl
       refine pure_ (i:=9) (N:=some 25) (v:=undef) (a':=?_) #[true,true,true,true,true,true,true,true,true,true,false,false,false,false,false] rfl rfl (any_of HT_.out (by kernel_rfl)) (fun _ _ _ h => h) (Or.inr ⟨by rfl,rfl⟩) ?_ ?_
       rotate_left
       ·simp only [Act.put,sx_,sy_,sz_,i64_w,i32_w]
        rfl
       refine pure_ (i:=10) (N:=some 26) (v:=undef) (a':=?_) #[true,true,true,true,true,true,true,true,true,true,true,false,false,false,false] rfl rfl (any_of HT_.out (by kernel_rfl)) (fun _ _ _ h => h) (Or.inr ⟨by rfl,rfl⟩) ?_ ?_
       rotate_left
       ·simp only [Act.put,sx_,sy_,sz_,i64_w,i32_w]
        rfl
       refine pure_ (i:=11) (N:=some 27) (v:=undef) (a':=?_) #[true,true,true,true,true,true,true,true,true,true,true,true,false,false,false] rfl rfl (any_of HT_.out (by kernel_rfl)) (fun _ _ _ h => h) (Or.inr ⟨by rfl,rfl⟩) ?_ ?_
       rotate_left
       ·simp only [Act.put,sx_,sy_,sz_,i64_w,i32_w]
        rfl
       refine pure_ (i:=12) (N:=some 28) (v:=undef) (a':=?_) #[true,true,true,true,true,true,true,true,true,true,true,true,true,false,false] rfl rfl (any_of HT_.out (by kernel_rfl)) (fun _ _ _ h => h) (Or.inr ⟨by rfl,rfl⟩) ?_ ?_
       rotate_left
       ·simp only [Act.put,sx_,sy_,sz_,i64_w,i32_w]
        rfl
       refine pure_ (i:=13) (N:=some 29) (v:=undef) (a':=?_) #[true,true,true,true,true,true,true,true,true,true,true,true,true,true,false] rfl rfl (any_of HT_.out (by kernel_rfl)) (fun _ _ _ h => h) (Or.inr ⟨by rfl,rfl⟩) ?_ ?_
       rotate_left
       ·simp only [Act.put,sx_,sy_,sz_,i64_w,i32_w]
        rfl
       refine pure_ (i:=14) (N:=some 30) (v:=?_) (a':=?_) #[true,true,true,true,true,true,true,true,true,true,true,true,true,true,true] rfl rfl (any_of HT_.out (by kernel_rfl)) (fun _ _ _ h => h) (Or.inl ⟨by rfl,?_⟩) ?_ ?_
       rotate_left
       ·intro w'
        go_simp
        with_reducible rfl
       rotate_left
       ·simp only [Act.put,sx_,sy_,sz_,i64_w,i32_w]
        rfl
       refine done_ (done_of HT_.out (by kernel_rfl)) ?_
       try go_wp2
       go_roundg k2
       case measure => have:=HK1.out;have:=HK2.out;omega
       case rel => exact ⟨(x0_2),(wrap64 (x6_1 + 1)),qf_,H',⟨by have:=HK1.out;have:=HK2.out;omega⟩,⟨qr_ HO_0⟩,⟨u3_ HK⟩,⟨u0_ HB⟩⟩
   ·rw [if_neg c4] at H
    have c4b0 : decide (x6_1 < a2) = false:=decide_eq_false c4
    clear c4
    obtain rfl:=Option.some.inj H
    go_wp2
    first|go_end0|((try simp only [Exit.inBlock,Exit.then]);refine bodyPost_ret (results_none rfl _ _ _) rfl ?_)
    exact ⟨qe_,qr_ HO_0,u0_ HB,u3_ HK⟩

/-! ### bits_Len64: function 103 (by hand) -/
def bits_Len64.f (a0 : Int) : Option (Int) :=
 if 0 ≤ a0 ∧ a0 ≤ 20 then some (([0,1,2,2,3,3,3,3,4,4,4,4,4,4,4,4,5,5,5,5,5] : List Int).getD a0.toNat 0) else none
theorem upto20 {a : Int} (h0 : 0 ≤ a) (h1 : a ≤ 20) : a = 0 ∨ a = 1 ∨ a = 2 ∨ a = 3 ∨ a = 4 ∨ a = 5 ∨ a = 6 ∨ a = 7 ∨ a = 8 ∨ a = 9 ∨ a = 10 ∨ a = 11 ∨ a = 12 ∨ a = 13 ∨ a = 14 ∨ a = 15 ∨ a = 16 ∨ a = 17 ∨ a = 18 ∨ a = 19 ∨ a = 20:=by omega
set_option maxHeartbeats 4000000 in
set_option maxRecDepth 100000 in
theorem bits_Len64.calls (a0 : Int) (r : Int) (w : World) (h : bits_Len64.f a0 = some r) :
  Calls Try.prog 103 #[.int .u64 a0] w fun e w' => e = .returned (.int .i64 r) ∧ Drawn0 w w':=by
 unfold bits_Len64.f at h
 by_cases hc : 0 ≤ a0 ∧ a0 ≤ 20
 ·rw [if_pos hc] at h
  obtain rfl:=Option.some.inj h
  clear h
  have hu:=upto20 hc.1 hc.2
  clear hc
  rcases hu with rfl|rfl|rfl|rfl|rfl|rfl|rfl|rfl|rfl|rfl|rfl|rfl|rfl|rfl|rfl|rfl|rfl|rfl|rfl|rfl|rfl
  all_goals
   go_enter Try.func103,Try.ntmps103
   go_wp2
   go_ret
   exact ⟨by first|kernel_rfl|rfl,Drawn0.refl _⟩
 ·rw [if_neg hc] at h
  cases h

/-! ### bits_Len: function 84 -/
def bits_Len.f (a0 : Int) : Option (Int):=(bits_Len64.f a0).bind fun t164 => (some t164)
set_option maxHeartbeats 8000000 in
set_option maxRecDepth 100000 in
theorem bits_Len.calls (a0 : Int) (r : Int) (w : World) (h : bits_Len.f a0 = some r) :
  Calls Try.prog 84 #[.int .u64 a0] w fun e w' => e = .returned (.int .i64 r) ∧ Drawn0 w w':=by
 have H : ((bits_Len64.f a0).bind fun t164 => (some t164)) = some r:=h
 clear h
 replace H:=Option.bind_eq_some_iff.mp H
 obtain ⟨t164,A20,H⟩:=H
 replace H : (some t164) = some r:=H
 have A2:=mk_ A20
 clear A20
 obtain rfl:=Option.some.inj H
 go_enter Try.func84,Try.ntmps84
 go_wp2_with (first|((with_reducible refine gate_callee (f:=103) rfl ?_);refine goesL_ (some 7) rfl rfl Try.func103 (by kernel_rfl) rfl #[.int .u64 a0] rfl qm_ ?_;(with_reducible refine (bits_Len64.calls a0 t164 _ A2.out).mono ?_);rintro e w' ⟨rfl,⟨nd,rfl⟩⟩;refine ⟨_,rfl,?_⟩))
 go_ret
 exact ⟨by first|rfl|(simp;done)|(simp [*];done),by repeat (first|exact Drawn0.refl _|apply Drawn0.step)⟩

/-! ### slices_pdqsortOrdered_int: function 83 (by hand) -/
def slices_pdqsortOrdered_int.f (k : Nat) (l0 : List Int) (a1 : Int) (a2 : Int) (a3 : Int) : Option (List Int) :=
 if wrap64 (a2 - a1) ≤ 12 then slices_insertionSortOrdered_int.f k l0 a1 a2 else none
theorem slices_pdqsortOrdered_int.mono : ∀ a0 a1 a2 a3 k,LeO (slices_pdqsortOrdered_int.f k a0 a1 a2 a3) (slices_pdqsortOrdered_int.f (k + 1) a0 a1 a2 a3):=by
 intro a0 a1 a2 a3 k
 unfold slices_pdqsortOrdered_int.f
 exact LeO.ite (slices_insertionSortOrdered_int.mono _ _ _ _) (LeO.refl _)
set_option maxHeartbeats 4000000 in
set_option maxRecDepth 100000 in
theorem slices_pdqsortOrdered_int.calls (k : Nat) (P0_ : Nat → Prop) (u9000_ : Value) (l0 : List Int) (a1 : Int) (a2 : Int) (a3 : Int) (r : List Int) (w0 w : World) (hB : Below w0.heap.size w0 w) (ho0 : Kd.R (Kd.int .i64) 3 w w0.heap.size P0_ u9000_ l0) (h : slices_pdqsortOrdered_int.f k l0 a1 a2 a3 = some r) :
  Calls Try.prog 83 #[u9000_,.int .i64 a1,.int .i64 a2,.int .i64 a3] w fun e w' => e = .returned (.tuple #[]) ∧ Kd.R (Kd.int .i64) 3 w' w0.heap.size (fun k_ => (P0_ k_ ∨ w.heap.size ≤ k_)) u9000_ r ∧ Below w0.heap.size w0 w' ∧ Kept w w' (fun k_ => P0_ k_):=by
 unfold slices_pdqsortOrdered_int.f at h
 by_cases hc : wrap64 (a2 - a1) ≤ 12
 ·rw [if_pos hc] at h
  have hcall:=slices_insertionSortOrdered_int.calls k P0_ u9000_ l0 a1 a2 r w0 w hB ho0 h
  have hc1 : (wrap64 (a2 - a1) ≤ 12) = True:=eq_true hc
  clear h hB ho0 hc
  go_enter Try.func83,Try.ntmps83
  go_wp2
  go_loopg [1,2,3,8,9,10,11,12,13,14,15,16,17,18] 1 (fun gg s1 s2 _ _ _ _ _ _ _ _ _ _ _ _ wr => s1 = .int .i64 a1 ∧ s2 = .int .i64 a2 ∧ wr = w)
  case atStart => exact ⟨rfl,rfl,rfl⟩
  case round =>
   obtain ⟨rfl,rfl,rfl⟩:=hrel
   go_wp2_with fail
   refine hcall.mono ?_
   rintro e w' ⟨rfl,h1,h2,h3⟩
   go_wp2_with fail
   first|go_end0|((try simp only [Exit.inBlock,Exit.then]);refine bodyPost_ret (results_none rfl _ _ _) rfl ?_)
   exact ⟨rfl,h1,h2,h3⟩
 ·rw [if_neg hc] at h
  cases h

/-! ### slices_Sort_int_int: function 64 -/
def slices_Sort_int_int.f (k : Nat) (l0 : List Int) : Option (List Int):=(bits_Len.f (IntKind.u64.wrap ((l0.length : Int)))).bind fun t249 => ((slices_pdqsortOrdered_int.f k l0 0 (l0.length : Int) t249).bind fun t250 => (some t250))
theorem slices_Sort_int_int.mono : ∀ a0 k,LeO (slices_Sort_int_int.f k a0) (slices_Sort_int_int.f (k + 1) a0):=by
 intro a0 k
 unfold slices_Sort_int_int.f
 repeat' first
   | (with_reducible exact slices_pdqsortOrdered_int.mono _ _ _ _ _)
   | (with_reducible exact LeO.refl _)
   | (with_reducible exact LeO.none _)
   | (with_reducible refine LeO.ite ?_ ?_)
   | (with_reducible refine LeO.bind ?_ (fun _ => ?_))
   | exact slices_pdqsortOrdered_int.mono _ _ _ _ _
   | exact LeO.none _
   | refine LeO.ite ?_ ?_
   | refine LeO.bind ?_ (fun _ => ?_)
set_option maxHeartbeats 8000000 in
set_option maxRecDepth 100000 in
theorem slices_Sort_int_int.calls (k : Nat) (P0_ : Nat → Prop) (u9000_ : Value) (l0 : List Int) (r : List Int) (w0 w : World) (hB : Below w0.heap.size w0 w) (ho0 : Kd.R (Kd.int .i64) 3 w w0.heap.size P0_ u9000_ l0) (h : slices_Sort_int_int.f k l0 = some r) :
  Calls Try.prog 64 #[u9000_] w fun e w' => e = .returned (.tuple #[]) ∧ Kd.R (Kd.int .i64) 3 w' w0.heap.size (fun k_ => (P0_ k_ ∨ w.heap.size ≤ k_)) u9000_ r ∧ Below w0.heap.size w0 w' ∧ Kept w w' (fun k_ => P0_ k_):=by
 have HO0:=mk_ (show Kd.R (Kd.int .i64) 3 w w0.heap.size (fun k_ => (P0_ k_ ∨ w.heap.size ≤ k_)) u9000_ l0 from rm_ ho0 (fun k_ hk => (.inl hk)))
 have HK:=mk_ (Kept.refl w (fun k_ => P0_ k_))
 have HW0:=mk_ hB.size
 have HB:=mk_ hB
 clear hB
 have H : ((bits_Len.f (IntKind.u64.wrap ((l0.length : Int)))).bind fun t249 => ((slices_pdqsortOrdered_int.f k l0 0 (l0.length : Int) t249).bind fun t250 => (some t250))) = some r:=h
 clear h
 replace H:=Option.bind_eq_some_iff.mp H
 obtain ⟨t249,A20,H⟩:=H
 replace H : ((slices_pdqsortOrdered_int.f k l0 0 (l0.length : Int) t249).bind fun t250 => (some t250)) = some r:=H
 have A2:=mk_ A20
 clear A20
 replace H:=Option.bind_eq_some_iff.mp H
 obtain ⟨t250,A30,H⟩:=H
 replace H : (some t250) = some r:=H
 have A3:=mk_ A30
 clear A30
 obtain rfl:=Option.some.inj H
 obtain ⟨Ao4,co4,eo4⟩:=Kd.R_slice HO0.out
 subst eo4
 go_enter Try.func64,Try.ntmps64
 go_wp2_with (first|((with_reducible refine gate_callee (f:=84) rfl ?_);refine goesL_ (some 9) rfl rfl Try.func84 (by kernel_rfl) rfl #[.int .u64 (IntKind.u64.wrap ((l0.length : Int)))] rfl qm_ ?_;(with_reducible refine (bits_Len.calls (IntKind.u64.wrap ((l0.length : Int))) t249 _ A2.out).mono ?_);rintro e w' ⟨rfl,⟨nd,rfl⟩⟩;refine ⟨_,rfl,?_⟩)|((with_reducible refine gate_callee (f:=83) rfl ?_);refine goesL_ (some 10) rfl rfl Try.func83 (by kernel_rfl) rfl #[.slice Ao4 l0.length co4,.int .i64 0,.int .i64 (l0.length : Int),.int .i64 t249] rfl qm_ ?_;(with_reducible refine (slices_pdqsortOrdered_int.calls k (fun k_ => some k_ = (.slice Ao4 l0.length co4 : Value).ownBlock) (.slice Ao4 l0.length co4) l0 0 (l0.length : Int) t249 t250 w0 _ ?side1 ?side2 A3.out).mono ?_);(case side1 => exact u0_ HB);(case side2 => exact Kd.R_tight rfl HO0.out);rintro e w5 ⟨rfl,hy0,hb,hkp⟩;refine ⟨_,rfl,?_⟩;have n0_:=mk_ (Kd.R_reok rfl hy0 (fun k_ e_ => HO0.out.1 k_ e_));have n1_:=mk_ (Kept.then_ (S:=(fun k_ => P0_ k_)) (u3_ HK) hkp (fun k_ hs_ => (fun e_ => (HO0.out.1 k_ e_.symm)) hs_));have n2_:=mk_ (hb);clear HO0;clear HK;clear HB;have HO0:=n0_;have HK:=n1_;have HB:=n2_;clear n0_ n1_ n2_;(try clear hb);(try clear hkp);(try clear hy0)))
 first|go_end0|((try simp only [Exit.inBlock,Exit.then]);refine bodyPost_ret (results_none rfl _ _ _) rfl ?_)
 exact ⟨qe_,qr_ HO0,u0_ HB,u3_ HK⟩

/-! ### impl_TreeOf: function 30 -/
def impl_TreeOf.l0 : Nat → List (S51) → List Int → List Int → Int → Int → Option (List Int)
 | 0,_,_,_,_,_ => none
 | k + 1,x1,x5,x6,x17,x18 => if x18 < x17 then ((impl_upOf.f k x1 x6 x18).bind fun bt255 => (if bt255.1 ≥ 0 then (if x5.length < 17592186044416 then (impl_TreeOf.l0 k x1 (x5 ++ [bt255.1]) x6 x17 (wrap64 (x18 + 1))) else (none)) else (impl_TreeOf.l0 k x1 x5 x6 x17 (wrap64 (x18 + 1))))) else ((slices_Sort_int_int.f k x5).bind fun t260 => (some t260))
def impl_TreeOf.f (k : Nat) (a0 : Int) (l1 : List (S51)) : Option (List Int):=(impl_CablesValid.f a0 l1).bind fun t251 => (if t251 = true then ((impl_costsOf.f k a0 l1).bind fun t252 => (impl_TreeOf.l0 k l1 ([] : List Int) t252 a0 0)) else (some ([] : List Int)))
theorem impl_TreeOf.mono_l : ∀ k,(∀ y0 y1 y2 y3 y4,LeO (impl_TreeOf.l0 k y0 y1 y2 y3 y4) (impl_TreeOf.l0 (k + 1) y0 y1 y2 y3 y4))
 | 0 => fun _ _ _ _ _ r h => by simp [impl_TreeOf.l0] at h
 | k + 1 => by
  have ih0:=impl_TreeOf.mono_l k
  ·intro y0 y1 y2 y3 y4
   unfold impl_TreeOf.l0
   repeat' first
   | (with_reducible exact ih0 _ _ _ _ _)
   | (with_reducible exact impl_costsOf.mono _ _ _)
   | (with_reducible exact impl_upOf.mono _ _ _ _)
   | (with_reducible exact slices_Sort_int_int.mono _ _)
   | (with_reducible exact LeO.refl _)
   | (with_reducible exact LeO.none _)
   | (with_reducible refine LeO.ite ?_ ?_)
   | (with_reducible refine LeO.bind ?_ (fun _ => ?_))
   | exact ih0 _ _ _ _ _
   | exact impl_costsOf.mono _ _ _
   | exact impl_upOf.mono _ _ _ _
   | exact slices_Sort_int_int.mono _ _
   | exact LeO.none _
   | refine LeO.ite ?_ ?_
   | refine LeO.bind ?_ (fun _ => ?_)
theorem impl_TreeOf.mono : ∀ a0 a1 k,LeO (impl_TreeOf.f k a0 a1) (impl_TreeOf.f (k + 1) a0 a1):=by
 intro a0 a1 k
 have ih0:=impl_TreeOf.mono_l k
 unfold impl_TreeOf.f
 repeat' first
   | (with_reducible exact ih0 _ _ _ _ _)
   | (with_reducible exact impl_costsOf.mono _ _ _)
   | (with_reducible exact impl_upOf.mono _ _ _ _)
   | (with_reducible exact slices_Sort_int_int.mono _ _)
   | (with_reducible exact LeO.refl _)
   | (with_reducible exact LeO.none _)
   | (with_reducible refine LeO.ite ?_ ?_)
   | (with_reducible refine LeO.bind ?_ (fun _ => ?_))
   | exact ih0 _ _ _ _ _
   | exact impl_costsOf.mono _ _ _
   | exact impl_upOf.mono _ _ _ _
   | exact slices_Sort_int_int.mono _ _
   | exact LeO.none _
   | refine LeO.ite ?_ ?_
   | refine LeO.bind ?_ (fun _ => ?_)
set_option maxHeartbeats 8000000 in
set_option maxRecDepth 100000 in
theorem impl_TreeOf.calls (k : Nat) (a0 : Int) (A1 : Option Addr) (c1 : Nat) (l1 : List (S51)) (r : List Int) (w : World) (hr1 : Kd.C k51 w A1 l1.length l1) (hc1 : l1.length ≤ c1) (h : impl_TreeOf.f k a0 l1 = some r) :
  Calls Try.prog 30 #[.int .i64 a0,.slice A1 l1.length c1] w fun e w' => ∃ v0_ : Value,e = .returned (v0_) ∧ Kd.R (Kd.int .i64) 3 w' w.heap.size (fun _ => True) v0_ r ∧ Below w.heap.size w w':=by
 have HR1:=mk_ hr1
 have HC1:=mk_ hc1
 clear hr1 hc1
 have HB:=mk_ (Below.refl w.heap.size w)
 have H : ((impl_CablesValid.f a0 l1).bind fun t251 => (if t251 = true then ((impl_costsOf.f k a0 l1).bind fun t252 => (impl_TreeOf.l0 k l1 ([] : List Int) t252 a0 0)) else (some ([] : List Int)))) = some r:=h
 clear h
 replace H:=Option.bind_eq_some_iff.mp H
 obtain ⟨t251,A30,H⟩:=H
 replace H : (if t251 = true then ((impl_costsOf.f k a0 l1).bind fun t252 => (impl_TreeOf.l0 k l1 ([] : List Int) t252 a0 0)) else (some ([] : List Int))) = some r:=H
 have A3:=mk_ A30
 clear A30
 by_cases c4 : t251 = true
 ·subst c4
  have H1 : ((impl_costsOf.f k a0 l1).bind fun t252 => (impl_TreeOf.l0 k l1 ([] : List Int) t252 a0 0)) = some r:=by rw [if_pos rfl] at H;exact H
  clear H
  have H:=H1
  clear H1
  replace H:=Option.bind_eq_some_iff.mp H
  obtain ⟨t252,A50,H⟩:=H
  replace H : (impl_TreeOf.l0 k l1 ([] : List Int) t252 a0 0) = some r:=H
  have A5:=mk_ A50
  clear A50
  have H':=mk_ H
  clear H
  go_enter Try.func30,Try.ntmps30
  go_wp2_with (first|((with_reducible refine gate_callee (f:=45) rfl ?_);refine goesL_ (some 12) rfl rfl Try.func45 (by kernel_rfl) rfl #[.int .i64 a0,.slice A1 l1.length c1] rfl qm_ ?_;(with_reducible refine (impl_CablesValid.calls a0 _ _ l1 true _ ?side1 ?side2 A3.out).mono ?_);(case side1 => repeat (first|exact HR1.out|(with_reducible refine ca_ ?_ _)|(with_reducible refine cn_ ?_ _)|(with_reducible refine cd_ ?_)));(case side2 => exact HC1.out);rintro e w6 ⟨rfl,hb⟩;refine ⟨_,rfl,?_⟩;have n0_:=mk_ (st_ (qb_ HB) hb);clear HB;have HB:=n0_;clear n0_;(try clear hb);(try clear hb2);(try clear hk);(try clear hi))|((with_reducible refine gate_callee (f:=62) rfl ?_);refine goesL_ (some 16) rfl rfl Try.func62 (by kernel_rfl) rfl #[.int .i64 a0,.slice A1 l1.length c1] rfl qm_ ?_;(with_reducible refine (impl_costsOf.calls k a0 _ _ l1 t252 _ ?side1 ?side2 A5.out).mono ?_);(case side1 => exact qn_ HR1 HB);(case side2 => exact HC1.out);rintro e w7 ⟨v253,rfl,ho0,hb⟩;refine ⟨_,rfl,?_⟩;have n0_:=mk_ (Kd.R_lower ho0 (bz_ (qb_ HB)));have n1_:=mk_ (st_ (qb_ HB) hb);clear HB;have HO254:=n0_;have HB:=n1_;clear n0_ n1_;(try clear hb);(try clear hb2);(try clear hk);(try clear hi);(try clear ho0)))
  go_loopg [5,18] k (fun kq v5 v18 w' => ∃ (x5_1 : List Int) (x18_1 : Int),v18 = .int .i64 x18_1 ∧ Aside0 (impl_TreeOf.l0 kq l1 x5_1 t252 a0 x18_1 = some r) ∧ Aside0 (kq ≤ k) ∧ Aside0 (Kd.R (Kd.int .i64) 3 w' w.heap.size (fun k_ => some k_ ≠ (v253 : Value).ownBlock) v5 x5_1) ∧ Aside0 (Kd.R (Kd.int .i64) 3 w' w.heap.size (fun k_ => some k_ ≠ (v5 : Value).ownBlock) v253 t252) ∧ Aside0 (Below w.heap.size w w'))
  case atStart => exact ⟨(([] : List Int)),(0),qf_,H',⟨Nat.le_refl _⟩,⟨by first|exact Kd.R_nil _ _ _ _ _|exact Kd.N_nil _ _ _ _ _|exact Kd.V_nil _ _ _ _ _|exact Kd.Q_nil _ _ _ _ _|exact Kd.S_nil _ _ _ _ _⟩,⟨by (with_reducible repeat (first|apply ra_|apply rn_|apply rd_));exact rm_ HO254.out (fun _ hk => (by simp [Value.ownBlock]))⟩,⟨u0_ HB⟩⟩
  case round =>
   clear H'
   try clear c1
   try clear p2
   try clear c3
   try clear c4
   try clear c6
   obtain ⟨x5_1,x18_1,rfl,HA,HK1,HO_5,HO_6,HB⟩:=hrel
   cases gk with
   | zero => exact absurd HA.out (by simp [impl_TreeOf.l0])
   | succ k1 =>
    have H:=HA.out
    clear HA
    simp only [impl_TreeOf.l0] at H
    by_cases c8 : x18_1 < a0
    ·rw [if_pos c8] at H
     have c8b0 : decide (x18_1 < a0) = true:=decide_eq_true c8
     clear c8
     replace H:=Option.bind_eq_some_iff.mp H
     obtain ⟨⟨t255,t256⟩,A90,H⟩:=H
     replace H : (if t255 ≥ 0 then (if x5_1.length < 17592186044416 then (impl_TreeOf.l0 k1 l1 (x5_1 ++ [t255]) t252 a0 (wrap64 (x18_1 + 1))) else (none)) else (impl_TreeOf.l0 k1 l1 x5_1 t252 a0 (wrap64 (x18_1 + 1)))) = some r:=H
     have A9:=mk_ A90
     clear A90
     by_cases c10 : t255 ≥ 0
     ·rw [if_pos c10] at H
      have c10b0 : decide (0 ≤ t255) = true:=decide_eq_true c10
      clear c10
      by_cases c11 : x5_1.length < 17592186044416
      ·rw [if_pos c11] at H
       have LMc11:=mk_ c11
       clear c11
       obtain ⟨y257,hy257⟩ : ∃ y_ : List Int,y_ = (x5_1 ++ [t255]):=⟨_,rfl⟩
       replace H : (impl_TreeOf.l0 k1 l1 y257 t252 a0 (wrap64 (x18_1 + 1))) = some r:=by first|(rw [hy257];with_reducible exact H)|(have H2_:=(Option.bind_some _ _).symm.trans H;rw [hy257];with_reducible exact H2_)|(have H2_:=(Option.bind_some _ _).symm.trans H;with_reducible exact H2_)|with_reducible exact H|(rw [hy257];exact H)|exact H
       have Ny257:=mk_ hy257
       clear hy257
       have H':=mk_ H
       clear H
       obtain ⟨Ao12,co12,eo12⟩:=Kd.R_slice HO_6.out
       subst eo12
       go_wp2_with (first|((with_reducible refine gate_callee (f:=63) rfl ?_);refine goesL_ (some 25) rfl rfl Try.func63 (by kernel_rfl) rfl #[.slice A1 l1.length c1,.slice Ao12 t252.length co12,.int .i64 x18_1] rfl qm_ ?_;(with_reducible refine (impl_upOf.calls k1 _ _ l1 _ _ t252 x18_1 t255 t256 _ ?side1 ?side2 ?side3 ?side4 A9.out).mono ?_);(case side1 => exact qn_ HR1 HB);(case side2 => exact HC1.out);(case side3 => repeat (first|exact (rr_ HO_6.out).2.2|(with_reducible refine ca_ ?_ _)|(with_reducible refine cn_ ?_ _)|(with_reducible refine cd_ ?_)));(case side4 => exact (rr_ HO_6.out).2.1);rintro e w13 ⟨rfl,hb⟩;refine ⟨_,rfl,?_⟩;have n0_:=mk_ (rb_ (qr_ HO_5) hb);have n1_:=mk_ (rb_ (qr_ HO_6) hb);have n2_:=mk_ (st_ (qb_ HB) hb);clear HO_5;clear HO_6;clear HB;have HO_5:=n0_;have HO_6:=n1_;have HB:=n2_;clear n0_ n1_ n2_;(try clear hb);(try clear hb2);(try clear hk);(try clear hi))|((with_reducible refine gate_builtin (b:=.append) (xs:=#[.tmp 30,.tmp 32]) rfl ?_);at_builtin;refine Kd.R_append (Kd.int .i64) (w0:=w) w.heap.size rfl (.tmp 30) (.tmp 32) 23 3 (.int .i64 0) 8 rfl Try.underlying23 info3 rfl (by decide) (by omega) u5 x5_1 t255 [.int .i64 t255] (fun k_ => some k_ ≠ (.slice Ao12 t252.length co12 : Value).ownBlock) (fun _ => False) rfl rfl ?aP (fun _ hk => hk.elim) ?aF ?aO ?aB ?aS ?aL ?_;(case aP => exact rfl);(case aB => exact (qb_ HB));(case aF => exact (fun k_ hk => Kd.fresh' (Kd.R_lt (qr_ HO_6)) k_ hk));(case aO => exact (qr_ HO_5));(case aS => exact (bz_ (qb_ HB)));(case aL => have:=LMc11.out;omega);intro v258 w14 ho hb hg hat;rw [← Ny257.out] at ho;have n0_:=mk_ (Kd.R_after (ok:=(fun _ => True)) (by (with_reducible repeat (first|apply ra_|apply rn_|apply rd_));exact rm_ HO_6.out (fun _ hk => ⟨trivial,hk⟩)) hg hat);have n1_:=mk_ (hb);have n2_:=mk_ (ho);clear HO_6;clear HB;clear HO_5;have HO_6:=n0_;have HB:=n1_;have HO259:=n2_;clear n0_ n1_ n2_;clear ho hb hg hat))
       go_roundg k1
       case measure => have:=HK1.out;omega
       case rel => exact ⟨(y257),(wrap64 (x18_1 + 1)),qf_,H',⟨by have:=HK1.out;omega⟩,⟨qr_ HO259⟩,⟨by (with_reducible repeat (first|apply ra_|apply rn_|apply rd_));exact rm_ HO_6.out (fun _ hk => hk.2)⟩,⟨u0_ HB⟩⟩
      ·rw [if_neg c11] at H
       exact absurd H (by simp)
     ·rw [if_neg c10] at H
      have c10b0 : decide (0 ≤ t255) = false:=decide_eq_false c10
      clear c10
      have H':=mk_ H
      clear H
      obtain ⟨Ao15,co15,eo15⟩:=Kd.R_slice HO_6.out
      subst eo15
      go_wp2_with (first|((with_reducible refine gate_callee (f:=63) rfl ?_);refine goesL_ (some 25) rfl rfl Try.func63 (by kernel_rfl) rfl #[.slice A1 l1.length c1,.slice Ao15 t252.length co15,.int .i64 x18_1] rfl qm_ ?_;(with_reducible refine (impl_upOf.calls k1 _ _ l1 _ _ t252 x18_1 t255 t256 _ ?side1 ?side2 ?side3 ?side4 A9.out).mono ?_);(case side1 => exact qn_ HR1 HB);(case side2 => exact HC1.out);(case side3 => repeat (first|exact (rr_ HO_6.out).2.2|(with_reducible refine ca_ ?_ _)|(with_reducible refine cn_ ?_ _)|(with_reducible refine cd_ ?_)));(case side4 => exact (rr_ HO_6.out).2.1);rintro e w16 ⟨rfl,hb⟩;refine ⟨_,rfl,?_⟩;have n0_:=mk_ (rb_ (qr_ HO_5) hb);have n1_:=mk_ (rb_ (qr_ HO_6) hb);have n2_:=mk_ (st_ (qb_ HB) hb);clear HO_5;clear HO_6;clear HB;have HO_5:=n0_;have HO_6:=n1_;have HB:=n2_;clear n0_ n1_ n2_;(try clear hb);(try clear hb2);(try clear hk);(try clear hi)))
      go_roundg k1
      case measure => have:=HK1.out;omega
      case rel => exact ⟨(x5_1),(wrap64 (x18_1 + 1)),qf_,H',⟨by have:=HK1.out;omega⟩,⟨qr_ HO_5⟩,⟨qr_ HO_6⟩,⟨u0_ HB⟩⟩
    ·rw [if_neg c8] at H
     have c8b0 : decide (x18_1 < a0) = false:=decide_eq_false c8
     clear c8
     replace H:=Option.bind_eq_some_iff.mp H
     obtain ⟨t260,A170,H⟩:=H
     replace H : (some t260) = some r:=H
     have A17:=mk_ A170
     clear A170
     obtain rfl:=Option.some.inj H
     obtain ⟨Ao18,co18,eo18⟩:=Kd.R_slice HO_5.out
     subst eo18
     go_wp2_with (first|((with_reducible refine gate_callee (f:=64) rfl ?_);refine goesL_ (some 36) rfl rfl Try.func64 (by kernel_rfl) rfl #[.slice Ao18 x5_1.length co18] rfl qm_ ?_;(with_reducible refine (slices_Sort_int_int.calls k1 (fun k_ => some k_ = (.slice Ao18 x5_1.length co18 : Value).ownBlock) (.slice Ao18 x5_1.length co18) x5_1 t260 w _ ?side1 ?side2 A17.out).mono ?_);(case side1 => exact u0_ HB);(case side2 => exact Kd.R_tight rfl HO_5.out);rintro e w19 ⟨rfl,hy0,hb,hkp⟩;refine ⟨_,rfl,?_⟩;have n0_:=mk_ (Kd.R_reok rfl hy0 (fun k_ e_ => HO_5.out.1 k_ e_));have n1_:=mk_ (rm_ (ok':=fun k_ => some k_ ≠ (.slice Ao18 x5_1.length co18 : Value).ownBlock) (Kd.R_keptB (HO_6.out) hkp (fun k_ hk_ hs_ => (hk_) hs_)) (fun k_ hk_ => hk_.1));have n2_:=mk_ (hb);clear HO_5;clear HO_6;clear HB;have HO_5:=n0_;have HO_6:=n1_;have HB:=n2_;clear n0_ n1_ n2_;(try clear hb);(try clear hkp);(try clear hy0)))
     go_ret
     exact ⟨_,qe_,by (with_reducible repeat (first|apply ra_|apply rn_|apply rd_));exact rm_ HO_5.out (fun _ hk => trivial),u0_ HB⟩
 ·replace c4:=Bool.eq_false_iff.mpr c4
  subst c4
  have H1 : (some ([] : List Int)) = some r:=by rw [if_neg (show ¬ (false = true) by decide)] at H;exact H
  clear H
  have H:=H1
  clear H1
  obtain rfl:=Option.some.inj H
  go_enter Try.func30,Try.ntmps30
  go_wp2_with (first|((with_reducible refine gate_callee (f:=45) rfl ?_);refine goesL_ (some 12) rfl rfl Try.func45 (by kernel_rfl) rfl #[.int .i64 a0,.slice A1 l1.length c1] rfl qm_ ?_;(with_reducible refine (impl_CablesValid.calls a0 _ _ l1 false _ ?side1 ?side2 A3.out).mono ?_);(case side1 => repeat (first|exact HR1.out|(with_reducible refine ca_ ?_ _)|(with_reducible refine cn_ ?_ _)|(with_reducible refine cd_ ?_)));(case side2 => exact HC1.out);rintro e w20 ⟨rfl,hb⟩;refine ⟨_,rfl,?_⟩;have n0_:=mk_ (st_ (qb_ HB) hb);clear HB;have HB:=n0_;clear n0_;(try clear hb);(try clear hb2);(try clear hk);(try clear hi)))
  go_ret
  exact ⟨_,qe_,by first|exact Kd.R_nil _ _ _ _ _|exact Kd.N_nil _ _ _ _ _|exact Kd.V_nil _ _ _ _ _|exact Kd.Q_nil _ _ _ _ _|exact Kd.S_nil _ _ _ _ _,u0_ HB⟩

/-! ### impl_isNetwork: function 49 -/
def impl_isNetwork.f (a0 : Int) : Option (Bool):=(impl_within.f a0 1 9).bind fun t261 => (some t261)
set_option maxHeartbeats 8000000 in
set_option maxRecDepth 100000 in
theorem impl_isNetwork.calls (a0 : Int) (r : Bool) (w : World) (h : impl_isNetwork.f a0 = some r) :
  Calls Try.prog 49 #[.int .i64 a0] w fun e w' => e = .returned (.bool r) ∧ Drawn0 w w':=by
 have H : ((impl_within.f a0 1 9).bind fun t261 => (some t261)) = some r:=h
 clear h
 replace H:=Option.bind_eq_some_iff.mp H
 obtain ⟨t261,A20,H⟩:=H
 replace H : (some t261) = some r:=H
 have A2:=mk_ A20
 clear A20
 obtain rfl:=Option.some.inj H
 go_enter Try.func49,Try.ntmps49
 go_wp2_with (first|((with_reducible refine gate_callee (f:=48) rfl ?_);refine goesL_ (some 4) rfl rfl Try.func48 (by kernel_rfl) rfl #[.int .i64 a0,.int .i64 1,.int .i64 9] rfl qm_ ?_;(with_reducible refine (impl_within.calls a0 1 9 t261 _ A2.out).mono ?_);rintro e w' ⟨rfl,⟨nd,rfl⟩⟩;refine ⟨_,rfl,?_⟩))
 go_ret
 exact ⟨by first|rfl|(simp;done)|(simp [*];done),by repeat (first|exact Drawn0.refl _|apply Drawn0.step)⟩

-- LIB containsint
set_option maxHeartbeats 4000000 in
set_option maxRecDepth 100000 in
theorem x_IndexFunc_int (p : Int → Bool) (g : Nat) (lb : Array Value) (eg : ∀ args w,(callFunc g args).run Try.prog w = .ok (.enter g args) w) (A0 : Option Addr) (c0 : Nat) (l0 : List Int) (w : World)
    (hp : PredB Try.prog g lb (Value.int .i64) p w) (hr0 : Kd.C (Kd.int .i64) w A0 l0.length l0) :
    Calls Try.prog 91 #[.slice A0 l0.length c0,.func (.func g) #[] lb] w fun e w' => e = .returned (.int .i64 (idxL p l0 0)) ∧ Below w.heap.size w w':=by
  have hlen:=Kd.C_max hr0
  have HR:=Aside0.mk hr0
  have HP:=Aside0.mk hp
  clear hr0 hp
  go_enter Try.func91,Try.ntmps91
  go_wp2
  go_loopg [5,8] l0.length (fun gg _ s8 wr => ∃ kk : Nat,kk ≤ l0.length ∧ l0.length - kk ≤ gg ∧ s8 = .int .i64 kk ∧ Aside0 (Below w.heap.size w wr) ∧ Aside0 (idxL p (l0.drop kk) kk = idxL p l0 0))
  case atStart => exact ⟨0,Nat.zero_le _,by omega,rfl,⟨Below.refl _ w⟩,⟨rfl⟩⟩
  case round =>
    obtain ⟨kk,hkk,hg,rfl,BW,HI⟩:=hrel
    by_cases hlt : kk < l0.length
    · obtain ⟨ad,e,hx⟩:=Kd.at_int (Kd.C_below HR.out BW.out) (kk : Int) (by omega) (by omega)
      cases e
      rw [Int.toNat_natCast] at hx
      obtain ⟨y,hy⟩ : ∃ y,y = rd l0 (kk : Int):=⟨_,rfl⟩
      rw [← hy] at hx
      have hcall:=HP.out wr y BW.out
      have HD : Aside0 (idxL p l0 0 = if p y then (kk : Int) else idxL p (l0.drop (kk + 1)) (kk + 1)):=⟨by rw [← HI.out,idxL_drop p l0 kk hlt,hy,rd_getD]⟩
      clear hy
      cases hq : p y with
      | true =>
        rw [hq] at hcall
        have HQ:=Aside0.mk hq
        clear hq
        go_wp2_with (go_at_fn g;refine hcall.mono ?_;rintro e w' ⟨rfl,hb'⟩)
        go_ret
        exact ⟨by rw [HD.out,HQ.out];rfl,below_step BW.out hb'⟩
      | false =>
        rw [hq] at hcall
        have HQ:=Aside0.mk hq
        clear hq
        go_wp2_with (go_at_fn g;refine hcall.mono ?_;rintro e w' ⟨rfl,hb'⟩)
        go_roundg (l0.length - (kk + 1))
        case measure => omega
        case rel => exact ⟨kk + 1,by omega,by omega,by go_num,⟨below_step BW.out hb'⟩,⟨by rw [HD.out,HQ.out];rfl⟩⟩
    · have e : kk = l0.length:=by omega
      subst e
      go_wp2
      go_ret
      exact ⟨by rw [← HI.out,List.drop_length];rfl,BW.out⟩
set_option maxHeartbeats 4000000 in
set_option maxRecDepth 100000 in
theorem x_ContainsFunc_int (p : Int → Bool) (g : Nat) (lb : Array Value) (eg : ∀ args w,(callFunc g args).run Try.prog w = .ok (.enter g args) w) (A0 : Option Addr) (c0 : Nat) (l0 : List Int) (w : World)
    (hp : PredB Try.prog g lb (Value.int .i64) p w) (hr0 : Kd.C (Kd.int .i64) w A0 l0.length l0) :
    Calls Try.prog 74 #[.slice A0 l0.length c0,.func (.func g) #[] lb] w fun e w' => e = .returned (.bool (l0.any p)) ∧ Below w.heap.size w w':=by
  have hcall:=x_IndexFunc_int p g lb eg A0 c0 l0 w hp hr0
  have HA:=Aside0.mk (idxL_any p l0 0)
  obtain ⟨z,hz⟩ : ∃ z,z = idxL p l0 0:=⟨_,rfl⟩
  rw [← hz] at hcall HA
  clear hp hr0 hz
  go_enter Try.func74,Try.ntmps74
  go_wp2_with (go_at_call 91;refine hcall.mono ?_;rintro e w' ⟨rfl,hb'⟩)
  go_ret
  exact ⟨by rw [← HA.out];rfl,hb'⟩

-- LIB allint
set_option maxHeartbeats 4000000 in
set_option maxRecDepth 100000 in
theorem x_all_int_1 {p : Int → Bool} {g : Nat} {lb : Array Value} (eg : ∀ args w,(callFunc g args).run Try.prog w = .ok (.enter g args) w) {b : Nat} {w : World}
    (hp : PredB Try.prog g lb (Value.int .i64) p w) (hb : b < w.heap.size) (hc : w.cell? ⟨b,0,none⟩ = some (.func (.func g) #[] lb)) :
    PredB Try.prog 75 #[.pointer (some ⟨b,0,none⟩)] (Value.int .i64) (fun x => !p x) w:=by
  intro W x hB
  have hc':=(hB.cell (p:=⟨b,0,none⟩) hb).trans hc
  have hcall:=hp W x hB
  clear hp hc hB hb
  go_enter Try.func75,Try.ntmps75
  go_wp2_with (go_at_fn g;refine hcall.mono ?_;rintro e w' ⟨rfl,hb'⟩)
  go_ret
  exact ⟨rfl,hb'⟩
theorem any_not_all {α : Type} (p : α → Bool) (l : List α) : (!l.any fun x => !p x) = l.all p:=by
  induction l with
  | nil => rfl
  | cons x xs ih => simp only [List.any_cons,List.all_cons,Bool.not_or,Bool.not_not,ih]
set_option maxHeartbeats 4000000 in
set_option maxRecDepth 100000 in
theorem x_all_int (p : Int → Bool) (g : Nat) (lb : Array Value) (eg : ∀ args w,(callFunc g args).run Try.prog w = .ok (.enter g args) w) (A0 : Option Addr) (c0 : Nat) (l0 : List Int) (w : World)
    (hp : PredB Try.prog g lb (Value.int .i64) p w) (hr0 : Kd.C (Kd.int .i64) w A0 l0.length l0) :
    Calls Try.prog 46 #[.slice A0 l0.length c0,.func (.func g) #[] lb] w fun e w' => e = .returned (.bool (l0.all p)) ∧ Below w.heap.size w w':=by
  have hmf : ∀ (fn : Fn) (first cap : Array Value) (w : World),(Instr.makeFunc fn first cap).run Try.prog w = .ok (.func fn first cap) w:=fun _ _ _ _ => rfl
  have hb0 : Below w.heap.size w (w.alloc (.cells #[.func (.func g) #[] lb] 56)):=(Below.refl _ w).alloc (Nat.le_refl _) _
  have hcall:=x_ContainsFunc_int (fun x => !p x) 75 #[.pointer (some ⟨w.heap.size,0,none⟩)] (enters_of Try.func75 (by kernel_rfl) rfl) A0 c0 l0 _ (x_all_int_1 eg (hp.later hb0) (by simp) (by simp)) (Kd.C_below hr0 hb0)
  have HB0:=Aside0.mk hb0
  clear hp hr0 hb0
  go_enter Try.func46,Try.ntmps46
  go_wp2_with (go_at_call 74;refine hcall.mono ?_;rintro e w' ⟨rfl,hb'⟩)
  go_ret
  exact ⟨by rw [any_not_all];rfl,below_step HB0.out hb'⟩

end Go.Proofs.Ytdamdcdjodmemaa.PAll
