/- Proved here: contracts of functions of the given program, or lemmas on them, for the laws of this seat. Written by xprint.py, a program of this session, on the ground of the kit's print; parts by hand: wip/x/ext. -/
import Derived.Test.YtblcnbnphjnhdaaPAllx0
import Derived.Test.YtblcnbnphjnhdaaPAllx1
import Derived.Test.YtblcnbnphjnhdaaPAllx2
namespace Go.Proofs.Ytblcnbnphjnhdaa.PAll
open Go.RowKit Go.Proofs.YtblcnbnphjnhdaaW.PrintWords Go.Proofs.YtblcnbnphjnhdaaW.PrintLast Go.Proofs.YtblcnbnphjnhdaaW.PrintMore
attribute [local go_sem] max2_int min2_int max_two min_two max_three min_three max_four min_four   -- for this text's walks alone
set_option linter.unusedVariables false
set_option linter.unusedSimpArgs false
/-! ### impl_Cable_other: function 74 -/
def impl_Cable_other.f (a0_0 : Int) (a0_1 : Int) (a0_2 : Int) (a1 : Int) : Option (Int × Bool):=if a1 = a0_0 then (some (a0_1,true)) else (if a1 = a0_1 then (some (a0_0,true)) else (some (0,false)))
set_option maxHeartbeats 8000000 in
set_option maxRecDepth 100000 in
theorem impl_Cable_other.calls (a0_0 : Int) (a0_1 : Int) (a0_2 : Int) (a1 : Int) (r1 : Int) (r2 : Bool) (w : World) (h : impl_Cable_other.f a0_0 a0_1 a0_2 a1 = some (r1,r2)) :
  Calls Try.prog 74 #[.agg #[.int .i64 a0_0,.int .i64 a0_1,.int .i64 a0_2],.int .i64 a1] w fun e w' => e = .returned (.tuple #[.int .i64 r1,.bool r2]) ∧ Below w.heap.size w w':=by
 have hu83:=Try.underlying83
 have HB:=mk_ (Below.refl w.heap.size w)
 have H : (if a1 = a0_0 then (some (a0_1,true)) else (if a1 = a0_1 then (some (a0_0,true)) else (some (0,false)))) = some (r1,r2):=h
 clear h
 by_cases c3 : a1 = a0_0
 ·rw [if_pos c3] at H
  have c3b0 : (a1 == a0_0) = true:=beq_iff_eq.mpr c3
  have c3b1 : (a1 != a0_0) = false:=bne_eq_false_iff_eq.mpr c3
  clear c3
  simp only [Option.some.injEq,Prod.mk.injEq] at H
  obtain ⟨rfl,rfl⟩:=H
  go_enter Try.func74,Try.ntmps74
  go_wp2_with (first|((with_reducible refine gate_dst (N:=2) rfl ?_);refine box_event ?hg (N:=2) ?hd (cs:=#[.int .i64 a0_0,.int .i64 a0_1,.int .i64 a0_2]) (t:=83) ?hr ?_;(case hd => rfl);(case hg => rfl);(case hr => first|(go_simp;done)|(go_simp;rfl));intro gb378 hg w4 hbox hb;have n0_:=mk_ (st_ (qb_ HB) hb);have n1_:=mk_ (hbox);have n2_:=mk_ ((by rw [hg];exact (bz_ (qb_ HB)) : w.heap.size ≤ gb378));have n3_:=mk_ ((by rw [hg];exact (bz_ (qb_ HB)) : w.heap.size ≤ gb378));clear HB;have HB:=n0_;have BK378:=n1_;have GW378:=n2_;have GE378:=n3_;clear n0_ n1_ n2_ n3_ hb hbox hg;have hcz5_0 : w4.cell? ⟨gb378,0,none⟩ = some (.int .i64 a0_0):=(bc_ BK378.out 0).trans rfl;have hcz5_1 : w4.cell? ⟨gb378,1,none⟩ = some (.int .i64 a0_1):=(bc_ BK378.out 1).trans rfl;have hcz5_2 : w4.cell? ⟨gb378,2,none⟩ = some (.int .i64 a0_2):=(bc_ BK378.out 2).trans rfl;have hfz5_0:=bf_ BK378.out 0;have hfz5_1:=bf_ BK378.out 1;have hfz5_2:=bf_ BK378.out 2))
  go_ret2
  exact ⟨qe_,u0_ HB GE378⟩
 ·rw [if_neg c3] at H
  have c3b0 : (a1 == a0_0) = false:=beq_eq_false_iff_ne.mpr c3
  have c3b1 : (a1 != a0_0) = true:=bne_iff_ne.mpr c3
  by_cases c6 : a1 = a0_1
  ·rw [if_pos c6] at H
   have c6b0 : (a1 == a0_1) = true:=beq_iff_eq.mpr c6
   have c6b1 : (a1 != a0_1) = false:=bne_eq_false_iff_eq.mpr c6
   clear c6
   simp only [Option.some.injEq,Prod.mk.injEq] at H
   obtain ⟨rfl,rfl⟩:=H
   go_enter Try.func74,Try.ntmps74
   go_wp2_with (first|((with_reducible refine gate_dst (N:=2) rfl ?_);refine box_event ?hg (N:=2) ?hd (cs:=#[.int .i64 a0_0,.int .i64 a0_1,.int .i64 a0_2]) (t:=83) ?hr ?_;(case hd => rfl);(case hg => rfl);(case hr => first|(go_simp;done)|(go_simp;rfl));intro gb378 hg w7 hbox hb;have n0_:=mk_ (st_ (qb_ HB) hb);have n1_:=mk_ (hbox);have n2_:=mk_ ((by rw [hg];exact (bz_ (qb_ HB)) : w.heap.size ≤ gb378));have n3_:=mk_ ((by rw [hg];exact (bz_ (qb_ HB)) : w.heap.size ≤ gb378));clear HB;have HB:=n0_;have BK378:=n1_;have GW378:=n2_;have GE378:=n3_;clear n0_ n1_ n2_ n3_ hb hbox hg;have hcz8_0 : w7.cell? ⟨gb378,0,none⟩ = some (.int .i64 a0_0):=(bc_ BK378.out 0).trans rfl;have hcz8_1 : w7.cell? ⟨gb378,1,none⟩ = some (.int .i64 a0_1):=(bc_ BK378.out 1).trans rfl;have hcz8_2 : w7.cell? ⟨gb378,2,none⟩ = some (.int .i64 a0_2):=(bc_ BK378.out 2).trans rfl;have hfz8_0:=bf_ BK378.out 0;have hfz8_1:=bf_ BK378.out 1;have hfz8_2:=bf_ BK378.out 2))
   go_ret2
   exact ⟨qe_,u0_ HB GE378⟩
  ·rw [if_neg c6] at H
   have c6b0 : (a1 == a0_1) = false:=beq_eq_false_iff_ne.mpr c6
   have c6b1 : (a1 != a0_1) = true:=bne_iff_ne.mpr c6
   simp only [Option.some.injEq,Prod.mk.injEq] at H
   obtain ⟨rfl,rfl⟩:=H
   go_enter Try.func74,Try.ntmps74
   go_wp2_with (first|((with_reducible refine gate_dst (N:=2) rfl ?_);refine box_event ?hg (N:=2) ?hd (cs:=#[.int .i64 a0_0,.int .i64 a0_1,.int .i64 a0_2]) (t:=83) ?hr ?_;(case hd => rfl);(case hg => rfl);(case hr => first|(go_simp;done)|(go_simp;rfl));intro gb378 hg w9 hbox hb;have n0_:=mk_ (st_ (qb_ HB) hb);have n1_:=mk_ (hbox);have n2_:=mk_ ((by rw [hg];exact (bz_ (qb_ HB)) : w.heap.size ≤ gb378));have n3_:=mk_ ((by rw [hg];exact (bz_ (qb_ HB)) : w.heap.size ≤ gb378));clear HB;have HB:=n0_;have BK378:=n1_;have GW378:=n2_;have GE378:=n3_;clear n0_ n1_ n2_ n3_ hb hbox hg;have hcz10_0 : w9.cell? ⟨gb378,0,none⟩ = some (.int .i64 a0_0):=(bc_ BK378.out 0).trans rfl;have hcz10_1 : w9.cell? ⟨gb378,1,none⟩ = some (.int .i64 a0_1):=(bc_ BK378.out 1).trans rfl;have hcz10_2 : w9.cell? ⟨gb378,2,none⟩ = some (.int .i64 a0_2):=(bc_ BK378.out 2).trans rfl;have hfz10_0:=bf_ BK378.out 0;have hfz10_1:=bf_ BK378.out 1;have hfz10_2:=bf_ BK378.out 2))
   go_ret2
   exact ⟨qe_,u0_ HB GE378⟩
/-! ### impl_upOf: function 71 -/
def impl_upOf.l0 : Nat → List Int → Int → Int → Int → List (S83) → Int → Int → Option (Int × Int)
 | 0,_,_,_,_,_,_,_ => none
 | k + 1,x1,x2,x8,x9,x14,x15,x16 => if x16 < x15 then (if 0 ≤ x16 then (if x16 < (x14.length : Int) then ((impl_Cable_other.f ((rd_T83 x14 x16).f0) ((rd_T83 x14 x16).f1) ((rd_T83 x14 x16).f2) x2).bind fun bt381 => (if bt381.2 = true then (if 0 ≤ bt381.1 then (if bt381.1 < (x1.length : Int) then (if 0 ≤ x2 then (if x2 < (x1.length : Int) then (if (wrap64 ((rd x1 bt381.1) + ((rd_T83 x14 x16).f2))) = (rd x1 x2) then (if x8 < 0 then (impl_upOf.l0 k x1 x2 x16 bt381.1 x14 x15 (wrap64 (x16 + 1))) else (if bt381.1 < x9 then (impl_upOf.l0 k x1 x2 x16 bt381.1 x14 x15 (wrap64 (x16 + 1))) else (impl_upOf.l0 k x1 x2 x8 x9 x14 x15 (wrap64 (x16 + 1))))) else (impl_upOf.l0 k x1 x2 x8 x9 x14 x15 (wrap64 (x16 + 1)))) else (none)) else (none)) else (none)) else (none)) else (impl_upOf.l0 k x1 x2 x8 x9 x14 x15 (wrap64 (x16 + 1))))) else (none)) else (none)) else (some (x8,x9))
def impl_upOf.f (k : Nat) (l0 : List (S83)) (l1 : List Int) (a2 : Int) : Option (Int × Int):=impl_upOf.l0 k l1 a2 (-1) (-1) l0 (l0.length : Int) 0
theorem impl_upOf.mono_l : ∀ k,(∀ y0 y1 y2 y3 y4 y5 y6,LeO (impl_upOf.l0 k y0 y1 y2 y3 y4 y5 y6) (impl_upOf.l0 (k + 1) y0 y1 y2 y3 y4 y5 y6))
 | 0 => fun _ _ _ _ _ _ _ r h => by simp [impl_upOf.l0] at h
 | k + 1 => by
  have ih0:=impl_upOf.mono_l k
  ·intro y0 y1 y2 y3 y4 y5 y6
   unfold impl_upOf.l0
   repeat' first
   | (with_reducible exact ih0 _ _ _ _ _ _ _)
   | (with_reducible exact LeO.refl _)
   | (with_reducible exact LeO.none _)
   | (with_reducible refine LeO.ite ?_ ?_)
   | (with_reducible refine LeO.bind ?_ (fun _ => ?_))
   | exact ih0 _ _ _ _ _ _ _
   | exact LeO.none _
   | refine LeO.ite ?_ ?_
   | refine LeO.bind ?_ (fun _ => ?_)
theorem impl_upOf.mono : ∀ a0 a1 a2 k,LeO (impl_upOf.f k a0 a1 a2) (impl_upOf.f (k + 1) a0 a1 a2):=by
 intro a0 a1 a2 k
 have ih0:=impl_upOf.mono_l k
 unfold impl_upOf.f
 repeat' first
   | (with_reducible exact ih0 _ _ _ _ _ _ _)
   | (with_reducible exact LeO.refl _)
   | (with_reducible exact LeO.none _)
   | (with_reducible refine LeO.ite ?_ ?_)
   | (with_reducible refine LeO.bind ?_ (fun _ => ?_))
   | exact ih0 _ _ _ _ _ _ _
   | exact LeO.none _
   | refine LeO.ite ?_ ?_
   | refine LeO.bind ?_ (fun _ => ?_)
set_option maxHeartbeats 8000000 in
set_option maxRecDepth 100000 in
theorem impl_upOf.calls (k : Nat) (A0 : Option Addr) (c0 : Nat) (l0 : List (S83)) (A1 : Option Addr) (c1 : Nat) (l1 : List Int) (a2 : Int) (r1 : Int) (r2 : Int) (w : World) (hr0 : Kd.C k83 w A0 l0.length l0) (hc0 : l0.length ≤ c0) (hr1 : Kd.C (Kd.int .i64) w A1 l1.length l1) (hc1 : l1.length ≤ c1) (h : impl_upOf.f k l0 l1 a2 = some (r1,r2)) :
  Calls Try.prog 71 #[.slice A0 l0.length c0,.slice A1 l1.length c1,.int .i64 a2] w fun e w' => e = .returned (.tuple #[.int .i64 r1,.int .i64 r2]) ∧ Below w.heap.size w w':=by
 have hu83:=Try.underlying83
 have HR0:=mk_ hr0
 have HC0:=mk_ hc0
 clear hr0 hc0
 have HR1:=mk_ hr1
 have HC1:=mk_ hc1
 clear hr1 hc1
 have HB:=mk_ (Below.refl w.heap.size w)
 have H : (impl_upOf.l0 k l1 a2 (-1) (-1) l0 (l0.length : Int) 0) = some (r1,r2):=h
 clear h
 have H':=mk_ H
 clear H
 go_enter Try.func71,Try.ntmps71
 go_wp2
 repeat (go_quiet (fail);try go_wp2)
 go_loopg [8,9,16] k (fun kq v8 v9 v16 w' => ∃ (x8_1 : Int) (x9_1 : Int) (x16_1 : Int),v8 = .int .i64 x8_1 ∧ v9 = .int .i64 x9_1 ∧ v16 = .int .i64 x16_1 ∧ Aside0 (impl_upOf.l0 kq l1 a2 x8_1 x9_1 l0 (l0.length : Int) x16_1 = some (r1,r2)) ∧ Aside0 (kq ≤ k) ∧ Aside0 (Below w.heap.size w w'))
 case atStart => exact ⟨((-1)),((-1)),(0),qf_,qf_,qf_,H',⟨Nat.le_refl _⟩,⟨u1_ HB⟩⟩
 case round =>
  clear H'
  try clear c1
  try clear p2
  obtain ⟨x8_1,x9_1,x16_1,rfl,rfl,rfl,HA,HK1,HB⟩:=hrel
  cases gk with
  | zero => exact absurd HA.out (by simp [impl_upOf.l0])
  | succ k1 =>
   have H:=HA.out
   clear HA
   simp only [impl_upOf.l0] at H
   by_cases c4 : x16_1 < (l0.length : Int)
   ·rw [if_pos c4] at H
    have c4b0 : decide (x16_1 < (l0.length : Int)) = true:=decide_eq_true c4
    clear c4
    by_cases c5 : 0 ≤ x16_1
    ·rw [if_pos c5] at H
     have c5b0 : decide (0 ≤ x16_1) = true:=decide_eq_true c5
     clear c5
     by_cases c6 : x16_1 < (l0.length : Int)
     ·rw [if_pos c6] at H
      have c6b0 : decide (x16_1 < (l0.length : Int)) = true:=decide_eq_true c6
      clear c6
      replace H:=Option.bind_eq_some_iff.mp H
      obtain ⟨⟨t381,t382⟩,A70,H⟩:=H
      replace H : (if t382 = true then (if 0 ≤ t381 then (if t381 < (l1.length : Int) then (if 0 ≤ a2 then (if a2 < (l1.length : Int) then (if (wrap64 ((rd l1 t381) + ((rd_T83 l0 x16_1).f2))) = (rd l1 a2) then (if x8_1 < 0 then (impl_upOf.l0 k1 l1 a2 x16_1 t381 l0 (l0.length : Int) (wrap64 (x16_1 + 1))) else (if t381 < x9_1 then (impl_upOf.l0 k1 l1 a2 x16_1 t381 l0 (l0.length : Int) (wrap64 (x16_1 + 1))) else (impl_upOf.l0 k1 l1 a2 x8_1 x9_1 l0 (l0.length : Int) (wrap64 (x16_1 + 1))))) else (impl_upOf.l0 k1 l1 a2 x8_1 x9_1 l0 (l0.length : Int) (wrap64 (x16_1 + 1)))) else (none)) else (none)) else (none)) else (none)) else (impl_upOf.l0 k1 l1 a2 x8_1 x9_1 l0 (l0.length : Int) (wrap64 (x16_1 + 1)))) = some (r1,r2):=H
      have A7:=mk_ A70
      clear A70
      by_cases c8 : t382 = true
      ·subst c8
       have H1 : (if 0 ≤ t381 then (if t381 < (l1.length : Int) then (if 0 ≤ a2 then (if a2 < (l1.length : Int) then (if (wrap64 ((rd l1 t381) + ((rd_T83 l0 x16_1).f2))) = (rd l1 a2) then (if x8_1 < 0 then (impl_upOf.l0 k1 l1 a2 x16_1 t381 l0 (l0.length : Int) (wrap64 (x16_1 + 1))) else (if t381 < x9_1 then (impl_upOf.l0 k1 l1 a2 x16_1 t381 l0 (l0.length : Int) (wrap64 (x16_1 + 1))) else (impl_upOf.l0 k1 l1 a2 x8_1 x9_1 l0 (l0.length : Int) (wrap64 (x16_1 + 1))))) else (impl_upOf.l0 k1 l1 a2 x8_1 x9_1 l0 (l0.length : Int) (wrap64 (x16_1 + 1)))) else (none)) else (none)) else (none)) else (none)) = some (r1,r2):=by rw [if_pos rfl] at H;exact H
       clear H
       have H:=H1
       clear H1
       by_cases c9 : 0 ≤ t381
       ·rw [if_pos c9] at H
        have c9b0 : decide (0 ≤ t381) = true:=decide_eq_true c9
        clear c9
        by_cases c10 : t381 < (l1.length : Int)
        ·rw [if_pos c10] at H
         have c10b0 : decide (t381 < (l1.length : Int)) = true:=decide_eq_true c10
         clear c10
         by_cases c11 : 0 ≤ a2
         ·rw [if_pos c11] at H
          have c11b0 : decide (0 ≤ a2) = true:=decide_eq_true c11
          clear c11
          by_cases c12 : a2 < (l1.length : Int)
          ·rw [if_pos c12] at H
           have c12b0 : decide (a2 < (l1.length : Int)) = true:=decide_eq_true c12
           clear c12
           by_cases c13 : (wrap64 ((rd l1 t381) + ((rd_T83 l0 x16_1).f2))) = (rd l1 a2)
           ·rw [if_pos c13] at H
            have c13b0 : ((wrap64 ((rd l1 t381) + ((rd_T83 l0 x16_1).f2))) == (rd l1 a2)) = true:=beq_iff_eq.mpr c13
            have c13b1 : ((wrap64 ((rd l1 t381) + ((rd_T83 l0 x16_1).f2))) != (rd l1 a2)) = false:=bne_eq_false_iff_eq.mpr c13
            clear c13
            by_cases c14 : x8_1 < 0
            ·rw [if_pos c14] at H
             have c14b0 : decide (x8_1 < 0) = true:=decide_eq_true c14
             clear c14
             have H':=mk_ H
             clear H
             have p379 : 0 ≤ (x16_1 : Int):=od_ qa_
             have q379 : x16_1 < (l0.length : Int):=od_ qa_
             obtain ⟨ad379,e379,hx379_0,hx379_1,hx379_2⟩:=at_T83 HR0.out x16_1 p379 q379
             cases e379
             replace hx379_0:=(HB.out.cell (wl_ w _ hx379_0)).trans hx379_0
             replace hx379_1:=(HB.out.cell (wl_ w _ hx379_1)).trans hx379_1
             replace hx379_2:=(HB.out.cell (wl_ w _ hx379_2)).trans hx379_2
             replace p379:=eq_true p379
             replace q379:=eq_true q379
             go_wp2_with (first|((with_reducible refine gate_dst (N:=11) rfl ?_);refine box_event ?hg (N:=11) ?hd (cs:=#[.int .i64 0,.int .i64 0,.int .i64 0]) (t:=83) ?hr ?_;(case hd => rfl);(case hg => rfl);(case hr => first|(go_simp;done)|(go_simp;rfl));intro gb380 hg w15 hbox hb;have n0_:=mk_ (st_ (qb_ HB) hb);have n1_:=mk_ (hbox);have n2_:=mk_ ((by rw [hg];exact (bz_ (qb_ HB)) : w.heap.size ≤ gb380));have n3_:=mk_ ((by rw [hg];exact (bz_ (qb_ HB)) : w.heap.size ≤ gb380));clear HB;have HB:=n0_;have BK380:=n1_;have GW380:=n2_;have GE380:=n3_;clear n0_ n1_ n2_ n3_ hb hbox hg;have hcz16_0 : w15.cell? ⟨gb380,0,none⟩ = some (.int .i64 0):=(bc_ BK380.out 0).trans rfl;have hcz16_1 : w15.cell? ⟨gb380,1,none⟩ = some (.int .i64 0):=(bc_ BK380.out 1).trans rfl;have hcz16_2 : w15.cell? ⟨gb380,2,none⟩ = some (.int .i64 0):=(bc_ BK380.out 2).trans rfl;have hfz16_0:=bf_ BK380.out 0;have hfz16_1:=bf_ BK380.out 1;have hfz16_2:=bf_ BK380.out 2)|(go_at_call 74;(with_reducible refine (impl_Cable_other.calls ((rd_T83 l0 x16_1).f0) ((rd_T83 l0 x16_1).f1) ((rd_T83 l0 x16_1).f2) a2 t381 true _ A7.out).mono ?_);rintro e w17 ⟨rfl,hb⟩;have n0_:=mk_ (blk_below (g:=gb380) (o:=.cells #[.int .i64 ((rd_T83 l0 x16_1).f0),.int .i64 ((rd_T83 l0 x16_1).f1),.int .i64 ((rd_T83 l0 x16_1).f2)] 83 (0,0)) (by (with_reducible repeat (first|apply kn_|apply kd_|apply ka_));refine blk_put (cs:=#[.int .i64 ((rd_T83 l0 x16_1).f0),.int .i64 ((rd_T83 l0 x16_1).f1),.int .i64 0]) ?_ 2 _ rfl;(with_reducible repeat (first|apply kn_|apply kd_|apply ka_));refine blk_put (cs:=#[.int .i64 ((rd_T83 l0 x16_1).f0),.int .i64 0,.int .i64 0]) ?_ 1 _ rfl;(with_reducible repeat (first|apply kn_|apply kd_|apply ka_));refine blk_put (cs:=#[.int .i64 0,.int .i64 0,.int .i64 0]) ?_ 0 _ rfl;(with_reducible repeat (first|apply kn_|apply kd_|apply ka_));exact BK380.out) hb);have n1_:=mk_ (st_ (qc_ HB GE380) hb);clear BK380 HB;have BK380:=n0_;have HB:=n1_;clear n0_ n1_;(try clear hb);(try clear hb2);(try clear hk);(try clear hi);have p383 : 0 ≤ (t381 : Int):=od_ qa_;have q383 : t381 < (l1.length : Int):=od_ qa_;obtain ⟨ad383,e383,hx383_0⟩:=Kd.at_int HR1.out t381 p383 q383;cases e383;replace hx383_0:=(HB.out.cell (wl_ w _ hx383_0)).trans hx383_0;replace p383:=eq_true p383;replace q383:=eq_true q383;have hcz18_0 : w17.cell? ⟨gb380,0,none⟩ = some (.int .i64 ((rd_T83 l0 x16_1).f0)):=(bc_ BK380.out 0).trans rfl;have hcz18_1 : w17.cell? ⟨gb380,1,none⟩ = some (.int .i64 ((rd_T83 l0 x16_1).f1)):=(bc_ BK380.out 1).trans rfl;have hcz18_2 : w17.cell? ⟨gb380,2,none⟩ = some (.int .i64 ((rd_T83 l0 x16_1).f2)):=(bc_ BK380.out 2).trans rfl;have hfz18_0:=bf_ BK380.out 0;have hfz18_1:=bf_ BK380.out 1;have hfz18_2:=bf_ BK380.out 2;have p384 : 0 ≤ (a2 : Int):=od_ qa_;have q384 : a2 < (l1.length : Int):=od_ qa_;obtain ⟨ad384,e384,hx384_0⟩:=Kd.at_int HR1.out a2 p384 q384;obtain rfl : ad383 = ad384:=(by injection e384);replace hx384_0:=(HB.out.cell (wl_ w _ hx384_0)).trans hx384_0;replace p384:=eq_true p384;replace q384:=eq_true q384))
             repeat (go_quiet (first|((with_reducible refine gate_dst (N:=11) rfl ?_);refine box_event ?hg (N:=11) ?hd (cs:=#[.int .i64 0,.int .i64 0,.int .i64 0]) (t:=83) ?hr ?_;(case hd => rfl);(case hg => rfl);(case hr => first|(go_simp;done)|(go_simp;rfl));intro gb380 hg w15 hbox hb;have n0_:=mk_ (st_ (qb_ HB) hb);have n1_:=mk_ (hbox);have n2_:=mk_ ((by rw [hg];exact (bz_ (qb_ HB)) : w.heap.size ≤ gb380));have n3_:=mk_ ((by rw [hg];exact (bz_ (qb_ HB)) : w.heap.size ≤ gb380));clear HB;have HB:=n0_;have BK380:=n1_;have GW380:=n2_;have GE380:=n3_;clear n0_ n1_ n2_ n3_ hb hbox hg;have hcz16_0 : w15.cell? ⟨gb380,0,none⟩ = some (.int .i64 0):=(bc_ BK380.out 0).trans rfl;have hcz16_1 : w15.cell? ⟨gb380,1,none⟩ = some (.int .i64 0):=(bc_ BK380.out 1).trans rfl;have hcz16_2 : w15.cell? ⟨gb380,2,none⟩ = some (.int .i64 0):=(bc_ BK380.out 2).trans rfl;have hfz16_0:=bf_ BK380.out 0;have hfz16_1:=bf_ BK380.out 1;have hfz16_2:=bf_ BK380.out 2)|(go_at_call 74;(with_reducible refine (impl_Cable_other.calls ((rd_T83 l0 x16_1).f0) ((rd_T83 l0 x16_1).f1) ((rd_T83 l0 x16_1).f2) a2 t381 true _ A7.out).mono ?_);rintro e w17 ⟨rfl,hb⟩;have n0_:=mk_ (blk_below (g:=gb380) (o:=.cells #[.int .i64 ((rd_T83 l0 x16_1).f0),.int .i64 ((rd_T83 l0 x16_1).f1),.int .i64 ((rd_T83 l0 x16_1).f2)] 83 (0,0)) (by (with_reducible repeat (first|apply kn_|apply kd_|apply ka_));refine blk_put (cs:=#[.int .i64 ((rd_T83 l0 x16_1).f0),.int .i64 ((rd_T83 l0 x16_1).f1),.int .i64 0]) ?_ 2 _ rfl;(with_reducible repeat (first|apply kn_|apply kd_|apply ka_));refine blk_put (cs:=#[.int .i64 ((rd_T83 l0 x16_1).f0),.int .i64 0,.int .i64 0]) ?_ 1 _ rfl;(with_reducible repeat (first|apply kn_|apply kd_|apply ka_));refine blk_put (cs:=#[.int .i64 0,.int .i64 0,.int .i64 0]) ?_ 0 _ rfl;(with_reducible repeat (first|apply kn_|apply kd_|apply ka_));exact BK380.out) hb);have n1_:=mk_ (st_ (qc_ HB GE380) hb);clear BK380 HB;have BK380:=n0_;have HB:=n1_;clear n0_ n1_;(try clear hb);(try clear hb2);(try clear hk);(try clear hi);have p383 : 0 ≤ (t381 : Int):=od_ qa_;have q383 : t381 < (l1.length : Int):=od_ qa_;obtain ⟨ad383,e383,hx383_0⟩:=Kd.at_int HR1.out t381 p383 q383;cases e383;replace hx383_0:=(HB.out.cell (wl_ w _ hx383_0)).trans hx383_0;replace p383:=eq_true p383;replace q383:=eq_true q383;have hcz18_0 : w17.cell? ⟨gb380,0,none⟩ = some (.int .i64 ((rd_T83 l0 x16_1).f0)):=(bc_ BK380.out 0).trans rfl;have hcz18_1 : w17.cell? ⟨gb380,1,none⟩ = some (.int .i64 ((rd_T83 l0 x16_1).f1)):=(bc_ BK380.out 1).trans rfl;have hcz18_2 : w17.cell? ⟨gb380,2,none⟩ = some (.int .i64 ((rd_T83 l0 x16_1).f2)):=(bc_ BK380.out 2).trans rfl;have hfz18_0:=bf_ BK380.out 0;have hfz18_1:=bf_ BK380.out 1;have hfz18_2:=bf_ BK380.out 2;have p384 : 0 ≤ (a2 : Int):=od_ qa_;have q384 : a2 < (l1.length : Int):=od_ qa_;obtain ⟨ad384,e384,hx384_0⟩:=Kd.at_int HR1.out a2 p384 q384;obtain rfl : ad383 = ad384:=(by injection e384);replace hx384_0:=(HB.out.cell (wl_ w _ hx384_0)).trans hx384_0;replace p384:=eq_true p384;replace q384:=eq_true q384));try go_wp2_with (first|((with_reducible refine gate_dst (N:=11) rfl ?_);refine box_event ?hg (N:=11) ?hd (cs:=#[.int .i64 0,.int .i64 0,.int .i64 0]) (t:=83) ?hr ?_;(case hd => rfl);(case hg => rfl);(case hr => first|(go_simp;done)|(go_simp;rfl));intro gb380 hg w15 hbox hb;have n0_:=mk_ (st_ (qb_ HB) hb);have n1_:=mk_ (hbox);have n2_:=mk_ ((by rw [hg];exact (bz_ (qb_ HB)) : w.heap.size ≤ gb380));have n3_:=mk_ ((by rw [hg];exact (bz_ (qb_ HB)) : w.heap.size ≤ gb380));clear HB;have HB:=n0_;have BK380:=n1_;have GW380:=n2_;have GE380:=n3_;clear n0_ n1_ n2_ n3_ hb hbox hg;have hcz16_0 : w15.cell? ⟨gb380,0,none⟩ = some (.int .i64 0):=(bc_ BK380.out 0).trans rfl;have hcz16_1 : w15.cell? ⟨gb380,1,none⟩ = some (.int .i64 0):=(bc_ BK380.out 1).trans rfl;have hcz16_2 : w15.cell? ⟨gb380,2,none⟩ = some (.int .i64 0):=(bc_ BK380.out 2).trans rfl;have hfz16_0:=bf_ BK380.out 0;have hfz16_1:=bf_ BK380.out 1;have hfz16_2:=bf_ BK380.out 2)|(go_at_call 74;(with_reducible refine (impl_Cable_other.calls ((rd_T83 l0 x16_1).f0) ((rd_T83 l0 x16_1).f1) ((rd_T83 l0 x16_1).f2) a2 t381 true _ A7.out).mono ?_);rintro e w17 ⟨rfl,hb⟩;have n0_:=mk_ (blk_below (g:=gb380) (o:=.cells #[.int .i64 ((rd_T83 l0 x16_1).f0),.int .i64 ((rd_T83 l0 x16_1).f1),.int .i64 ((rd_T83 l0 x16_1).f2)] 83 (0,0)) (by (with_reducible repeat (first|apply kn_|apply kd_|apply ka_));refine blk_put (cs:=#[.int .i64 ((rd_T83 l0 x16_1).f0),.int .i64 ((rd_T83 l0 x16_1).f1),.int .i64 0]) ?_ 2 _ rfl;(with_reducible repeat (first|apply kn_|apply kd_|apply ka_));refine blk_put (cs:=#[.int .i64 ((rd_T83 l0 x16_1).f0),.int .i64 0,.int .i64 0]) ?_ 1 _ rfl;(with_reducible repeat (first|apply kn_|apply kd_|apply ka_));refine blk_put (cs:=#[.int .i64 0,.int .i64 0,.int .i64 0]) ?_ 0 _ rfl;(with_reducible repeat (first|apply kn_|apply kd_|apply ka_));exact BK380.out) hb);have n1_:=mk_ (st_ (qc_ HB GE380) hb);clear BK380 HB;have BK380:=n0_;have HB:=n1_;clear n0_ n1_;(try clear hb);(try clear hb2);(try clear hk);(try clear hi);have p383 : 0 ≤ (t381 : Int):=od_ qa_;have q383 : t381 < (l1.length : Int):=od_ qa_;obtain ⟨ad383,e383,hx383_0⟩:=Kd.at_int HR1.out t381 p383 q383;cases e383;replace hx383_0:=(HB.out.cell (wl_ w _ hx383_0)).trans hx383_0;replace p383:=eq_true p383;replace q383:=eq_true q383;have hcz18_0 : w17.cell? ⟨gb380,0,none⟩ = some (.int .i64 ((rd_T83 l0 x16_1).f0)):=(bc_ BK380.out 0).trans rfl;have hcz18_1 : w17.cell? ⟨gb380,1,none⟩ = some (.int .i64 ((rd_T83 l0 x16_1).f1)):=(bc_ BK380.out 1).trans rfl;have hcz18_2 : w17.cell? ⟨gb380,2,none⟩ = some (.int .i64 ((rd_T83 l0 x16_1).f2)):=(bc_ BK380.out 2).trans rfl;have hfz18_0:=bf_ BK380.out 0;have hfz18_1:=bf_ BK380.out 1;have hfz18_2:=bf_ BK380.out 2;have p384 : 0 ≤ (a2 : Int):=od_ qa_;have q384 : a2 < (l1.length : Int):=od_ qa_;obtain ⟨ad384,e384,hx384_0⟩:=Kd.at_int HR1.out a2 p384 q384;obtain rfl : ad383 = ad384:=(by injection e384);replace hx384_0:=(HB.out.cell (wl_ w _ hx384_0)).trans hx384_0;replace p384:=eq_true p384;replace q384:=eq_true q384)))
             go_roundg k1
             case measure => have:=HK1.out;omega
             case rel => exact ⟨(x16_1),(t381),(wrap64 (x16_1 + 1)),qf_,qf_,qf_,H',⟨by have:=HK1.out;omega⟩,⟨u0_ HB GE380⟩⟩
            ·rw [if_neg c14] at H
             have c14b0 : decide (x8_1 < 0) = false:=decide_eq_false c14
             clear c14
             by_cases c19 : t381 < x9_1
             ·rw [if_pos c19] at H
              have c19b0 : decide (t381 < x9_1) = true:=decide_eq_true c19
              clear c19
              have H':=mk_ H
              clear H
              have p379 : 0 ≤ (x16_1 : Int):=od_ qa_
              have q379 : x16_1 < (l0.length : Int):=od_ qa_
              obtain ⟨ad379,e379,hx379_0,hx379_1,hx379_2⟩:=at_T83 HR0.out x16_1 p379 q379
              cases e379
              replace hx379_0:=(HB.out.cell (wl_ w _ hx379_0)).trans hx379_0
              replace hx379_1:=(HB.out.cell (wl_ w _ hx379_1)).trans hx379_1
              replace hx379_2:=(HB.out.cell (wl_ w _ hx379_2)).trans hx379_2
              replace p379:=eq_true p379
              replace q379:=eq_true q379
              go_wp2_with (first|((with_reducible refine gate_dst (N:=11) rfl ?_);refine box_event ?hg (N:=11) ?hd (cs:=#[.int .i64 0,.int .i64 0,.int .i64 0]) (t:=83) ?hr ?_;(case hd => rfl);(case hg => rfl);(case hr => first|(go_simp;done)|(go_simp;rfl));intro gb380 hg w20 hbox hb;have n0_:=mk_ (st_ (qb_ HB) hb);have n1_:=mk_ (hbox);have n2_:=mk_ ((by rw [hg];exact (bz_ (qb_ HB)) : w.heap.size ≤ gb380));have n3_:=mk_ ((by rw [hg];exact (bz_ (qb_ HB)) : w.heap.size ≤ gb380));clear HB;have HB:=n0_;have BK380:=n1_;have GW380:=n2_;have GE380:=n3_;clear n0_ n1_ n2_ n3_ hb hbox hg;have hcz21_0 : w20.cell? ⟨gb380,0,none⟩ = some (.int .i64 0):=(bc_ BK380.out 0).trans rfl;have hcz21_1 : w20.cell? ⟨gb380,1,none⟩ = some (.int .i64 0):=(bc_ BK380.out 1).trans rfl;have hcz21_2 : w20.cell? ⟨gb380,2,none⟩ = some (.int .i64 0):=(bc_ BK380.out 2).trans rfl;have hfz21_0:=bf_ BK380.out 0;have hfz21_1:=bf_ BK380.out 1;have hfz21_2:=bf_ BK380.out 2)|(go_at_call 74;(with_reducible refine (impl_Cable_other.calls ((rd_T83 l0 x16_1).f0) ((rd_T83 l0 x16_1).f1) ((rd_T83 l0 x16_1).f2) a2 t381 true _ A7.out).mono ?_);rintro e w22 ⟨rfl,hb⟩;have n0_:=mk_ (blk_below (g:=gb380) (o:=.cells #[.int .i64 ((rd_T83 l0 x16_1).f0),.int .i64 ((rd_T83 l0 x16_1).f1),.int .i64 ((rd_T83 l0 x16_1).f2)] 83 (0,0)) (by (with_reducible repeat (first|apply kn_|apply kd_|apply ka_));refine blk_put (cs:=#[.int .i64 ((rd_T83 l0 x16_1).f0),.int .i64 ((rd_T83 l0 x16_1).f1),.int .i64 0]) ?_ 2 _ rfl;(with_reducible repeat (first|apply kn_|apply kd_|apply ka_));refine blk_put (cs:=#[.int .i64 ((rd_T83 l0 x16_1).f0),.int .i64 0,.int .i64 0]) ?_ 1 _ rfl;(with_reducible repeat (first|apply kn_|apply kd_|apply ka_));refine blk_put (cs:=#[.int .i64 0,.int .i64 0,.int .i64 0]) ?_ 0 _ rfl;(with_reducible repeat (first|apply kn_|apply kd_|apply ka_));exact BK380.out) hb);have n1_:=mk_ (st_ (qc_ HB GE380) hb);clear BK380 HB;have BK380:=n0_;have HB:=n1_;clear n0_ n1_;(try clear hb);(try clear hb2);(try clear hk);(try clear hi);have p383 : 0 ≤ (t381 : Int):=od_ qa_;have q383 : t381 < (l1.length : Int):=od_ qa_;obtain ⟨ad383,e383,hx383_0⟩:=Kd.at_int HR1.out t381 p383 q383;cases e383;replace hx383_0:=(HB.out.cell (wl_ w _ hx383_0)).trans hx383_0;replace p383:=eq_true p383;replace q383:=eq_true q383;have hcz23_0 : w22.cell? ⟨gb380,0,none⟩ = some (.int .i64 ((rd_T83 l0 x16_1).f0)):=(bc_ BK380.out 0).trans rfl;have hcz23_1 : w22.cell? ⟨gb380,1,none⟩ = some (.int .i64 ((rd_T83 l0 x16_1).f1)):=(bc_ BK380.out 1).trans rfl;have hcz23_2 : w22.cell? ⟨gb380,2,none⟩ = some (.int .i64 ((rd_T83 l0 x16_1).f2)):=(bc_ BK380.out 2).trans rfl;have hfz23_0:=bf_ BK380.out 0;have hfz23_1:=bf_ BK380.out 1;have hfz23_2:=bf_ BK380.out 2;have p384 : 0 ≤ (a2 : Int):=od_ qa_;have q384 : a2 < (l1.length : Int):=od_ qa_;obtain ⟨ad384,e384,hx384_0⟩:=Kd.at_int HR1.out a2 p384 q384;obtain rfl : ad383 = ad384:=(by injection e384);replace hx384_0:=(HB.out.cell (wl_ w _ hx384_0)).trans hx384_0;replace p384:=eq_true p384;replace q384:=eq_true q384))
              repeat (go_quiet (first|((with_reducible refine gate_dst (N:=11) rfl ?_);refine box_event ?hg (N:=11) ?hd (cs:=#[.int .i64 0,.int .i64 0,.int .i64 0]) (t:=83) ?hr ?_;(case hd => rfl);(case hg => rfl);(case hr => first|(go_simp;done)|(go_simp;rfl));intro gb380 hg w20 hbox hb;have n0_:=mk_ (st_ (qb_ HB) hb);have n1_:=mk_ (hbox);have n2_:=mk_ ((by rw [hg];exact (bz_ (qb_ HB)) : w.heap.size ≤ gb380));have n3_:=mk_ ((by rw [hg];exact (bz_ (qb_ HB)) : w.heap.size ≤ gb380));clear HB;have HB:=n0_;have BK380:=n1_;have GW380:=n2_;have GE380:=n3_;clear n0_ n1_ n2_ n3_ hb hbox hg;have hcz21_0 : w20.cell? ⟨gb380,0,none⟩ = some (.int .i64 0):=(bc_ BK380.out 0).trans rfl;have hcz21_1 : w20.cell? ⟨gb380,1,none⟩ = some (.int .i64 0):=(bc_ BK380.out 1).trans rfl;have hcz21_2 : w20.cell? ⟨gb380,2,none⟩ = some (.int .i64 0):=(bc_ BK380.out 2).trans rfl;have hfz21_0:=bf_ BK380.out 0;have hfz21_1:=bf_ BK380.out 1;have hfz21_2:=bf_ BK380.out 2)|(go_at_call 74;(with_reducible refine (impl_Cable_other.calls ((rd_T83 l0 x16_1).f0) ((rd_T83 l0 x16_1).f1) ((rd_T83 l0 x16_1).f2) a2 t381 true _ A7.out).mono ?_);rintro e w22 ⟨rfl,hb⟩;have n0_:=mk_ (blk_below (g:=gb380) (o:=.cells #[.int .i64 ((rd_T83 l0 x16_1).f0),.int .i64 ((rd_T83 l0 x16_1).f1),.int .i64 ((rd_T83 l0 x16_1).f2)] 83 (0,0)) (by (with_reducible repeat (first|apply kn_|apply kd_|apply ka_));refine blk_put (cs:=#[.int .i64 ((rd_T83 l0 x16_1).f0),.int .i64 ((rd_T83 l0 x16_1).f1),.int .i64 0]) ?_ 2 _ rfl;(with_reducible repeat (first|apply kn_|apply kd_|apply ka_));refine blk_put (cs:=#[.int .i64 ((rd_T83 l0 x16_1).f0),.int .i64 0,.int .i64 0]) ?_ 1 _ rfl;(with_reducible repeat (first|apply kn_|apply kd_|apply ka_));refine blk_put (cs:=#[.int .i64 0,.int .i64 0,.int .i64 0]) ?_ 0 _ rfl;(with_reducible repeat (first|apply kn_|apply kd_|apply ka_));exact BK380.out) hb);have n1_:=mk_ (st_ (qc_ HB GE380) hb);clear BK380 HB;have BK380:=n0_;have HB:=n1_;clear n0_ n1_;(try clear hb);(try clear hb2);(try clear hk);(try clear hi);have p383 : 0 ≤ (t381 : Int):=od_ qa_;have q383 : t381 < (l1.length : Int):=od_ qa_;obtain ⟨ad383,e383,hx383_0⟩:=Kd.at_int HR1.out t381 p383 q383;cases e383;replace hx383_0:=(HB.out.cell (wl_ w _ hx383_0)).trans hx383_0;replace p383:=eq_true p383;replace q383:=eq_true q383;have hcz23_0 : w22.cell? ⟨gb380,0,none⟩ = some (.int .i64 ((rd_T83 l0 x16_1).f0)):=(bc_ BK380.out 0).trans rfl;have hcz23_1 : w22.cell? ⟨gb380,1,none⟩ = some (.int .i64 ((rd_T83 l0 x16_1).f1)):=(bc_ BK380.out 1).trans rfl;have hcz23_2 : w22.cell? ⟨gb380,2,none⟩ = some (.int .i64 ((rd_T83 l0 x16_1).f2)):=(bc_ BK380.out 2).trans rfl;have hfz23_0:=bf_ BK380.out 0;have hfz23_1:=bf_ BK380.out 1;have hfz23_2:=bf_ BK380.out 2;have p384 : 0 ≤ (a2 : Int):=od_ qa_;have q384 : a2 < (l1.length : Int):=od_ qa_;obtain ⟨ad384,e384,hx384_0⟩:=Kd.at_int HR1.out a2 p384 q384;obtain rfl : ad383 = ad384:=(by injection e384);replace hx384_0:=(HB.out.cell (wl_ w _ hx384_0)).trans hx384_0;replace p384:=eq_true p384;replace q384:=eq_true q384));try go_wp2_with (first|((with_reducible refine gate_dst (N:=11) rfl ?_);refine box_event ?hg (N:=11) ?hd (cs:=#[.int .i64 0,.int .i64 0,.int .i64 0]) (t:=83) ?hr ?_;(case hd => rfl);(case hg => rfl);(case hr => first|(go_simp;done)|(go_simp;rfl));intro gb380 hg w20 hbox hb;have n0_:=mk_ (st_ (qb_ HB) hb);have n1_:=mk_ (hbox);have n2_:=mk_ ((by rw [hg];exact (bz_ (qb_ HB)) : w.heap.size ≤ gb380));have n3_:=mk_ ((by rw [hg];exact (bz_ (qb_ HB)) : w.heap.size ≤ gb380));clear HB;have HB:=n0_;have BK380:=n1_;have GW380:=n2_;have GE380:=n3_;clear n0_ n1_ n2_ n3_ hb hbox hg;have hcz21_0 : w20.cell? ⟨gb380,0,none⟩ = some (.int .i64 0):=(bc_ BK380.out 0).trans rfl;have hcz21_1 : w20.cell? ⟨gb380,1,none⟩ = some (.int .i64 0):=(bc_ BK380.out 1).trans rfl;have hcz21_2 : w20.cell? ⟨gb380,2,none⟩ = some (.int .i64 0):=(bc_ BK380.out 2).trans rfl;have hfz21_0:=bf_ BK380.out 0;have hfz21_1:=bf_ BK380.out 1;have hfz21_2:=bf_ BK380.out 2)|(go_at_call 74;(with_reducible refine (impl_Cable_other.calls ((rd_T83 l0 x16_1).f0) ((rd_T83 l0 x16_1).f1) ((rd_T83 l0 x16_1).f2) a2 t381 true _ A7.out).mono ?_);rintro e w22 ⟨rfl,hb⟩;have n0_:=mk_ (blk_below (g:=gb380) (o:=.cells #[.int .i64 ((rd_T83 l0 x16_1).f0),.int .i64 ((rd_T83 l0 x16_1).f1),.int .i64 ((rd_T83 l0 x16_1).f2)] 83 (0,0)) (by (with_reducible repeat (first|apply kn_|apply kd_|apply ka_));refine blk_put (cs:=#[.int .i64 ((rd_T83 l0 x16_1).f0),.int .i64 ((rd_T83 l0 x16_1).f1),.int .i64 0]) ?_ 2 _ rfl;(with_reducible repeat (first|apply kn_|apply kd_|apply ka_));refine blk_put (cs:=#[.int .i64 ((rd_T83 l0 x16_1).f0),.int .i64 0,.int .i64 0]) ?_ 1 _ rfl;(with_reducible repeat (first|apply kn_|apply kd_|apply ka_));refine blk_put (cs:=#[.int .i64 0,.int .i64 0,.int .i64 0]) ?_ 0 _ rfl;(with_reducible repeat (first|apply kn_|apply kd_|apply ka_));exact BK380.out) hb);have n1_:=mk_ (st_ (qc_ HB GE380) hb);clear BK380 HB;have BK380:=n0_;have HB:=n1_;clear n0_ n1_;(try clear hb);(try clear hb2);(try clear hk);(try clear hi);have p383 : 0 ≤ (t381 : Int):=od_ qa_;have q383 : t381 < (l1.length : Int):=od_ qa_;obtain ⟨ad383,e383,hx383_0⟩:=Kd.at_int HR1.out t381 p383 q383;cases e383;replace hx383_0:=(HB.out.cell (wl_ w _ hx383_0)).trans hx383_0;replace p383:=eq_true p383;replace q383:=eq_true q383;have hcz23_0 : w22.cell? ⟨gb380,0,none⟩ = some (.int .i64 ((rd_T83 l0 x16_1).f0)):=(bc_ BK380.out 0).trans rfl;have hcz23_1 : w22.cell? ⟨gb380,1,none⟩ = some (.int .i64 ((rd_T83 l0 x16_1).f1)):=(bc_ BK380.out 1).trans rfl;have hcz23_2 : w22.cell? ⟨gb380,2,none⟩ = some (.int .i64 ((rd_T83 l0 x16_1).f2)):=(bc_ BK380.out 2).trans rfl;have hfz23_0:=bf_ BK380.out 0;have hfz23_1:=bf_ BK380.out 1;have hfz23_2:=bf_ BK380.out 2;have p384 : 0 ≤ (a2 : Int):=od_ qa_;have q384 : a2 < (l1.length : Int):=od_ qa_;obtain ⟨ad384,e384,hx384_0⟩:=Kd.at_int HR1.out a2 p384 q384;obtain rfl : ad383 = ad384:=(by injection e384);replace hx384_0:=(HB.out.cell (wl_ w _ hx384_0)).trans hx384_0;replace p384:=eq_true p384;replace q384:=eq_true q384)))
              go_roundg k1
              case measure => have:=HK1.out;omega
              case rel => exact ⟨(x16_1),(t381),(wrap64 (x16_1 + 1)),qf_,qf_,qf_,H',⟨by have:=HK1.out;omega⟩,⟨u0_ HB GE380⟩⟩
             ·rw [if_neg c19] at H
              have c19b0 : decide (t381 < x9_1) = false:=decide_eq_false c19
              clear c19
              have H':=mk_ H
              clear H
              have p379 : 0 ≤ (x16_1 : Int):=od_ qa_
              have q379 : x16_1 < (l0.length : Int):=od_ qa_
              obtain ⟨ad379,e379,hx379_0,hx379_1,hx379_2⟩:=at_T83 HR0.out x16_1 p379 q379
              cases e379
              replace hx379_0:=(HB.out.cell (wl_ w _ hx379_0)).trans hx379_0
              replace hx379_1:=(HB.out.cell (wl_ w _ hx379_1)).trans hx379_1
              replace hx379_2:=(HB.out.cell (wl_ w _ hx379_2)).trans hx379_2
              replace p379:=eq_true p379
              replace q379:=eq_true q379
              go_wp2_with (first|((with_reducible refine gate_dst (N:=11) rfl ?_);refine box_event ?hg (N:=11) ?hd (cs:=#[.int .i64 0,.int .i64 0,.int .i64 0]) (t:=83) ?hr ?_;(case hd => rfl);(case hg => rfl);(case hr => first|(go_simp;done)|(go_simp;rfl));intro gb380 hg w24 hbox hb;have n0_:=mk_ (st_ (qb_ HB) hb);have n1_:=mk_ (hbox);have n2_:=mk_ ((by rw [hg];exact (bz_ (qb_ HB)) : w.heap.size ≤ gb380));have n3_:=mk_ ((by rw [hg];exact (bz_ (qb_ HB)) : w.heap.size ≤ gb380));clear HB;have HB:=n0_;have BK380:=n1_;have GW380:=n2_;have GE380:=n3_;clear n0_ n1_ n2_ n3_ hb hbox hg;have hcz25_0 : w24.cell? ⟨gb380,0,none⟩ = some (.int .i64 0):=(bc_ BK380.out 0).trans rfl;have hcz25_1 : w24.cell? ⟨gb380,1,none⟩ = some (.int .i64 0):=(bc_ BK380.out 1).trans rfl;have hcz25_2 : w24.cell? ⟨gb380,2,none⟩ = some (.int .i64 0):=(bc_ BK380.out 2).trans rfl;have hfz25_0:=bf_ BK380.out 0;have hfz25_1:=bf_ BK380.out 1;have hfz25_2:=bf_ BK380.out 2)|(go_at_call 74;(with_reducible refine (impl_Cable_other.calls ((rd_T83 l0 x16_1).f0) ((rd_T83 l0 x16_1).f1) ((rd_T83 l0 x16_1).f2) a2 t381 true _ A7.out).mono ?_);rintro e w26 ⟨rfl,hb⟩;have n0_:=mk_ (blk_below (g:=gb380) (o:=.cells #[.int .i64 ((rd_T83 l0 x16_1).f0),.int .i64 ((rd_T83 l0 x16_1).f1),.int .i64 ((rd_T83 l0 x16_1).f2)] 83 (0,0)) (by (with_reducible repeat (first|apply kn_|apply kd_|apply ka_));refine blk_put (cs:=#[.int .i64 ((rd_T83 l0 x16_1).f0),.int .i64 ((rd_T83 l0 x16_1).f1),.int .i64 0]) ?_ 2 _ rfl;(with_reducible repeat (first|apply kn_|apply kd_|apply ka_));refine blk_put (cs:=#[.int .i64 ((rd_T83 l0 x16_1).f0),.int .i64 0,.int .i64 0]) ?_ 1 _ rfl;(with_reducible repeat (first|apply kn_|apply kd_|apply ka_));refine blk_put (cs:=#[.int .i64 0,.int .i64 0,.int .i64 0]) ?_ 0 _ rfl;(with_reducible repeat (first|apply kn_|apply kd_|apply ka_));exact BK380.out) hb);have n1_:=mk_ (st_ (qc_ HB GE380) hb);clear BK380 HB;have BK380:=n0_;have HB:=n1_;clear n0_ n1_;(try clear hb);(try clear hb2);(try clear hk);(try clear hi);have p383 : 0 ≤ (t381 : Int):=od_ qa_;have q383 : t381 < (l1.length : Int):=od_ qa_;obtain ⟨ad383,e383,hx383_0⟩:=Kd.at_int HR1.out t381 p383 q383;cases e383;replace hx383_0:=(HB.out.cell (wl_ w _ hx383_0)).trans hx383_0;replace p383:=eq_true p383;replace q383:=eq_true q383;have hcz27_0 : w26.cell? ⟨gb380,0,none⟩ = some (.int .i64 ((rd_T83 l0 x16_1).f0)):=(bc_ BK380.out 0).trans rfl;have hcz27_1 : w26.cell? ⟨gb380,1,none⟩ = some (.int .i64 ((rd_T83 l0 x16_1).f1)):=(bc_ BK380.out 1).trans rfl;have hcz27_2 : w26.cell? ⟨gb380,2,none⟩ = some (.int .i64 ((rd_T83 l0 x16_1).f2)):=(bc_ BK380.out 2).trans rfl;have hfz27_0:=bf_ BK380.out 0;have hfz27_1:=bf_ BK380.out 1;have hfz27_2:=bf_ BK380.out 2;have p384 : 0 ≤ (a2 : Int):=od_ qa_;have q384 : a2 < (l1.length : Int):=od_ qa_;obtain ⟨ad384,e384,hx384_0⟩:=Kd.at_int HR1.out a2 p384 q384;obtain rfl : ad383 = ad384:=(by injection e384);replace hx384_0:=(HB.out.cell (wl_ w _ hx384_0)).trans hx384_0;replace p384:=eq_true p384;replace q384:=eq_true q384))
              repeat (go_quiet (first|((with_reducible refine gate_dst (N:=11) rfl ?_);refine box_event ?hg (N:=11) ?hd (cs:=#[.int .i64 0,.int .i64 0,.int .i64 0]) (t:=83) ?hr ?_;(case hd => rfl);(case hg => rfl);(case hr => first|(go_simp;done)|(go_simp;rfl));intro gb380 hg w24 hbox hb;have n0_:=mk_ (st_ (qb_ HB) hb);have n1_:=mk_ (hbox);have n2_:=mk_ ((by rw [hg];exact (bz_ (qb_ HB)) : w.heap.size ≤ gb380));have n3_:=mk_ ((by rw [hg];exact (bz_ (qb_ HB)) : w.heap.size ≤ gb380));clear HB;have HB:=n0_;have BK380:=n1_;have GW380:=n2_;have GE380:=n3_;clear n0_ n1_ n2_ n3_ hb hbox hg;have hcz25_0 : w24.cell? ⟨gb380,0,none⟩ = some (.int .i64 0):=(bc_ BK380.out 0).trans rfl;have hcz25_1 : w24.cell? ⟨gb380,1,none⟩ = some (.int .i64 0):=(bc_ BK380.out 1).trans rfl;have hcz25_2 : w24.cell? ⟨gb380,2,none⟩ = some (.int .i64 0):=(bc_ BK380.out 2).trans rfl;have hfz25_0:=bf_ BK380.out 0;have hfz25_1:=bf_ BK380.out 1;have hfz25_2:=bf_ BK380.out 2)|(go_at_call 74;(with_reducible refine (impl_Cable_other.calls ((rd_T83 l0 x16_1).f0) ((rd_T83 l0 x16_1).f1) ((rd_T83 l0 x16_1).f2) a2 t381 true _ A7.out).mono ?_);rintro e w26 ⟨rfl,hb⟩;have n0_:=mk_ (blk_below (g:=gb380) (o:=.cells #[.int .i64 ((rd_T83 l0 x16_1).f0),.int .i64 ((rd_T83 l0 x16_1).f1),.int .i64 ((rd_T83 l0 x16_1).f2)] 83 (0,0)) (by (with_reducible repeat (first|apply kn_|apply kd_|apply ka_));refine blk_put (cs:=#[.int .i64 ((rd_T83 l0 x16_1).f0),.int .i64 ((rd_T83 l0 x16_1).f1),.int .i64 0]) ?_ 2 _ rfl;(with_reducible repeat (first|apply kn_|apply kd_|apply ka_));refine blk_put (cs:=#[.int .i64 ((rd_T83 l0 x16_1).f0),.int .i64 0,.int .i64 0]) ?_ 1 _ rfl;(with_reducible repeat (first|apply kn_|apply kd_|apply ka_));refine blk_put (cs:=#[.int .i64 0,.int .i64 0,.int .i64 0]) ?_ 0 _ rfl;(with_reducible repeat (first|apply kn_|apply kd_|apply ka_));exact BK380.out) hb);have n1_:=mk_ (st_ (qc_ HB GE380) hb);clear BK380 HB;have BK380:=n0_;have HB:=n1_;clear n0_ n1_;(try clear hb);(try clear hb2);(try clear hk);(try clear hi);have p383 : 0 ≤ (t381 : Int):=od_ qa_;have q383 : t381 < (l1.length : Int):=od_ qa_;obtain ⟨ad383,e383,hx383_0⟩:=Kd.at_int HR1.out t381 p383 q383;cases e383;replace hx383_0:=(HB.out.cell (wl_ w _ hx383_0)).trans hx383_0;replace p383:=eq_true p383;replace q383:=eq_true q383;have hcz27_0 : w26.cell? ⟨gb380,0,none⟩ = some (.int .i64 ((rd_T83 l0 x16_1).f0)):=(bc_ BK380.out 0).trans rfl;have hcz27_1 : w26.cell? ⟨gb380,1,none⟩ = some (.int .i64 ((rd_T83 l0 x16_1).f1)):=(bc_ BK380.out 1).trans rfl;have hcz27_2 : w26.cell? ⟨gb380,2,none⟩ = some (.int .i64 ((rd_T83 l0 x16_1).f2)):=(bc_ BK380.out 2).trans rfl;have hfz27_0:=bf_ BK380.out 0;have hfz27_1:=bf_ BK380.out 1;have hfz27_2:=bf_ BK380.out 2;have p384 : 0 ≤ (a2 : Int):=od_ qa_;have q384 : a2 < (l1.length : Int):=od_ qa_;obtain ⟨ad384,e384,hx384_0⟩:=Kd.at_int HR1.out a2 p384 q384;obtain rfl : ad383 = ad384:=(by injection e384);replace hx384_0:=(HB.out.cell (wl_ w _ hx384_0)).trans hx384_0;replace p384:=eq_true p384;replace q384:=eq_true q384));try go_wp2_with (first|((with_reducible refine gate_dst (N:=11) rfl ?_);refine box_event ?hg (N:=11) ?hd (cs:=#[.int .i64 0,.int .i64 0,.int .i64 0]) (t:=83) ?hr ?_;(case hd => rfl);(case hg => rfl);(case hr => first|(go_simp;done)|(go_simp;rfl));intro gb380 hg w24 hbox hb;have n0_:=mk_ (st_ (qb_ HB) hb);have n1_:=mk_ (hbox);have n2_:=mk_ ((by rw [hg];exact (bz_ (qb_ HB)) : w.heap.size ≤ gb380));have n3_:=mk_ ((by rw [hg];exact (bz_ (qb_ HB)) : w.heap.size ≤ gb380));clear HB;have HB:=n0_;have BK380:=n1_;have GW380:=n2_;have GE380:=n3_;clear n0_ n1_ n2_ n3_ hb hbox hg;have hcz25_0 : w24.cell? ⟨gb380,0,none⟩ = some (.int .i64 0):=(bc_ BK380.out 0).trans rfl;have hcz25_1 : w24.cell? ⟨gb380,1,none⟩ = some (.int .i64 0):=(bc_ BK380.out 1).trans rfl;have hcz25_2 : w24.cell? ⟨gb380,2,none⟩ = some (.int .i64 0):=(bc_ BK380.out 2).trans rfl;have hfz25_0:=bf_ BK380.out 0;have hfz25_1:=bf_ BK380.out 1;have hfz25_2:=bf_ BK380.out 2)|(go_at_call 74;(with_reducible refine (impl_Cable_other.calls ((rd_T83 l0 x16_1).f0) ((rd_T83 l0 x16_1).f1) ((rd_T83 l0 x16_1).f2) a2 t381 true _ A7.out).mono ?_);rintro e w26 ⟨rfl,hb⟩;have n0_:=mk_ (blk_below (g:=gb380) (o:=.cells #[.int .i64 ((rd_T83 l0 x16_1).f0),.int .i64 ((rd_T83 l0 x16_1).f1),.int .i64 ((rd_T83 l0 x16_1).f2)] 83 (0,0)) (by (with_reducible repeat (first|apply kn_|apply kd_|apply ka_));refine blk_put (cs:=#[.int .i64 ((rd_T83 l0 x16_1).f0),.int .i64 ((rd_T83 l0 x16_1).f1),.int .i64 0]) ?_ 2 _ rfl;(with_reducible repeat (first|apply kn_|apply kd_|apply ka_));refine blk_put (cs:=#[.int .i64 ((rd_T83 l0 x16_1).f0),.int .i64 0,.int .i64 0]) ?_ 1 _ rfl;(with_reducible repeat (first|apply kn_|apply kd_|apply ka_));refine blk_put (cs:=#[.int .i64 0,.int .i64 0,.int .i64 0]) ?_ 0 _ rfl;(with_reducible repeat (first|apply kn_|apply kd_|apply ka_));exact BK380.out) hb);have n1_:=mk_ (st_ (qc_ HB GE380) hb);clear BK380 HB;have BK380:=n0_;have HB:=n1_;clear n0_ n1_;(try clear hb);(try clear hb2);(try clear hk);(try clear hi);have p383 : 0 ≤ (t381 : Int):=od_ qa_;have q383 : t381 < (l1.length : Int):=od_ qa_;obtain ⟨ad383,e383,hx383_0⟩:=Kd.at_int HR1.out t381 p383 q383;cases e383;replace hx383_0:=(HB.out.cell (wl_ w _ hx383_0)).trans hx383_0;replace p383:=eq_true p383;replace q383:=eq_true q383;have hcz27_0 : w26.cell? ⟨gb380,0,none⟩ = some (.int .i64 ((rd_T83 l0 x16_1).f0)):=(bc_ BK380.out 0).trans rfl;have hcz27_1 : w26.cell? ⟨gb380,1,none⟩ = some (.int .i64 ((rd_T83 l0 x16_1).f1)):=(bc_ BK380.out 1).trans rfl;have hcz27_2 : w26.cell? ⟨gb380,2,none⟩ = some (.int .i64 ((rd_T83 l0 x16_1).f2)):=(bc_ BK380.out 2).trans rfl;have hfz27_0:=bf_ BK380.out 0;have hfz27_1:=bf_ BK380.out 1;have hfz27_2:=bf_ BK380.out 2;have p384 : 0 ≤ (a2 : Int):=od_ qa_;have q384 : a2 < (l1.length : Int):=od_ qa_;obtain ⟨ad384,e384,hx384_0⟩:=Kd.at_int HR1.out a2 p384 q384;obtain rfl : ad383 = ad384:=(by injection e384);replace hx384_0:=(HB.out.cell (wl_ w _ hx384_0)).trans hx384_0;replace p384:=eq_true p384;replace q384:=eq_true q384)))
              go_roundg k1
              case measure => have:=HK1.out;omega
              case rel => exact ⟨(x8_1),(x9_1),(wrap64 (x16_1 + 1)),qf_,qf_,qf_,H',⟨by have:=HK1.out;omega⟩,⟨u0_ HB GE380⟩⟩
           ·rw [if_neg c13] at H
            have c13b0 : ((wrap64 ((rd l1 t381) + ((rd_T83 l0 x16_1).f2))) == (rd l1 a2)) = false:=beq_eq_false_iff_ne.mpr c13
            have c13b1 : ((wrap64 ((rd l1 t381) + ((rd_T83 l0 x16_1).f2))) != (rd l1 a2)) = true:=bne_iff_ne.mpr c13
            have H':=mk_ H
            clear H
            have p379 : 0 ≤ (x16_1 : Int):=od_ qa_
            have q379 : x16_1 < (l0.length : Int):=od_ qa_
            obtain ⟨ad379,e379,hx379_0,hx379_1,hx379_2⟩:=at_T83 HR0.out x16_1 p379 q379
            cases e379
            replace hx379_0:=(HB.out.cell (wl_ w _ hx379_0)).trans hx379_0
            replace hx379_1:=(HB.out.cell (wl_ w _ hx379_1)).trans hx379_1
            replace hx379_2:=(HB.out.cell (wl_ w _ hx379_2)).trans hx379_2
            replace p379:=eq_true p379
            replace q379:=eq_true q379
            go_wp2_with (first|((with_reducible refine gate_dst (N:=11) rfl ?_);refine box_event ?hg (N:=11) ?hd (cs:=#[.int .i64 0,.int .i64 0,.int .i64 0]) (t:=83) ?hr ?_;(case hd => rfl);(case hg => rfl);(case hr => first|(go_simp;done)|(go_simp;rfl));intro gb380 hg w28 hbox hb;have n0_:=mk_ (st_ (qb_ HB) hb);have n1_:=mk_ (hbox);have n2_:=mk_ ((by rw [hg];exact (bz_ (qb_ HB)) : w.heap.size ≤ gb380));have n3_:=mk_ ((by rw [hg];exact (bz_ (qb_ HB)) : w.heap.size ≤ gb380));clear HB;have HB:=n0_;have BK380:=n1_;have GW380:=n2_;have GE380:=n3_;clear n0_ n1_ n2_ n3_ hb hbox hg;have hcz29_0 : w28.cell? ⟨gb380,0,none⟩ = some (.int .i64 0):=(bc_ BK380.out 0).trans rfl;have hcz29_1 : w28.cell? ⟨gb380,1,none⟩ = some (.int .i64 0):=(bc_ BK380.out 1).trans rfl;have hcz29_2 : w28.cell? ⟨gb380,2,none⟩ = some (.int .i64 0):=(bc_ BK380.out 2).trans rfl;have hfz29_0:=bf_ BK380.out 0;have hfz29_1:=bf_ BK380.out 1;have hfz29_2:=bf_ BK380.out 2)|(go_at_call 74;(with_reducible refine (impl_Cable_other.calls ((rd_T83 l0 x16_1).f0) ((rd_T83 l0 x16_1).f1) ((rd_T83 l0 x16_1).f2) a2 t381 true _ A7.out).mono ?_);rintro e w30 ⟨rfl,hb⟩;have n0_:=mk_ (blk_below (g:=gb380) (o:=.cells #[.int .i64 ((rd_T83 l0 x16_1).f0),.int .i64 ((rd_T83 l0 x16_1).f1),.int .i64 ((rd_T83 l0 x16_1).f2)] 83 (0,0)) (by (with_reducible repeat (first|apply kn_|apply kd_|apply ka_));refine blk_put (cs:=#[.int .i64 ((rd_T83 l0 x16_1).f0),.int .i64 ((rd_T83 l0 x16_1).f1),.int .i64 0]) ?_ 2 _ rfl;(with_reducible repeat (first|apply kn_|apply kd_|apply ka_));refine blk_put (cs:=#[.int .i64 ((rd_T83 l0 x16_1).f0),.int .i64 0,.int .i64 0]) ?_ 1 _ rfl;(with_reducible repeat (first|apply kn_|apply kd_|apply ka_));refine blk_put (cs:=#[.int .i64 0,.int .i64 0,.int .i64 0]) ?_ 0 _ rfl;(with_reducible repeat (first|apply kn_|apply kd_|apply ka_));exact BK380.out) hb);have n1_:=mk_ (st_ (qc_ HB GE380) hb);clear BK380 HB;have BK380:=n0_;have HB:=n1_;clear n0_ n1_;(try clear hb);(try clear hb2);(try clear hk);(try clear hi);have p383 : 0 ≤ (t381 : Int):=od_ qa_;have q383 : t381 < (l1.length : Int):=od_ qa_;obtain ⟨ad383,e383,hx383_0⟩:=Kd.at_int HR1.out t381 p383 q383;cases e383;replace hx383_0:=(HB.out.cell (wl_ w _ hx383_0)).trans hx383_0;replace p383:=eq_true p383;replace q383:=eq_true q383;have hcz31_0 : w30.cell? ⟨gb380,0,none⟩ = some (.int .i64 ((rd_T83 l0 x16_1).f0)):=(bc_ BK380.out 0).trans rfl;have hcz31_1 : w30.cell? ⟨gb380,1,none⟩ = some (.int .i64 ((rd_T83 l0 x16_1).f1)):=(bc_ BK380.out 1).trans rfl;have hcz31_2 : w30.cell? ⟨gb380,2,none⟩ = some (.int .i64 ((rd_T83 l0 x16_1).f2)):=(bc_ BK380.out 2).trans rfl;have hfz31_0:=bf_ BK380.out 0;have hfz31_1:=bf_ BK380.out 1;have hfz31_2:=bf_ BK380.out 2;have p384 : 0 ≤ (a2 : Int):=od_ qa_;have q384 : a2 < (l1.length : Int):=od_ qa_;obtain ⟨ad384,e384,hx384_0⟩:=Kd.at_int HR1.out a2 p384 q384;obtain rfl : ad383 = ad384:=(by injection e384);replace hx384_0:=(HB.out.cell (wl_ w _ hx384_0)).trans hx384_0;replace p384:=eq_true p384;replace q384:=eq_true q384))
            repeat (go_quiet (first|((with_reducible refine gate_dst (N:=11) rfl ?_);refine box_event ?hg (N:=11) ?hd (cs:=#[.int .i64 0,.int .i64 0,.int .i64 0]) (t:=83) ?hr ?_;(case hd => rfl);(case hg => rfl);(case hr => first|(go_simp;done)|(go_simp;rfl));intro gb380 hg w28 hbox hb;have n0_:=mk_ (st_ (qb_ HB) hb);have n1_:=mk_ (hbox);have n2_:=mk_ ((by rw [hg];exact (bz_ (qb_ HB)) : w.heap.size ≤ gb380));have n3_:=mk_ ((by rw [hg];exact (bz_ (qb_ HB)) : w.heap.size ≤ gb380));clear HB;have HB:=n0_;have BK380:=n1_;have GW380:=n2_;have GE380:=n3_;clear n0_ n1_ n2_ n3_ hb hbox hg;have hcz29_0 : w28.cell? ⟨gb380,0,none⟩ = some (.int .i64 0):=(bc_ BK380.out 0).trans rfl;have hcz29_1 : w28.cell? ⟨gb380,1,none⟩ = some (.int .i64 0):=(bc_ BK380.out 1).trans rfl;have hcz29_2 : w28.cell? ⟨gb380,2,none⟩ = some (.int .i64 0):=(bc_ BK380.out 2).trans rfl;have hfz29_0:=bf_ BK380.out 0;have hfz29_1:=bf_ BK380.out 1;have hfz29_2:=bf_ BK380.out 2)|(go_at_call 74;(with_reducible refine (impl_Cable_other.calls ((rd_T83 l0 x16_1).f0) ((rd_T83 l0 x16_1).f1) ((rd_T83 l0 x16_1).f2) a2 t381 true _ A7.out).mono ?_);rintro e w30 ⟨rfl,hb⟩;have n0_:=mk_ (blk_below (g:=gb380) (o:=.cells #[.int .i64 ((rd_T83 l0 x16_1).f0),.int .i64 ((rd_T83 l0 x16_1).f1),.int .i64 ((rd_T83 l0 x16_1).f2)] 83 (0,0)) (by (with_reducible repeat (first|apply kn_|apply kd_|apply ka_));refine blk_put (cs:=#[.int .i64 ((rd_T83 l0 x16_1).f0),.int .i64 ((rd_T83 l0 x16_1).f1),.int .i64 0]) ?_ 2 _ rfl;(with_reducible repeat (first|apply kn_|apply kd_|apply ka_));refine blk_put (cs:=#[.int .i64 ((rd_T83 l0 x16_1).f0),.int .i64 0,.int .i64 0]) ?_ 1 _ rfl;(with_reducible repeat (first|apply kn_|apply kd_|apply ka_));refine blk_put (cs:=#[.int .i64 0,.int .i64 0,.int .i64 0]) ?_ 0 _ rfl;(with_reducible repeat (first|apply kn_|apply kd_|apply ka_));exact BK380.out) hb);have n1_:=mk_ (st_ (qc_ HB GE380) hb);clear BK380 HB;have BK380:=n0_;have HB:=n1_;clear n0_ n1_;(try clear hb);(try clear hb2);(try clear hk);(try clear hi);have p383 : 0 ≤ (t381 : Int):=od_ qa_;have q383 : t381 < (l1.length : Int):=od_ qa_;obtain ⟨ad383,e383,hx383_0⟩:=Kd.at_int HR1.out t381 p383 q383;cases e383;replace hx383_0:=(HB.out.cell (wl_ w _ hx383_0)).trans hx383_0;replace p383:=eq_true p383;replace q383:=eq_true q383;have hcz31_0 : w30.cell? ⟨gb380,0,none⟩ = some (.int .i64 ((rd_T83 l0 x16_1).f0)):=(bc_ BK380.out 0).trans rfl;have hcz31_1 : w30.cell? ⟨gb380,1,none⟩ = some (.int .i64 ((rd_T83 l0 x16_1).f1)):=(bc_ BK380.out 1).trans rfl;have hcz31_2 : w30.cell? ⟨gb380,2,none⟩ = some (.int .i64 ((rd_T83 l0 x16_1).f2)):=(bc_ BK380.out 2).trans rfl;have hfz31_0:=bf_ BK380.out 0;have hfz31_1:=bf_ BK380.out 1;have hfz31_2:=bf_ BK380.out 2;have p384 : 0 ≤ (a2 : Int):=od_ qa_;have q384 : a2 < (l1.length : Int):=od_ qa_;obtain ⟨ad384,e384,hx384_0⟩:=Kd.at_int HR1.out a2 p384 q384;obtain rfl : ad383 = ad384:=(by injection e384);replace hx384_0:=(HB.out.cell (wl_ w _ hx384_0)).trans hx384_0;replace p384:=eq_true p384;replace q384:=eq_true q384));try go_wp2_with (first|((with_reducible refine gate_dst (N:=11) rfl ?_);refine box_event ?hg (N:=11) ?hd (cs:=#[.int .i64 0,.int .i64 0,.int .i64 0]) (t:=83) ?hr ?_;(case hd => rfl);(case hg => rfl);(case hr => first|(go_simp;done)|(go_simp;rfl));intro gb380 hg w28 hbox hb;have n0_:=mk_ (st_ (qb_ HB) hb);have n1_:=mk_ (hbox);have n2_:=mk_ ((by rw [hg];exact (bz_ (qb_ HB)) : w.heap.size ≤ gb380));have n3_:=mk_ ((by rw [hg];exact (bz_ (qb_ HB)) : w.heap.size ≤ gb380));clear HB;have HB:=n0_;have BK380:=n1_;have GW380:=n2_;have GE380:=n3_;clear n0_ n1_ n2_ n3_ hb hbox hg;have hcz29_0 : w28.cell? ⟨gb380,0,none⟩ = some (.int .i64 0):=(bc_ BK380.out 0).trans rfl;have hcz29_1 : w28.cell? ⟨gb380,1,none⟩ = some (.int .i64 0):=(bc_ BK380.out 1).trans rfl;have hcz29_2 : w28.cell? ⟨gb380,2,none⟩ = some (.int .i64 0):=(bc_ BK380.out 2).trans rfl;have hfz29_0:=bf_ BK380.out 0;have hfz29_1:=bf_ BK380.out 1;have hfz29_2:=bf_ BK380.out 2)|(go_at_call 74;(with_reducible refine (impl_Cable_other.calls ((rd_T83 l0 x16_1).f0) ((rd_T83 l0 x16_1).f1) ((rd_T83 l0 x16_1).f2) a2 t381 true _ A7.out).mono ?_);rintro e w30 ⟨rfl,hb⟩;have n0_:=mk_ (blk_below (g:=gb380) (o:=.cells #[.int .i64 ((rd_T83 l0 x16_1).f0),.int .i64 ((rd_T83 l0 x16_1).f1),.int .i64 ((rd_T83 l0 x16_1).f2)] 83 (0,0)) (by (with_reducible repeat (first|apply kn_|apply kd_|apply ka_));refine blk_put (cs:=#[.int .i64 ((rd_T83 l0 x16_1).f0),.int .i64 ((rd_T83 l0 x16_1).f1),.int .i64 0]) ?_ 2 _ rfl;(with_reducible repeat (first|apply kn_|apply kd_|apply ka_));refine blk_put (cs:=#[.int .i64 ((rd_T83 l0 x16_1).f0),.int .i64 0,.int .i64 0]) ?_ 1 _ rfl;(with_reducible repeat (first|apply kn_|apply kd_|apply ka_));refine blk_put (cs:=#[.int .i64 0,.int .i64 0,.int .i64 0]) ?_ 0 _ rfl;(with_reducible repeat (first|apply kn_|apply kd_|apply ka_));exact BK380.out) hb);have n1_:=mk_ (st_ (qc_ HB GE380) hb);clear BK380 HB;have BK380:=n0_;have HB:=n1_;clear n0_ n1_;(try clear hb);(try clear hb2);(try clear hk);(try clear hi);have p383 : 0 ≤ (t381 : Int):=od_ qa_;have q383 : t381 < (l1.length : Int):=od_ qa_;obtain ⟨ad383,e383,hx383_0⟩:=Kd.at_int HR1.out t381 p383 q383;cases e383;replace hx383_0:=(HB.out.cell (wl_ w _ hx383_0)).trans hx383_0;replace p383:=eq_true p383;replace q383:=eq_true q383;have hcz31_0 : w30.cell? ⟨gb380,0,none⟩ = some (.int .i64 ((rd_T83 l0 x16_1).f0)):=(bc_ BK380.out 0).trans rfl;have hcz31_1 : w30.cell? ⟨gb380,1,none⟩ = some (.int .i64 ((rd_T83 l0 x16_1).f1)):=(bc_ BK380.out 1).trans rfl;have hcz31_2 : w30.cell? ⟨gb380,2,none⟩ = some (.int .i64 ((rd_T83 l0 x16_1).f2)):=(bc_ BK380.out 2).trans rfl;have hfz31_0:=bf_ BK380.out 0;have hfz31_1:=bf_ BK380.out 1;have hfz31_2:=bf_ BK380.out 2;have p384 : 0 ≤ (a2 : Int):=od_ qa_;have q384 : a2 < (l1.length : Int):=od_ qa_;obtain ⟨ad384,e384,hx384_0⟩:=Kd.at_int HR1.out a2 p384 q384;obtain rfl : ad383 = ad384:=(by injection e384);replace hx384_0:=(HB.out.cell (wl_ w _ hx384_0)).trans hx384_0;replace p384:=eq_true p384;replace q384:=eq_true q384)))
            go_roundg k1
            case measure => have:=HK1.out;omega
            case rel => exact ⟨(x8_1),(x9_1),(wrap64 (x16_1 + 1)),qf_,qf_,qf_,H',⟨by have:=HK1.out;omega⟩,⟨u0_ HB GE380⟩⟩
          ·rw [if_neg c12] at H
           exact absurd H (by simp)
         ·rw [if_neg c11] at H
          exact absurd H (by simp)
        ·rw [if_neg c10] at H
         exact absurd H (by simp)
       ·rw [if_neg c9] at H
        exact absurd H (by simp)
      ·replace c8:=Bool.eq_false_iff.mpr c8
       subst c8
       have H1 : (impl_upOf.l0 k1 l1 a2 x8_1 x9_1 l0 (l0.length : Int) (wrap64 (x16_1 + 1))) = some (r1,r2):=by rw [if_neg (show ¬ (false = true) by decide)] at H;exact H
       clear H
       have H:=H1
       clear H1
       have H':=mk_ H
       clear H
       have p379 : 0 ≤ (x16_1 : Int):=od_ qa_
       have q379 : x16_1 < (l0.length : Int):=od_ qa_
       obtain ⟨ad379,e379,hx379_0,hx379_1,hx379_2⟩:=at_T83 HR0.out x16_1 p379 q379
       cases e379
       replace hx379_0:=(HB.out.cell (wl_ w _ hx379_0)).trans hx379_0
       replace hx379_1:=(HB.out.cell (wl_ w _ hx379_1)).trans hx379_1
       replace hx379_2:=(HB.out.cell (wl_ w _ hx379_2)).trans hx379_2
       replace p379:=eq_true p379
       replace q379:=eq_true q379
       go_wp2_with (first|((with_reducible refine gate_dst (N:=11) rfl ?_);refine box_event ?hg (N:=11) ?hd (cs:=#[.int .i64 0,.int .i64 0,.int .i64 0]) (t:=83) ?hr ?_;(case hd => rfl);(case hg => rfl);(case hr => first|(go_simp;done)|(go_simp;rfl));intro gb380 hg w32 hbox hb;have n0_:=mk_ (st_ (qb_ HB) hb);have n1_:=mk_ (hbox);have n2_:=mk_ ((by rw [hg];exact (bz_ (qb_ HB)) : w.heap.size ≤ gb380));have n3_:=mk_ ((by rw [hg];exact (bz_ (qb_ HB)) : w.heap.size ≤ gb380));clear HB;have HB:=n0_;have BK380:=n1_;have GW380:=n2_;have GE380:=n3_;clear n0_ n1_ n2_ n3_ hb hbox hg;have hcz33_0 : w32.cell? ⟨gb380,0,none⟩ = some (.int .i64 0):=(bc_ BK380.out 0).trans rfl;have hcz33_1 : w32.cell? ⟨gb380,1,none⟩ = some (.int .i64 0):=(bc_ BK380.out 1).trans rfl;have hcz33_2 : w32.cell? ⟨gb380,2,none⟩ = some (.int .i64 0):=(bc_ BK380.out 2).trans rfl;have hfz33_0:=bf_ BK380.out 0;have hfz33_1:=bf_ BK380.out 1;have hfz33_2:=bf_ BK380.out 2)|(go_at_call 74;(with_reducible refine (impl_Cable_other.calls ((rd_T83 l0 x16_1).f0) ((rd_T83 l0 x16_1).f1) ((rd_T83 l0 x16_1).f2) a2 t381 false _ A7.out).mono ?_);rintro e w34 ⟨rfl,hb⟩;have n0_:=mk_ (blk_below (g:=gb380) (o:=.cells #[.int .i64 ((rd_T83 l0 x16_1).f0),.int .i64 ((rd_T83 l0 x16_1).f1),.int .i64 ((rd_T83 l0 x16_1).f2)] 83 (0,0)) (by (with_reducible repeat (first|apply kn_|apply kd_|apply ka_));refine blk_put (cs:=#[.int .i64 ((rd_T83 l0 x16_1).f0),.int .i64 ((rd_T83 l0 x16_1).f1),.int .i64 0]) ?_ 2 _ rfl;(with_reducible repeat (first|apply kn_|apply kd_|apply ka_));refine blk_put (cs:=#[.int .i64 ((rd_T83 l0 x16_1).f0),.int .i64 0,.int .i64 0]) ?_ 1 _ rfl;(with_reducible repeat (first|apply kn_|apply kd_|apply ka_));refine blk_put (cs:=#[.int .i64 0,.int .i64 0,.int .i64 0]) ?_ 0 _ rfl;(with_reducible repeat (first|apply kn_|apply kd_|apply ka_));exact BK380.out) hb);have n1_:=mk_ (st_ (qc_ HB GE380) hb);clear BK380 HB;have BK380:=n0_;have HB:=n1_;clear n0_ n1_;(try clear hb);(try clear hb2);(try clear hk);(try clear hi)))
       repeat (go_quiet (first|((with_reducible refine gate_dst (N:=11) rfl ?_);refine box_event ?hg (N:=11) ?hd (cs:=#[.int .i64 0,.int .i64 0,.int .i64 0]) (t:=83) ?hr ?_;(case hd => rfl);(case hg => rfl);(case hr => first|(go_simp;done)|(go_simp;rfl));intro gb380 hg w32 hbox hb;have n0_:=mk_ (st_ (qb_ HB) hb);have n1_:=mk_ (hbox);have n2_:=mk_ ((by rw [hg];exact (bz_ (qb_ HB)) : w.heap.size ≤ gb380));have n3_:=mk_ ((by rw [hg];exact (bz_ (qb_ HB)) : w.heap.size ≤ gb380));clear HB;have HB:=n0_;have BK380:=n1_;have GW380:=n2_;have GE380:=n3_;clear n0_ n1_ n2_ n3_ hb hbox hg;have hcz33_0 : w32.cell? ⟨gb380,0,none⟩ = some (.int .i64 0):=(bc_ BK380.out 0).trans rfl;have hcz33_1 : w32.cell? ⟨gb380,1,none⟩ = some (.int .i64 0):=(bc_ BK380.out 1).trans rfl;have hcz33_2 : w32.cell? ⟨gb380,2,none⟩ = some (.int .i64 0):=(bc_ BK380.out 2).trans rfl;have hfz33_0:=bf_ BK380.out 0;have hfz33_1:=bf_ BK380.out 1;have hfz33_2:=bf_ BK380.out 2)|(go_at_call 74;(with_reducible refine (impl_Cable_other.calls ((rd_T83 l0 x16_1).f0) ((rd_T83 l0 x16_1).f1) ((rd_T83 l0 x16_1).f2) a2 t381 false _ A7.out).mono ?_);rintro e w34 ⟨rfl,hb⟩;have n0_:=mk_ (blk_below (g:=gb380) (o:=.cells #[.int .i64 ((rd_T83 l0 x16_1).f0),.int .i64 ((rd_T83 l0 x16_1).f1),.int .i64 ((rd_T83 l0 x16_1).f2)] 83 (0,0)) (by (with_reducible repeat (first|apply kn_|apply kd_|apply ka_));refine blk_put (cs:=#[.int .i64 ((rd_T83 l0 x16_1).f0),.int .i64 ((rd_T83 l0 x16_1).f1),.int .i64 0]) ?_ 2 _ rfl;(with_reducible repeat (first|apply kn_|apply kd_|apply ka_));refine blk_put (cs:=#[.int .i64 ((rd_T83 l0 x16_1).f0),.int .i64 0,.int .i64 0]) ?_ 1 _ rfl;(with_reducible repeat (first|apply kn_|apply kd_|apply ka_));refine blk_put (cs:=#[.int .i64 0,.int .i64 0,.int .i64 0]) ?_ 0 _ rfl;(with_reducible repeat (first|apply kn_|apply kd_|apply ka_));exact BK380.out) hb);have n1_:=mk_ (st_ (qc_ HB GE380) hb);clear BK380 HB;have BK380:=n0_;have HB:=n1_;clear n0_ n1_;(try clear hb);(try clear hb2);(try clear hk);(try clear hi)));try go_wp2_with (first|((with_reducible refine gate_dst (N:=11) rfl ?_);refine box_event ?hg (N:=11) ?hd (cs:=#[.int .i64 0,.int .i64 0,.int .i64 0]) (t:=83) ?hr ?_;(case hd => rfl);(case hg => rfl);(case hr => first|(go_simp;done)|(go_simp;rfl));intro gb380 hg w32 hbox hb;have n0_:=mk_ (st_ (qb_ HB) hb);have n1_:=mk_ (hbox);have n2_:=mk_ ((by rw [hg];exact (bz_ (qb_ HB)) : w.heap.size ≤ gb380));have n3_:=mk_ ((by rw [hg];exact (bz_ (qb_ HB)) : w.heap.size ≤ gb380));clear HB;have HB:=n0_;have BK380:=n1_;have GW380:=n2_;have GE380:=n3_;clear n0_ n1_ n2_ n3_ hb hbox hg;have hcz33_0 : w32.cell? ⟨gb380,0,none⟩ = some (.int .i64 0):=(bc_ BK380.out 0).trans rfl;have hcz33_1 : w32.cell? ⟨gb380,1,none⟩ = some (.int .i64 0):=(bc_ BK380.out 1).trans rfl;have hcz33_2 : w32.cell? ⟨gb380,2,none⟩ = some (.int .i64 0):=(bc_ BK380.out 2).trans rfl;have hfz33_0:=bf_ BK380.out 0;have hfz33_1:=bf_ BK380.out 1;have hfz33_2:=bf_ BK380.out 2)|(go_at_call 74;(with_reducible refine (impl_Cable_other.calls ((rd_T83 l0 x16_1).f0) ((rd_T83 l0 x16_1).f1) ((rd_T83 l0 x16_1).f2) a2 t381 false _ A7.out).mono ?_);rintro e w34 ⟨rfl,hb⟩;have n0_:=mk_ (blk_below (g:=gb380) (o:=.cells #[.int .i64 ((rd_T83 l0 x16_1).f0),.int .i64 ((rd_T83 l0 x16_1).f1),.int .i64 ((rd_T83 l0 x16_1).f2)] 83 (0,0)) (by (with_reducible repeat (first|apply kn_|apply kd_|apply ka_));refine blk_put (cs:=#[.int .i64 ((rd_T83 l0 x16_1).f0),.int .i64 ((rd_T83 l0 x16_1).f1),.int .i64 0]) ?_ 2 _ rfl;(with_reducible repeat (first|apply kn_|apply kd_|apply ka_));refine blk_put (cs:=#[.int .i64 ((rd_T83 l0 x16_1).f0),.int .i64 0,.int .i64 0]) ?_ 1 _ rfl;(with_reducible repeat (first|apply kn_|apply kd_|apply ka_));refine blk_put (cs:=#[.int .i64 0,.int .i64 0,.int .i64 0]) ?_ 0 _ rfl;(with_reducible repeat (first|apply kn_|apply kd_|apply ka_));exact BK380.out) hb);have n1_:=mk_ (st_ (qc_ HB GE380) hb);clear BK380 HB;have BK380:=n0_;have HB:=n1_;clear n0_ n1_;(try clear hb);(try clear hb2);(try clear hk);(try clear hi))))
       go_roundg k1
       case measure => have:=HK1.out;omega
       case rel => exact ⟨(x8_1),(x9_1),(wrap64 (x16_1 + 1)),qf_,qf_,qf_,H',⟨by have:=HK1.out;omega⟩,⟨u0_ HB GE380⟩⟩
     ·rw [if_neg c6] at H
      exact absurd H (by simp)
    ·rw [if_neg c5] at H
     exact absurd H (by simp)
   ·rw [if_neg c4] at H
    have c4b0 : decide (x16_1 < (l0.length : Int)) = false:=decide_eq_false c4
    clear c4
    simp only [Option.some.injEq,Prod.mk.injEq] at H
    obtain ⟨rfl,rfl⟩:=H
    go_wp2
    repeat (go_quiet (fail);try go_wp2)
    go_ret2
    exact ⟨qe_,u1_ HB⟩
/-! ### impl_TreeOf: function 35 -/
def impl_TreeOf.l0 : Nat → List (S83) → List Int → List Int → Int → Int → Option (List Int)
 | 0,_,_,_,_,_ => none
 | k + 1,x1,x5,x6,x17,x18 => if x18 < x17 then ((impl_upOf.f k x1 x6 x18).bind fun bt389 => (if bt389.1 ≥ 0 then (if x5.length < 17592186044416 then (impl_TreeOf.l0 k x1 (x5 ++ [bt389.1]) x6 x17 (wrap64 (x18 + 1))) else (none)) else (impl_TreeOf.l0 k x1 x5 x6 x17 (wrap64 (x18 + 1))))) else ((slices_Sort_int_int.f k x5).bind fun t394 => (some t394))
def impl_TreeOf.f (k : Nat) (a0 : Int) (l1 : List (S83)) : Option (List Int):=(impl_CablesValid.f a0 l1).bind fun t385 => (if t385 = true then ((impl_costsOf.f k a0 l1).bind fun t386 => (impl_TreeOf.l0 k l1 ([] : List Int) t386 a0 0)) else (some ([] : List Int)))
theorem impl_TreeOf.mono_l : ∀ k,(∀ y0 y1 y2 y3 y4,LeO (impl_TreeOf.l0 k y0 y1 y2 y3 y4) (impl_TreeOf.l0 (k + 1) y0 y1 y2 y3 y4))
 | 0 => fun _ _ _ _ _ r h => by simp [impl_TreeOf.l0] at h
 | k + 1 => by
  have ih0:=impl_TreeOf.mono_l k
  ·intro y0 y1 y2 y3 y4
   unfold impl_TreeOf.l0
   repeat' first
   | (with_reducible exact ih0 _ _ _ _ _)
   | (with_reducible exact impl_costsOf.mono _ _ _)
   | (with_reducible exact impl_upOf.mono _ _ _ _)
   | (with_reducible exact slices_Sort_int_int.mono _ _)
   | (with_reducible exact LeO.refl _)
   | (with_reducible exact LeO.none _)
   | (with_reducible refine LeO.ite ?_ ?_)
   | (with_reducible refine LeO.bind ?_ (fun _ => ?_))
   | exact ih0 _ _ _ _ _
   | exact impl_costsOf.mono _ _ _
   | exact impl_upOf.mono _ _ _ _
   | exact slices_Sort_int_int.mono _ _
   | exact LeO.none _
   | refine LeO.ite ?_ ?_
   | refine LeO.bind ?_ (fun _ => ?_)
theorem impl_TreeOf.mono : ∀ a0 a1 k,LeO (impl_TreeOf.f k a0 a1) (impl_TreeOf.f (k + 1) a0 a1):=by
 intro a0 a1 k
 have ih0:=impl_TreeOf.mono_l k
 unfold impl_TreeOf.f
 repeat' first
   | (with_reducible exact ih0 _ _ _ _ _)
   | (with_reducible exact impl_costsOf.mono _ _ _)
   | (with_reducible exact impl_upOf.mono _ _ _ _)
   | (with_reducible exact slices_Sort_int_int.mono _ _)
   | (with_reducible exact LeO.refl _)
   | (with_reducible exact LeO.none _)
   | (with_reducible refine LeO.ite ?_ ?_)
   | (with_reducible refine LeO.bind ?_ (fun _ => ?_))
   | exact ih0 _ _ _ _ _
   | exact impl_costsOf.mono _ _ _
   | exact impl_upOf.mono _ _ _ _
   | exact slices_Sort_int_int.mono _ _
   | exact LeO.none _
   | refine LeO.ite ?_ ?_
   | refine LeO.bind ?_ (fun _ => ?_)
set_option maxHeartbeats 8000000 in
set_option maxRecDepth 100000 in
theorem impl_TreeOf.calls (k : Nat) (a0 : Int) (A1 : Option Addr) (c1 : Nat) (l1 : List (S83)) (r : List Int) (w : World) (hr1 : Kd.C k83 w A1 l1.length l1) (hc1 : l1.length ≤ c1) (h : impl_TreeOf.f k a0 l1 = some r) :
  Calls Try.prog 35 #[.int .i64 a0,.slice A1 l1.length c1] w fun e w' => ∃ v0_ : Value,e = .returned (v0_) ∧ Kd.R (Kd.int .i64) 3 w' w.heap.size (fun _ => True) v0_ r ∧ Below w.heap.size w w':=by
 have HR1:=mk_ hr1
 have HC1:=mk_ hc1
 clear hr1 hc1
 have HB:=mk_ (Below.refl w.heap.size w)
 have H : ((impl_CablesValid.f a0 l1).bind fun t385 => (if t385 = true then ((impl_costsOf.f k a0 l1).bind fun t386 => (impl_TreeOf.l0 k l1 ([] : List Int) t386 a0 0)) else (some ([] : List Int)))) = some r:=h
 clear h
 replace H:=Option.bind_eq_some_iff.mp H
 obtain ⟨t385,A30,H⟩:=H
 replace H : (if t385 = true then ((impl_costsOf.f k a0 l1).bind fun t386 => (impl_TreeOf.l0 k l1 ([] : List Int) t386 a0 0)) else (some ([] : List Int))) = some r:=H
 have A3:=mk_ A30
 clear A30
 by_cases c4 : t385 = true
 ·subst c4
  have H1 : ((impl_costsOf.f k a0 l1).bind fun t386 => (impl_TreeOf.l0 k l1 ([] : List Int) t386 a0 0)) = some r:=by rw [if_pos rfl] at H;exact H
  clear H
  have H:=H1
  clear H1
  replace H:=Option.bind_eq_some_iff.mp H
  obtain ⟨t386,A50,H⟩:=H
  replace H : (impl_TreeOf.l0 k l1 ([] : List Int) t386 a0 0) = some r:=H
  have A5:=mk_ A50
  clear A50
  have H':=mk_ H
  clear H
  go_enter Try.func35,Try.ntmps35
  go_wp2_with (first|((with_reducible refine gate_callee (f:=63) rfl ?_);refine goesL_ (some 12) rfl rfl Try.func63 (by kernel_rfl) rfl #[.int .i64 a0,.slice A1 l1.length c1] rfl qm_ ?_;(with_reducible refine (impl_CablesValid.calls a0 _ _ l1 true _ ?side1 ?side2 A3.out).mono ?_);(case side1 => repeat (first|exact HR1.out|(with_reducible refine ca_ ?_ _)|(with_reducible refine cn_ ?_ _)|(with_reducible refine cd_ ?_)));(case side2 => exact HC1.out);rintro e w6 ⟨rfl,hb⟩;refine ⟨_,rfl,?_⟩;have n0_:=mk_ (st_ (qb_ HB) hb);clear HB;have HB:=n0_;clear n0_;(try clear hb);(try clear hb2);(try clear hk);(try clear hi))|((with_reducible refine gate_callee (f:=70) rfl ?_);refine goesL_ (some 16) rfl rfl Try.func70 (by kernel_rfl) rfl #[.int .i64 a0,.slice A1 l1.length c1] rfl qm_ ?_;(with_reducible refine (impl_costsOf.calls k a0 _ _ l1 t386 _ ?side1 ?side2 A5.out).mono ?_);(case side1 => exact qn_ HR1 HB);(case side2 => exact HC1.out);rintro e w7 ⟨v387,rfl,ho0,hb⟩;refine ⟨_,rfl,?_⟩;have n0_:=mk_ (Kd.R_lower ho0 (bz_ (qb_ HB)));have n1_:=mk_ (st_ (qb_ HB) hb);clear HB;have HO388:=n0_;have HB:=n1_;clear n0_ n1_;(try clear hb);(try clear hb2);(try clear hk);(try clear hi);(try clear ho0)))
  go_loopg [5,18] k (fun kq v5 v18 w' => ∃ (x5_1 : List Int) (x18_1 : Int),v18 = .int .i64 x18_1 ∧ Aside0 (impl_TreeOf.l0 kq l1 x5_1 t386 a0 x18_1 = some r) ∧ Aside0 (kq ≤ k) ∧ Aside0 (Kd.R (Kd.int .i64) 3 w' w.heap.size (fun k_ => some k_ ≠ (v387 : Value).ownBlock) v5 x5_1) ∧ Aside0 (Kd.R (Kd.int .i64) 3 w' w.heap.size (fun k_ => some k_ ≠ (v5 : Value).ownBlock) v387 t386) ∧ Aside0 (Below w.heap.size w w'))
  case atStart => exact ⟨(([] : List Int)),(0),qf_,H',⟨Nat.le_refl _⟩,⟨by first|exact Kd.R_nil _ _ _ _ _|exact Kd.N_nil _ _ _ _ _|exact Kd.V_nil _ _ _ _ _|exact Kd.Q_nil _ _ _ _ _|exact Kd.S_nil _ _ _ _ _⟩,⟨by (with_reducible repeat (first|apply ra_|apply rn_|apply rd_));exact rm_ HO388.out (fun _ hk => (by simp [Value.ownBlock]))⟩,⟨u1_ HB⟩⟩
  case round =>
   clear H'
   try clear c1
   try clear p2
   try clear c3
   try clear c4
   try clear c6
   try clear c7
   obtain ⟨x5_1,x18_1,rfl,HA,HK1,HO_5,HO_6,HB⟩:=hrel
   cases gk with
   | zero => exact absurd HA.out (by simp [impl_TreeOf.l0])
   | succ k1 =>
    have H:=HA.out
    clear HA
    simp only [impl_TreeOf.l0] at H
    by_cases c8 : x18_1 < a0
    ·rw [if_pos c8] at H
     have c8b0 : decide (x18_1 < a0) = true:=decide_eq_true c8
     clear c8
     replace H:=Option.bind_eq_some_iff.mp H
     obtain ⟨⟨t389,t390⟩,A90,H⟩:=H
     replace H : (if t389 ≥ 0 then (if x5_1.length < 17592186044416 then (impl_TreeOf.l0 k1 l1 (x5_1 ++ [t389]) t386 a0 (wrap64 (x18_1 + 1))) else (none)) else (impl_TreeOf.l0 k1 l1 x5_1 t386 a0 (wrap64 (x18_1 + 1)))) = some r:=H
     have A9:=mk_ A90
     clear A90
     by_cases c10 : t389 ≥ 0
     ·rw [if_pos c10] at H
      have c10b0 : decide (0 ≤ t389) = true:=decide_eq_true c10
      clear c10
      by_cases c11 : x5_1.length < 17592186044416
      ·rw [if_pos c11] at H
       have LMc11:=mk_ c11
       clear c11
       obtain ⟨y391,hy391⟩ : ∃ y_ : List Int,y_ = (x5_1 ++ [t389]):=⟨_,rfl⟩
       replace H : (impl_TreeOf.l0 k1 l1 y391 t386 a0 (wrap64 (x18_1 + 1))) = some r:=by first|(rw [hy391];with_reducible exact H)|(have H2_:=(Option.bind_some _ _).symm.trans H;rw [hy391];with_reducible exact H2_)|(have H2_:=(Option.bind_some _ _).symm.trans H;with_reducible exact H2_)|with_reducible exact H|(rw [hy391];exact H)|exact H
       have Ny391:=mk_ hy391
       clear hy391
       have H':=mk_ H
       clear H
       obtain ⟨Ao12,co12,eo12⟩:=Kd.R_slice HO_6.out
       subst eo12
       go_wp2_with (first|((with_reducible refine gate_callee (f:=71) rfl ?_);refine goesL_ (some 25) rfl rfl Try.func71 (by kernel_rfl) rfl #[.slice A1 l1.length c1,.slice Ao12 t386.length co12,.int .i64 x18_1] rfl qm_ ?_;(with_reducible refine (impl_upOf.calls k1 _ _ l1 _ _ t386 x18_1 t389 t390 _ ?side1 ?side2 ?side3 ?side4 A9.out).mono ?_);(case side1 => exact qn_ HR1 HB);(case side2 => exact HC1.out);(case side3 => repeat (first|exact (rr_ HO_6.out).2.2|(with_reducible refine ca_ ?_ _)|(with_reducible refine cn_ ?_ _)|(with_reducible refine cd_ ?_)));(case side4 => exact (rr_ HO_6.out).2.1);rintro e w13 ⟨rfl,hb⟩;refine ⟨_,rfl,?_⟩;have n0_:=mk_ (rb_ (qr_ HO_5) hb);have n1_:=mk_ (rb_ (qr_ HO_6) hb);have n2_:=mk_ (st_ (qb_ HB) hb);clear HO_5 HO_6 HB;have HO_5:=n0_;have HO_6:=n1_;have HB:=n2_;clear n0_ n1_ n2_;(try clear hb);(try clear hb2);(try clear hk);(try clear hi))|((with_reducible refine gate_builtin (b:=.append) (xs:=#[.tmp 30,.tmp 32]) rfl ?_);at_builtin;refine Kd.R_append (Kd.int .i64) (w0:=w) w.heap.size rfl (.tmp 30) (.tmp 32) 24 3 (.int .i64 0) 8 rfl Try.underlying24 info3 rfl (by decide) (by omega) u5 x5_1 t389 [.int .i64 t389] (fun k_ => some k_ ≠ (.slice Ao12 t386.length co12 : Value).ownBlock) (fun _ => False) rfl rfl ?aP (fun _ hk => hk.elim) ?aF ?aO ?aB ?aS ?aL ?_;(case aP => exact rfl);(case aB => exact (qb_ HB));(case aF => exact (fun k_ hk => Kd.fresh' (Kd.R_lt (qr_ HO_6)) k_ hk));(case aO => exact (qr_ HO_5));(case aS => exact (bz_ (qb_ HB)));(case aL => have:=LMc11.out;omega);intro v392 w14 ho hb hg hat;rw [← Ny391.out] at ho;have n0_:=mk_ (Kd.R_after (ok:=(fun _ => True)) (by (with_reducible repeat (first|apply ra_|apply rn_|apply rd_));exact rm_ HO_6.out (fun _ hk => ⟨trivial,hk⟩)) hg hat);have n1_:=mk_ (hb);have n2_:=mk_ (ho);clear HO_6 HB HO_5;have HO_6:=n0_;have HB:=n1_;have HO393:=n2_;clear n0_ n1_ n2_ ho hb hg hat))
       go_roundg k1
       case measure => have:=HK1.out;omega
       case rel => exact ⟨(y391),(wrap64 (x18_1 + 1)),qf_,H',⟨by have:=HK1.out;omega⟩,⟨qr_ HO393⟩,⟨by (with_reducible repeat (first|apply ra_|apply rn_|apply rd_));exact rm_ HO_6.out (λ_ h=>h.2)⟩,⟨u1_ HB⟩⟩
      ·rw [if_neg c11] at H
       exact absurd H (by simp)
     ·rw [if_neg c10] at H
      have c10b0 : decide (0 ≤ t389) = false:=decide_eq_false c10
      clear c10
      have H':=mk_ H
      clear H
      obtain ⟨Ao15,co15,eo15⟩:=Kd.R_slice HO_6.out
      subst eo15
      go_wp2_with (first|((with_reducible refine gate_callee (f:=71) rfl ?_);refine goesL_ (some 25) rfl rfl Try.func71 (by kernel_rfl) rfl #[.slice A1 l1.length c1,.slice Ao15 t386.length co15,.int .i64 x18_1] rfl qm_ ?_;(with_reducible refine (impl_upOf.calls k1 _ _ l1 _ _ t386 x18_1 t389 t390 _ ?side1 ?side2 ?side3 ?side4 A9.out).mono ?_);(case side1 => exact qn_ HR1 HB);(case side2 => exact HC1.out);(case side3 => repeat (first|exact (rr_ HO_6.out).2.2|(with_reducible refine ca_ ?_ _)|(with_reducible refine cn_ ?_ _)|(with_reducible refine cd_ ?_)));(case side4 => exact (rr_ HO_6.out).2.1);rintro e w16 ⟨rfl,hb⟩;refine ⟨_,rfl,?_⟩;have n0_:=mk_ (rb_ (qr_ HO_5) hb);have n1_:=mk_ (rb_ (qr_ HO_6) hb);have n2_:=mk_ (st_ (qb_ HB) hb);clear HO_5 HO_6 HB;have HO_5:=n0_;have HO_6:=n1_;have HB:=n2_;clear n0_ n1_ n2_;(try clear hb);(try clear hb2);(try clear hk);(try clear hi)))
      go_roundg k1
      case measure => have:=HK1.out;omega
      case rel => exact ⟨(x5_1),(wrap64 (x18_1 + 1)),qf_,H',⟨by have:=HK1.out;omega⟩,⟨qr_ HO_5⟩,⟨qr_ HO_6⟩,⟨u1_ HB⟩⟩
    ·rw [if_neg c8] at H
     have c8b0 : decide (x18_1 < a0) = false:=decide_eq_false c8
     clear c8
     replace H:=Option.bind_eq_some_iff.mp H
     obtain ⟨t394,A170,H⟩:=H
     replace H : (some t394) = some r:=H
     have A17:=mk_ A170
     clear A170
     obtain rfl:=Option.some.inj H
     obtain ⟨Ao18,co18,eo18⟩:=Kd.R_slice HO_5.out
     subst eo18
     go_wp2_with (first|((with_reducible refine gate_callee (f:=46) rfl ?_);refine goesL_ (some 36) rfl rfl Try.func46 (by kernel_rfl) rfl #[.slice Ao18 x5_1.length co18] rfl qm_ ?_;(with_reducible refine (slices_Sort_int_int.calls k1 (fun k_ => some k_ = (.slice Ao18 x5_1.length co18 : Value).ownBlock) (.slice Ao18 x5_1.length co18) x5_1 t394 w _ ?side1 ?side2 A17.out).mono ?_);(case side1 => exact u1_ HB);(case side2 => exact Kd.R_tight rfl HO_5.out);rintro e w19 ⟨rfl,hy0,hb,hkp⟩;refine ⟨_,rfl,?_⟩;have n0_:=mk_ (Kd.R_reok rfl hy0 (fun k_ e_ => HO_5.out.1 k_ e_));have n1_:=mk_ (rm_ (ok':=fun k_ => some k_ ≠ (.slice Ao18 x5_1.length co18 : Value).ownBlock) (Kd.R_keptB (HO_6.out) hkp (fun k_ hk_ hs_ => (hk_) hs_)) (fun k_ hk_ => hk_.1));have n2_:=mk_ (hb);clear HO_5 HO_6 HB;have HO_5:=n0_;have HO_6:=n1_;have HB:=n2_;clear n0_ n1_ n2_;(try clear hb);(try clear hkp);(try clear hy0)))
     go_ret
     exact ⟨_,qe_,by (with_reducible repeat (first|apply ra_|apply rn_|apply rd_));exact rm_ HO_5.out (λ_ _=>trivial),u1_ HB⟩
 ·replace c4:=Bool.eq_false_iff.mpr c4
  subst c4
  have H1 : (some ([] : List Int)) = some r:=by rw [if_neg (show ¬ (false = true) by decide)] at H;exact H
  clear H
  have H:=H1
  clear H1
  obtain rfl:=Option.some.inj H
  go_enter Try.func35,Try.ntmps35
  go_wp2_with (first|((with_reducible refine gate_callee (f:=63) rfl ?_);refine goesL_ (some 12) rfl rfl Try.func63 (by kernel_rfl) rfl #[.int .i64 a0,.slice A1 l1.length c1] rfl qm_ ?_;(with_reducible refine (impl_CablesValid.calls a0 _ _ l1 false _ ?side1 ?side2 A3.out).mono ?_);(case side1 => repeat (first|exact HR1.out|(with_reducible refine ca_ ?_ _)|(with_reducible refine cn_ ?_ _)|(with_reducible refine cd_ ?_)));(case side2 => exact HC1.out);rintro e w20 ⟨rfl,hb⟩;refine ⟨_,rfl,?_⟩;have n0_:=mk_ (st_ (qb_ HB) hb);clear HB;have HB:=n0_;clear n0_;(try clear hb);(try clear hb2);(try clear hk);(try clear hi)))
  go_ret
  exact ⟨_,qe_,by first|exact Kd.R_nil _ _ _ _ _|exact Kd.N_nil _ _ _ _ _|exact Kd.V_nil _ _ _ _ _|exact Kd.Q_nil _ _ _ _ _|exact Kd.S_nil _ _ _ _ _,u1_ HB⟩
/-! ### spec_l1In: function 77 -/
def spec_l1In.f (a0 : Int) (a1 : Int) (a2 : Int) : Option (Bool):=if a0 ≥ a1 then (some (decide (a0 ≤ a2))) else (some false)
set_option maxHeartbeats 8000000 in
set_option maxRecDepth 100000 in
theorem spec_l1In.calls (a0 : Int) (a1 : Int) (a2 : Int) (r : Bool) (w : World) (h : spec_l1In.f a0 a1 a2 = some r) :
  Calls Try.prog 77 #[.int .i64 a0,.int .i64 a1,.int .i64 a2] w fun e w' => e = .returned (.bool r) ∧ Drawn0 w w':=by
 have H : (if a0 ≥ a1 then (some (decide (a0 ≤ a2))) else (some false)) = some r:=h
 clear h
 by_cases c4 : a0 ≥ a1
 ·rw [if_pos c4] at H
  have c4b0 : decide (a1 ≤ a0) = true:=decide_eq_true c4
  clear c4
  obtain rfl:=Option.some.inj H
  go_enter Try.func77,Try.ntmps77
  go_wp2
  go_ret
  exact ⟨by first|rfl|(simp;done)|(simp [*];done),by repeat (first|exact Drawn0.refl _|apply Drawn0.step)⟩
 ·rw [if_neg c4] at H
  have c4b0 : decide (a1 ≤ a0) = false:=decide_eq_false c4
  clear c4
  obtain rfl:=Option.some.inj H
  go_enter Try.func77,Try.ntmps77
  go_wp2
  go_ret
  exact ⟨by first|rfl|(simp;done)|(simp [*];done),by repeat (first|exact Drawn0.refl _|apply Drawn0.step)⟩
/-! ### spec_l10Vlan: function 78 -/
def spec_l10Vlan.f (a0 : Int) : Option (Bool):=(spec_l1In.f a0 1 9).bind fun t413 => (some t413)
set_option maxHeartbeats 8000000 in
set_option maxRecDepth 100000 in
theorem spec_l10Vlan.calls (a0 : Int) (r : Bool) (w : World) (h : spec_l10Vlan.f a0 = some r) :
  Calls Try.prog 78 #[.int .i64 a0] w fun e w' => e = .returned (.bool r) ∧ Drawn0 w w':=by
 have H : ((spec_l1In.f a0 1 9).bind fun t413 => (some t413)) = some r:=h
 clear h
 replace H:=Option.bind_eq_some_iff.mp H
 obtain ⟨t413,A20,H⟩:=H
 replace H : (some t413) = some r:=H
 have A2:=mk_ A20
 clear A20
 obtain rfl:=Option.some.inj H
 go_enter Try.func78,Try.ntmps78
 go_wp2_with (first|((with_reducible refine gate_callee (f:=77) rfl ?_);refine goesL_ (some 4) rfl rfl Try.func77 (by kernel_rfl) rfl #[.int .i64 a0,.int .i64 1,.int .i64 9] rfl qm_ ?_;(with_reducible refine (spec_l1In.calls a0 1 9 t413 _ A2.out).mono ?_);rintro e w' ⟨rfl,⟨nd,rfl⟩⟩;refine ⟨_,rfl,?_⟩))
 go_ret
 exact ⟨by first|rfl|(simp;done)|(simp [*];done),by repeat (first|exact Drawn0.refl _|apply Drawn0.step)⟩
/-! ### spec_CablesValid: function 79 -/
mutual
def spec_CablesValid.j0 : Nat → Int → List (S83) → Bool → Option (Bool)
 | 0,_,_,_ => none
 | k + 1,x0,x1,x14 => if x14 = true then (some false) else (spec_CablesValid.l0 k x0 x1 0)
def spec_CablesValid.l0 : Nat → Int → List (S83) → Int → Option (Bool)
 | 0,_,_,_ => none
 | k + 1,x0,x1,x5 => if x5 < (x1.length : Int) then (if 0 ≤ x5 then ((spec_l1In.f ((rd_T83 x1 x5).f0) 0 (wrap64 (x0 - 1))).bind fun t417 => (if t417 = true then ((spec_l1In.f ((rd_T83 x1 x5).f1) 0 (wrap64 (x0 - 1))).bind fun t418 => (if t418 = true then (if ((rd_T83 x1 x5).f0) = ((rd_T83 x1 x5).f1) then (some false) else ((spec_l1In.f ((rd_T83 x1 x5).f2) 1 99).bind fun t419 => (if t419 = true then (spec_CablesValid.l0 k x0 x1 (wrap64 (x5 + 1))) else (some false)))) else (some false))) else (some false))) else (none)) else (some true)
end
def spec_CablesValid.f (k : Nat) (a0 : Int) (l1 : List (S83)) : Option (Bool):=(spec_l1In.f a0 1 8).bind fun t414 => (if t414 = true then (spec_CablesValid.j0 k a0 l1 (decide ((l1.length : Int) > 20))) else (spec_CablesValid.j0 k a0 l1 true))
theorem spec_CablesValid.mono_l : ∀ k,(∀ y0 y1 y2,LeO (spec_CablesValid.j0 k y0 y1 y2) (spec_CablesValid.j0 (k + 1) y0 y1 y2)) ∧ (∀ y0 y1 y2,LeO (spec_CablesValid.l0 k y0 y1 y2) (spec_CablesValid.l0 (k + 1) y0 y1 y2))
 | 0 => ⟨fun _ _ _ r h => by simp [spec_CablesValid.j0] at h,fun _ _ _ r h => by simp [spec_CablesValid.l0] at h⟩
 | k + 1 => by
  obtain ⟨ih0,ih1⟩:=spec_CablesValid.mono_l k
  refine ⟨?_,?_⟩
  ·intro y0 y1 y2
   unfold spec_CablesValid.j0
   repeat' first
   | (with_reducible exact ih0 _ _ _)
   | (with_reducible exact ih1 _ _ _)
   | (with_reducible exact LeO.refl _)
   | (with_reducible exact LeO.none _)
   | (with_reducible refine LeO.ite ?_ ?_)
   | (with_reducible refine LeO.bind ?_ (fun _ => ?_))
   | exact ih0 _ _ _
   | exact ih1 _ _ _
   | exact LeO.none _
   | refine LeO.ite ?_ ?_
   | refine LeO.bind ?_ (fun _ => ?_)
  ·intro y0 y1 y2
   unfold spec_CablesValid.l0
   repeat' first
   | (with_reducible exact ih0 _ _ _)
   | (with_reducible exact ih1 _ _ _)
   | (with_reducible exact LeO.refl _)
   | (with_reducible exact LeO.none _)
   | (with_reducible refine LeO.ite ?_ ?_)
   | (with_reducible refine LeO.bind ?_ (fun _ => ?_))
   | exact ih0 _ _ _
   | exact ih1 _ _ _
   | exact LeO.none _
   | refine LeO.ite ?_ ?_
   | refine LeO.bind ?_ (fun _ => ?_)
theorem spec_CablesValid.mono : ∀ a0 a1 k,LeO (spec_CablesValid.f k a0 a1) (spec_CablesValid.f (k + 1) a0 a1):=by
 intro a0 a1 k
 obtain ⟨ih0,ih1⟩:=spec_CablesValid.mono_l k
 unfold spec_CablesValid.f
 repeat' first
   | (with_reducible exact ih0 _ _ _)
   | (with_reducible exact ih1 _ _ _)
   | (with_reducible exact LeO.refl _)
   | (with_reducible exact LeO.none _)
   | (with_reducible refine LeO.ite ?_ ?_)
   | (with_reducible refine LeO.bind ?_ (fun _ => ?_))
   | exact ih0 _ _ _
   | exact ih1 _ _ _
   | exact LeO.none _
   | refine LeO.ite ?_ ?_
   | refine LeO.bind ?_ (fun _ => ?_)
set_option maxHeartbeats 8000000 in
set_option maxRecDepth 100000 in
theorem spec_CablesValid.calls (k : Nat) (a0 : Int) (A1 : Option Addr) (c1 : Nat) (l1 : List (S83)) (r : Bool) (w : World) (hr1 : Kd.C k83 w A1 l1.length l1) (hc1 : l1.length ≤ c1) (h : spec_CablesValid.f k a0 l1 = some r) :
  Calls Try.prog 79 #[.int .i64 a0,.slice A1 l1.length c1] w fun e w' => e = .returned (.bool r) ∧ Below w.heap.size w w':=by
 have hu83:=Try.underlying83
 have HR1:=mk_ hr1
 have HC1:=mk_ hc1
 clear hr1 hc1
 have HB:=mk_ (Below.refl w.heap.size w)
 have H : ((spec_l1In.f a0 1 8).bind fun t414 => (if t414 = true then (spec_CablesValid.j0 k a0 l1 (decide ((l1.length : Int) > 20))) else (spec_CablesValid.j0 k a0 l1 true))) = some r:=h
 clear h
 have HC3:=mk_ H
 clear H
 go_enter Try.func79,Try.ntmps79
 go_upto_region 1 with (fail)
 go_cut [14] (fun v14 wc => ∃ (kq : Nat) (x14_2 : Bool),v14 = .bool x14_2 ∧ Aside0 (spec_CablesValid.j0 kq a0 l1 x14_2 = some r) ∧ Aside0 (kq ≤ k) ∧ Aside0 (Below w.heap.size w wc))
 case first =>
  have H:=HC3.out
  clear HC3
  replace H:=Option.bind_eq_some_iff.mp H
  obtain ⟨t414,A40,H⟩:=H
  replace H : (if t414 = true then (spec_CablesValid.j0 k a0 l1 (decide ((l1.length : Int) > 20))) else (spec_CablesValid.j0 k a0 l1 true)) = some r:=H
  have A4:=mk_ A40
  clear A40
  by_cases c5 : t414 = true
  ·subst c5
   have H1 : (spec_CablesValid.j0 k a0 l1 (decide ((l1.length : Int) > 20))) = some r:=by rw [if_pos rfl] at H;exact H
   clear H
   have H:=H1
   clear H1
   have H':=mk_ H
   clear H
   go_wp2_with (first|((with_reducible refine gate_callee (f:=77) rfl ?_);refine goesL_ (some 8) rfl rfl Try.func77 (by kernel_rfl) rfl #[.int .i64 a0,.int .i64 1,.int .i64 8] rfl qm_ ?_;(with_reducible refine (spec_l1In.calls a0 1 8 true _ A4.out).mono ?_);rintro e w' ⟨rfl,⟨nd,rfl⟩⟩;refine ⟨_,rfl,?_⟩))
   go_meet
   case rel => exact ⟨_,(decide ((l1.length : Int) > 20)),qf_,H',⟨by first|omega|exact Nat.le_refl _⟩,⟨u1_ HB⟩⟩
  ·replace c5:=Bool.eq_false_iff.mpr c5
   subst c5
   have H1 : (spec_CablesValid.j0 k a0 l1 true) = some r:=by rw [if_neg (show ¬ (false = true) by decide)] at H;exact H
   clear H
   have H:=H1
   clear H1
   have H':=mk_ H
   clear H
   go_wp2_with (first|((with_reducible refine gate_callee (f:=77) rfl ?_);refine goesL_ (some 8) rfl rfl Try.func77 (by kernel_rfl) rfl #[.int .i64 a0,.int .i64 1,.int .i64 8] rfl qm_ ?_;(with_reducible refine (spec_l1In.calls a0 1 8 false _ A4.out).mono ?_);rintro e w' ⟨rfl,⟨nd,rfl⟩⟩;refine ⟨_,rfl,?_⟩))
   go_meet
   case rel => exact ⟨_,(true),qf_,H',⟨by first|omega|exact Nat.le_refl _⟩,⟨u1_ HB⟩⟩
 case rest =>
  clear HC3
  try clear c1
  try clear p2
  try clear c5
  obtain ⟨kq,x14_2,rfl,HA,HJ2,HB⟩:=hcut
  cases kq with
  | zero => exact absurd HA.out (by simp [spec_CablesValid.j0])
  | succ kj2 =>
   have H:=HA.out
   clear HA
   simp only [spec_CablesValid.j0] at H
   by_cases c6 : x14_2 = true
   ·subst c6
    have H1 : (some false) = some r:=by rw [if_pos rfl] at H;exact H
    clear H
    have H:=H1
    clear H1
    obtain rfl:=Option.some.inj H
    go_wp2
    go_ret
    exact ⟨qe_,u1_ HB⟩
   ·replace c6:=Bool.eq_false_iff.mpr c6
    subst c6
    have H1 : (spec_CablesValid.l0 kj2 a0 l1 0) = some r:=by rw [if_neg (show ¬ (false = true) by decide)] at H;exact H
    clear H
    have H:=H1
    clear H1
    have H':=mk_ H
    clear H
    go_wp2
    go_loopg [5] kj2 (fun kq v5 w' => ∃ (x5_2 : Int),v5 = .int .i64 x5_2 ∧ Aside0 (spec_CablesValid.l0 kq a0 l1 x5_2 = some r) ∧ Aside0 (kq ≤ kj2) ∧ Aside0 (Below w.heap.size w w'))
    case atStart => exact ⟨(0),qf_,H',⟨Nat.le_refl _⟩,⟨u1_ HB⟩⟩
    case round =>
     clear H'
     try clear c1
     try clear p2
     try clear c5
     try clear c6
     try clear p2
     obtain ⟨x5_2,rfl,HA,HK2,HB⟩:=hrel
     cases gk with
     | zero => exact absurd HA.out (by simp [spec_CablesValid.l0])
     | succ k2 =>
      have H:=HA.out
      clear HA
      simp only [spec_CablesValid.l0] at H
      by_cases c7 : x5_2 < (l1.length : Int)
      ·rw [if_pos c7] at H
       have c7b0 : decide (x5_2 < (l1.length : Int)) = true:=decide_eq_true c7
       clear c7
       by_cases c8 : 0 ≤ x5_2
       ·rw [if_pos c8] at H
        have c8b0 : decide (0 ≤ x5_2) = true:=decide_eq_true c8
        clear c8
        replace H:=Option.bind_eq_some_iff.mp H
        obtain ⟨t417,A90,H⟩:=H
        replace H : (if t417 = true then ((spec_l1In.f ((rd_T83 l1 x5_2).f1) 0 (wrap64 (a0 - 1))).bind fun t418 => (if t418 = true then (if ((rd_T83 l1 x5_2).f0) = ((rd_T83 l1 x5_2).f1) then (some false) else ((spec_l1In.f ((rd_T83 l1 x5_2).f2) 1 99).bind fun t419 => (if t419 = true then (spec_CablesValid.l0 k2 a0 l1 (wrap64 (x5_2 + 1))) else (some false)))) else (some false))) else (some false)) = some r:=H
        have A9:=mk_ A90
        clear A90
        by_cases c10 : t417 = true
        ·subst c10
         have H1 : ((spec_l1In.f ((rd_T83 l1 x5_2).f1) 0 (wrap64 (a0 - 1))).bind fun t418 => (if t418 = true then (if ((rd_T83 l1 x5_2).f0) = ((rd_T83 l1 x5_2).f1) then (some false) else ((spec_l1In.f ((rd_T83 l1 x5_2).f2) 1 99).bind fun t419 => (if t419 = true then (spec_CablesValid.l0 k2 a0 l1 (wrap64 (x5_2 + 1))) else (some false)))) else (some false))) = some r:=by rw [if_pos rfl] at H;exact H
         clear H
         have H:=H1
         clear H1
         replace H:=Option.bind_eq_some_iff.mp H
         obtain ⟨t418,A110,H⟩:=H
         replace H : (if t418 = true then (if ((rd_T83 l1 x5_2).f0) = ((rd_T83 l1 x5_2).f1) then (some false) else ((spec_l1In.f ((rd_T83 l1 x5_2).f2) 1 99).bind fun t419 => (if t419 = true then (spec_CablesValid.l0 k2 a0 l1 (wrap64 (x5_2 + 1))) else (some false)))) else (some false)) = some r:=H
         have A11:=mk_ A110
         clear A110
         by_cases c12 : t418 = true
         ·subst c12
          have H1 : (if ((rd_T83 l1 x5_2).f0) = ((rd_T83 l1 x5_2).f1) then (some false) else ((spec_l1In.f ((rd_T83 l1 x5_2).f2) 1 99).bind fun t419 => (if t419 = true then (spec_CablesValid.l0 k2 a0 l1 (wrap64 (x5_2 + 1))) else (some false)))) = some r:=by rw [if_pos rfl] at H;exact H
          clear H
          have H:=H1
          clear H1
          by_cases c13 : ((rd_T83 l1 x5_2).f0) = ((rd_T83 l1 x5_2).f1)
          ·rw [if_pos c13] at H
           have c13b0 : (((rd_T83 l1 x5_2).f0) == ((rd_T83 l1 x5_2).f1)) = true:=beq_iff_eq.mpr c13
           have c13b1 : (((rd_T83 l1 x5_2).f0) != ((rd_T83 l1 x5_2).f1)) = false:=bne_eq_false_iff_eq.mpr c13
           clear c13
           obtain rfl:=Option.some.inj H
           have p415 : 0 ≤ (x5_2 : Int):=od_ qa_
           have q415 : x5_2 < (l1.length : Int):=od_ qa_
           obtain ⟨ad415,e415,hx415_0,hx415_1,hx415_2⟩:=at_T83 HR1.out x5_2 p415 q415
           cases e415
           replace hx415_0:=(HB.out.cell (wl_ w _ hx415_0)).trans hx415_0
           replace hx415_1:=(HB.out.cell (wl_ w _ hx415_1)).trans hx415_1
           replace hx415_2:=(HB.out.cell (wl_ w _ hx415_2)).trans hx415_2
           replace p415:=eq_true p415
           replace q415:=eq_true q415
           go_wp2_with (first|((with_reducible refine gate_dst (N:=6) rfl ?_);(try (refine gate_guard (by rfl) ?_;dsimp only));refine box_event ?hg (N:=6) ?hd (cs:=#[.int .i64 0,.int .i64 0,.int .i64 0]) (t:=83) ?hr ?_;(case hd => rfl);(case hg => rfl);(case hr => first|(go_simp;done)|(go_simp;rfl));intro gb416 hg w14 hbox hb;have n0_:=mk_ (st_ (qb_ HB) hb);have n1_:=mk_ (hbox);have n2_:=mk_ ((by rw [hg];exact (bz_ (qb_ HB)) : w.heap.size ≤ gb416));have n3_:=mk_ ((by rw [hg];exact (bz_ (qb_ HB)) : w.heap.size ≤ gb416));clear HB;have HB:=n0_;have BK416:=n1_;have GW416:=n2_;have GE416:=n3_;clear n0_ n1_ n2_ n3_ hb hbox hg;have hcz15_0 : w14.cell? ⟨gb416,0,none⟩ = some (.int .i64 0):=(bc_ BK416.out 0).trans rfl;have hcz15_1 : w14.cell? ⟨gb416,1,none⟩ = some (.int .i64 0):=(bc_ BK416.out 1).trans rfl;have hcz15_2 : w14.cell? ⟨gb416,2,none⟩ = some (.int .i64 0):=(bc_ BK416.out 2).trans rfl;have hfz15_0:=bf_ BK416.out 0;have hfz15_1:=bf_ BK416.out 1;have hfz15_2:=bf_ BK416.out 2)|((with_reducible refine gate_callee (f:=77) rfl ?_);refine goesL_ (some 29) rfl rfl Try.func77 (by kernel_rfl) rfl #[.int .i64 ((rd_T83 l1 x5_2).f0),.int .i64 0,.int .i64 (wrap64 (a0 - 1))] rfl qm_ ?_;(with_reducible refine (spec_l1In.calls ((rd_T83 l1 x5_2).f0) 0 (wrap64 (a0 - 1)) true _ A9.out).mono ?_);rintro e w' ⟨rfl,⟨nd,rfl⟩⟩;refine ⟨_,rfl,?_⟩)|(go_at_call 77;(with_reducible refine (spec_l1In.calls ((rd_T83 l1 x5_2).f1) 0 (wrap64 (a0 - 1)) true _ A11.out).mono ?_);rintro e w' ⟨rfl,⟨nd,rfl⟩⟩))
           go_ret
           exact ⟨qe_,u0_ HB GE416⟩
          ·rw [if_neg c13] at H
           have c13b0 : (((rd_T83 l1 x5_2).f0) == ((rd_T83 l1 x5_2).f1)) = false:=beq_eq_false_iff_ne.mpr c13
           have c13b1 : (((rd_T83 l1 x5_2).f0) != ((rd_T83 l1 x5_2).f1)) = true:=bne_iff_ne.mpr c13
           replace H:=Option.bind_eq_some_iff.mp H
           obtain ⟨t419,A160,H⟩:=H
           replace H : (if t419 = true then (spec_CablesValid.l0 k2 a0 l1 (wrap64 (x5_2 + 1))) else (some false)) = some r:=H
           have A16:=mk_ A160
           clear A160
           by_cases c17 : t419 = true
           ·subst c17
            have H1 : (spec_CablesValid.l0 k2 a0 l1 (wrap64 (x5_2 + 1))) = some r:=by rw [if_pos rfl] at H;exact H
            clear H
            have H:=H1
            clear H1
            have H':=mk_ H
            clear H
            have p415 : 0 ≤ (x5_2 : Int):=od_ qa_
            have q415 : x5_2 < (l1.length : Int):=od_ qa_
            obtain ⟨ad415,e415,hx415_0,hx415_1,hx415_2⟩:=at_T83 HR1.out x5_2 p415 q415
            cases e415
            replace hx415_0:=(HB.out.cell (wl_ w _ hx415_0)).trans hx415_0
            replace hx415_1:=(HB.out.cell (wl_ w _ hx415_1)).trans hx415_1
            replace hx415_2:=(HB.out.cell (wl_ w _ hx415_2)).trans hx415_2
            replace p415:=eq_true p415
            replace q415:=eq_true q415
            go_wp2_with (first|((with_reducible refine gate_dst (N:=6) rfl ?_);(try (refine gate_guard (by rfl) ?_;dsimp only));refine box_event ?hg (N:=6) ?hd (cs:=#[.int .i64 0,.int .i64 0,.int .i64 0]) (t:=83) ?hr ?_;(case hd => rfl);(case hg => rfl);(case hr => first|(go_simp;done)|(go_simp;rfl));intro gb416 hg w18 hbox hb;have n0_:=mk_ (st_ (qb_ HB) hb);have n1_:=mk_ (hbox);have n2_:=mk_ ((by rw [hg];exact (bz_ (qb_ HB)) : w.heap.size ≤ gb416));have n3_:=mk_ ((by rw [hg];exact (bz_ (qb_ HB)) : w.heap.size ≤ gb416));clear HB;have HB:=n0_;have BK416:=n1_;have GW416:=n2_;have GE416:=n3_;clear n0_ n1_ n2_ n3_ hb hbox hg;have hcz19_0 : w18.cell? ⟨gb416,0,none⟩ = some (.int .i64 0):=(bc_ BK416.out 0).trans rfl;have hcz19_1 : w18.cell? ⟨gb416,1,none⟩ = some (.int .i64 0):=(bc_ BK416.out 1).trans rfl;have hcz19_2 : w18.cell? ⟨gb416,2,none⟩ = some (.int .i64 0):=(bc_ BK416.out 2).trans rfl;have hfz19_0:=bf_ BK416.out 0;have hfz19_1:=bf_ BK416.out 1;have hfz19_2:=bf_ BK416.out 2)|((with_reducible refine gate_callee (f:=77) rfl ?_);refine goesL_ (some 29) rfl rfl Try.func77 (by kernel_rfl) rfl #[.int .i64 ((rd_T83 l1 x5_2).f0),.int .i64 0,.int .i64 (wrap64 (a0 - 1))] rfl qm_ ?_;(with_reducible refine (spec_l1In.calls ((rd_T83 l1 x5_2).f0) 0 (wrap64 (a0 - 1)) true _ A9.out).mono ?_);rintro e w' ⟨rfl,⟨nd,rfl⟩⟩;refine ⟨_,rfl,?_⟩)|(go_at_call 77;(with_reducible refine (spec_l1In.calls ((rd_T83 l1 x5_2).f1) 0 (wrap64 (a0 - 1)) true _ A11.out).mono ?_);rintro e w' ⟨rfl,⟨nd,rfl⟩⟩)|(go_at_call 77;(with_reducible refine (spec_l1In.calls ((rd_T83 l1 x5_2).f2) 1 99 true _ A16.out).mono ?_);rintro e w' ⟨rfl,⟨nd,rfl⟩⟩))
            go_roundg k2
            case measure => have:=HJ2.out;have:=HK2.out;omega
            case rel => exact ⟨(wrap64 (x5_2 + 1)),qf_,H',⟨by have:=HJ2.out;have:=HK2.out;omega⟩,⟨u0_ HB GE416⟩⟩
           ·replace c17:=Bool.eq_false_iff.mpr c17
            subst c17
            have H1 : (some false) = some r:=by rw [if_neg (show ¬ (false = true) by decide)] at H;exact H
            clear H
            have H:=H1
            clear H1
            obtain rfl:=Option.some.inj H
            have p415 : 0 ≤ (x5_2 : Int):=od_ qa_
            have q415 : x5_2 < (l1.length : Int):=od_ qa_
            obtain ⟨ad415,e415,hx415_0,hx415_1,hx415_2⟩:=at_T83 HR1.out x5_2 p415 q415
            cases e415
            replace hx415_0:=(HB.out.cell (wl_ w _ hx415_0)).trans hx415_0
            replace hx415_1:=(HB.out.cell (wl_ w _ hx415_1)).trans hx415_1
            replace hx415_2:=(HB.out.cell (wl_ w _ hx415_2)).trans hx415_2
            replace p415:=eq_true p415
            replace q415:=eq_true q415
            go_wp2_with (first|((with_reducible refine gate_dst (N:=6) rfl ?_);(try (refine gate_guard (by rfl) ?_;dsimp only));refine box_event ?hg (N:=6) ?hd (cs:=#[.int .i64 0,.int .i64 0,.int .i64 0]) (t:=83) ?hr ?_;(case hd => rfl);(case hg => rfl);(case hr => first|(go_simp;done)|(go_simp;rfl));intro gb416 hg w20 hbox hb;have n0_:=mk_ (st_ (qb_ HB) hb);have n1_:=mk_ (hbox);have n2_:=mk_ ((by rw [hg];exact (bz_ (qb_ HB)) : w.heap.size ≤ gb416));have n3_:=mk_ ((by rw [hg];exact (bz_ (qb_ HB)) : w.heap.size ≤ gb416));clear HB;have HB:=n0_;have BK416:=n1_;have GW416:=n2_;have GE416:=n3_;clear n0_ n1_ n2_ n3_ hb hbox hg;have hcz21_0 : w20.cell? ⟨gb416,0,none⟩ = some (.int .i64 0):=(bc_ BK416.out 0).trans rfl;have hcz21_1 : w20.cell? ⟨gb416,1,none⟩ = some (.int .i64 0):=(bc_ BK416.out 1).trans rfl;have hcz21_2 : w20.cell? ⟨gb416,2,none⟩ = some (.int .i64 0):=(bc_ BK416.out 2).trans rfl;have hfz21_0:=bf_ BK416.out 0;have hfz21_1:=bf_ BK416.out 1;have hfz21_2:=bf_ BK416.out 2)|((with_reducible refine gate_callee (f:=77) rfl ?_);refine goesL_ (some 29) rfl rfl Try.func77 (by kernel_rfl) rfl #[.int .i64 ((rd_T83 l1 x5_2).f0),.int .i64 0,.int .i64 (wrap64 (a0 - 1))] rfl qm_ ?_;(with_reducible refine (spec_l1In.calls ((rd_T83 l1 x5_2).f0) 0 (wrap64 (a0 - 1)) true _ A9.out).mono ?_);rintro e w' ⟨rfl,⟨nd,rfl⟩⟩;refine ⟨_,rfl,?_⟩)|(go_at_call 77;(with_reducible refine (spec_l1In.calls ((rd_T83 l1 x5_2).f1) 0 (wrap64 (a0 - 1)) true _ A11.out).mono ?_);rintro e w' ⟨rfl,⟨nd,rfl⟩⟩)|(go_at_call 77;(with_reducible refine (spec_l1In.calls ((rd_T83 l1 x5_2).f2) 1 99 false _ A16.out).mono ?_);rintro e w' ⟨rfl,⟨nd,rfl⟩⟩))
            go_ret
            exact ⟨qe_,u0_ HB GE416⟩
         ·replace c12:=Bool.eq_false_iff.mpr c12
          subst c12
          have H1 : (some false) = some r:=by rw [if_neg (show ¬ (false = true) by decide)] at H;exact H
          clear H
          have H:=H1
          clear H1
          obtain rfl:=Option.some.inj H
          have p415 : 0 ≤ (x5_2 : Int):=od_ qa_
          have q415 : x5_2 < (l1.length : Int):=od_ qa_
          obtain ⟨ad415,e415,hx415_0,hx415_1,hx415_2⟩:=at_T83 HR1.out x5_2 p415 q415
          cases e415
          replace hx415_0:=(HB.out.cell (wl_ w _ hx415_0)).trans hx415_0
          replace hx415_1:=(HB.out.cell (wl_ w _ hx415_1)).trans hx415_1
          replace hx415_2:=(HB.out.cell (wl_ w _ hx415_2)).trans hx415_2
          replace p415:=eq_true p415
          replace q415:=eq_true q415
          go_wp2_with (first|((with_reducible refine gate_dst (N:=6) rfl ?_);(try (refine gate_guard (by rfl) ?_;dsimp only));refine box_event ?hg (N:=6) ?hd (cs:=#[.int .i64 0,.int .i64 0,.int .i64 0]) (t:=83) ?hr ?_;(case hd => rfl);(case hg => rfl);(case hr => first|(go_simp;done)|(go_simp;rfl));intro gb416 hg w22 hbox hb;have n0_:=mk_ (st_ (qb_ HB) hb);have n1_:=mk_ (hbox);have n2_:=mk_ ((by rw [hg];exact (bz_ (qb_ HB)) : w.heap.size ≤ gb416));have n3_:=mk_ ((by rw [hg];exact (bz_ (qb_ HB)) : w.heap.size ≤ gb416));clear HB;have HB:=n0_;have BK416:=n1_;have GW416:=n2_;have GE416:=n3_;clear n0_ n1_ n2_ n3_ hb hbox hg;have hcz23_0 : w22.cell? ⟨gb416,0,none⟩ = some (.int .i64 0):=(bc_ BK416.out 0).trans rfl;have hcz23_1 : w22.cell? ⟨gb416,1,none⟩ = some (.int .i64 0):=(bc_ BK416.out 1).trans rfl;have hcz23_2 : w22.cell? ⟨gb416,2,none⟩ = some (.int .i64 0):=(bc_ BK416.out 2).trans rfl;have hfz23_0:=bf_ BK416.out 0;have hfz23_1:=bf_ BK416.out 1;have hfz23_2:=bf_ BK416.out 2)|((with_reducible refine gate_callee (f:=77) rfl ?_);refine goesL_ (some 29) rfl rfl Try.func77 (by kernel_rfl) rfl #[.int .i64 ((rd_T83 l1 x5_2).f0),.int .i64 0,.int .i64 (wrap64 (a0 - 1))] rfl qm_ ?_;(with_reducible refine (spec_l1In.calls ((rd_T83 l1 x5_2).f0) 0 (wrap64 (a0 - 1)) true _ A9.out).mono ?_);rintro e w' ⟨rfl,⟨nd,rfl⟩⟩;refine ⟨_,rfl,?_⟩)|(go_at_call 77;(with_reducible refine (spec_l1In.calls ((rd_T83 l1 x5_2).f1) 0 (wrap64 (a0 - 1)) false _ A11.out).mono ?_);rintro e w' ⟨rfl,⟨nd,rfl⟩⟩))
          go_ret
          exact ⟨qe_,u0_ HB GE416⟩
        ·replace c10:=Bool.eq_false_iff.mpr c10
         subst c10
         have H1 : (some false) = some r:=by rw [if_neg (show ¬ (false = true) by decide)] at H;exact H
         clear H
         have H:=H1
         clear H1
         obtain rfl:=Option.some.inj H
         have p415 : 0 ≤ (x5_2 : Int):=od_ qa_
         have q415 : x5_2 < (l1.length : Int):=od_ qa_
         obtain ⟨ad415,e415,hx415_0,hx415_1,hx415_2⟩:=at_T83 HR1.out x5_2 p415 q415
         cases e415
         replace hx415_0:=(HB.out.cell (wl_ w _ hx415_0)).trans hx415_0
         replace hx415_1:=(HB.out.cell (wl_ w _ hx415_1)).trans hx415_1
         replace hx415_2:=(HB.out.cell (wl_ w _ hx415_2)).trans hx415_2
         replace p415:=eq_true p415
         replace q415:=eq_true q415
         go_wp2_with (first|((with_reducible refine gate_dst (N:=6) rfl ?_);(try (refine gate_guard (by rfl) ?_;dsimp only));refine box_event ?hg (N:=6) ?hd (cs:=#[.int .i64 0,.int .i64 0,.int .i64 0]) (t:=83) ?hr ?_;(case hd => rfl);(case hg => rfl);(case hr => first|(go_simp;done)|(go_simp;rfl));intro gb416 hg w24 hbox hb;have n0_:=mk_ (st_ (qb_ HB) hb);have n1_:=mk_ (hbox);have n2_:=mk_ ((by rw [hg];exact (bz_ (qb_ HB)) : w.heap.size ≤ gb416));have n3_:=mk_ ((by rw [hg];exact (bz_ (qb_ HB)) : w.heap.size ≤ gb416));clear HB;have HB:=n0_;have BK416:=n1_;have GW416:=n2_;have GE416:=n3_;clear n0_ n1_ n2_ n3_ hb hbox hg;have hcz25_0 : w24.cell? ⟨gb416,0,none⟩ = some (.int .i64 0):=(bc_ BK416.out 0).trans rfl;have hcz25_1 : w24.cell? ⟨gb416,1,none⟩ = some (.int .i64 0):=(bc_ BK416.out 1).trans rfl;have hcz25_2 : w24.cell? ⟨gb416,2,none⟩ = some (.int .i64 0):=(bc_ BK416.out 2).trans rfl;have hfz25_0:=bf_ BK416.out 0;have hfz25_1:=bf_ BK416.out 1;have hfz25_2:=bf_ BK416.out 2)|((with_reducible refine gate_callee (f:=77) rfl ?_);refine goesL_ (some 29) rfl rfl Try.func77 (by kernel_rfl) rfl #[.int .i64 ((rd_T83 l1 x5_2).f0),.int .i64 0,.int .i64 (wrap64 (a0 - 1))] rfl qm_ ?_;(with_reducible refine (spec_l1In.calls ((rd_T83 l1 x5_2).f0) 0 (wrap64 (a0 - 1)) false _ A9.out).mono ?_);rintro e w' ⟨rfl,⟨nd,rfl⟩⟩;refine ⟨_,rfl,?_⟩))
         go_ret
         exact ⟨qe_,u0_ HB GE416⟩
       ·rw [if_neg c8] at H
        exact absurd H (by simp)
      ·rw [if_neg c7] at H
       have c7b0 : decide (x5_2 < (l1.length : Int)) = false:=decide_eq_false c7
       clear c7
       obtain rfl:=Option.some.inj H
       go_wp2
       go_ret
       exact ⟨qe_,u1_ HB⟩
/-! ### spec_NetValid: function 38 -/
mutual
def spec_NetValid.l0 : Nat → Int → Int → List (S83) → List Int → List Int → Option (Bool)
 | 0,_,_,_,_,_ => none
 | k + 1,x3,z0_,z1_,z2_,z3_ => if x3 < (z2_.length : Int) then (if 0 ≤ x3 then ((spec_l1In.f (rd z2_ x3) 0 (wrap64 (z0_ - 1))).bind fun t422 => (if t422 = true then (spec_NetValid.l0 k (wrap64 (x3 + 1)) z0_ z1_ z2_ z3_) else (some false))) else (none)) else (spec_NetValid.l1 k 0 z0_ z1_ z2_ z3_)
def spec_NetValid.l1 : Nat → Int → Int → List (S83) → List Int → List Int → Option (Bool)
 | 0,_,_,_,_,_ => none
 | k + 1,x4,z0_,z1_,z2_,z3_ => if x4 < (z3_.length : Int) then (if 0 ≤ x4 then ((spec_l10Vlan.f (rd z3_ x4)).bind fun t424 => (if t424 = true then (spec_NetValid.l1 k (wrap64 (x4 + 1)) z0_ z1_ z2_ z3_) else (some false))) else (none)) else ((spec_CablesValid.f k z0_ z1_).bind fun t425 => (if t425 = true then (if (z2_.length : Int) = (z3_.length : Int) then (some (decide ((z2_.length : Int) ≤ 15))) else (some false)) else (some false)))
end
def spec_NetValid.f (k : Nat) (a0_0 : Int) (l0_1 : List (S83)) (l0_2 : List Int) (l0_3 : List Int) : Option (Bool):=spec_NetValid.l0 k 0 a0_0 l0_1 l0_2 l0_3
theorem spec_NetValid.mono_l : ∀ k,(∀ y0 y1 y2 y3 y4,LeO (spec_NetValid.l0 k y0 y1 y2 y3 y4) (spec_NetValid.l0 (k + 1) y0 y1 y2 y3 y4)) ∧ (∀ y0 y1 y2 y3 y4,LeO (spec_NetValid.l1 k y0 y1 y2 y3 y4) (spec_NetValid.l1 (k + 1) y0 y1 y2 y3 y4))
 | 0 => ⟨fun _ _ _ _ _ r h => by simp [spec_NetValid.l0] at h,fun _ _ _ _ _ r h => by simp [spec_NetValid.l1] at h⟩
 | k + 1 => by
  obtain ⟨ih0,ih1⟩:=spec_NetValid.mono_l k
  refine ⟨?_,?_⟩
  ·intro y0 y1 y2 y3 y4
   unfold spec_NetValid.l0
   repeat' first
   | (with_reducible exact ih0 _ _ _ _ _)
   | (with_reducible exact ih1 _ _ _ _ _)
   | (with_reducible exact spec_CablesValid.mono _ _ _)
   | (with_reducible exact LeO.refl _)
   | (with_reducible exact LeO.none _)
   | (with_reducible refine LeO.ite ?_ ?_)
   | (with_reducible refine LeO.bind ?_ (fun _ => ?_))
   | exact ih0 _ _ _ _ _
   | exact ih1 _ _ _ _ _
   | exact spec_CablesValid.mono _ _ _
   | exact LeO.none _
   | refine LeO.ite ?_ ?_
   | refine LeO.bind ?_ (fun _ => ?_)
  ·intro y0 y1 y2 y3 y4
   unfold spec_NetValid.l1
   repeat' first
   | (with_reducible exact ih0 _ _ _ _ _)
   | (with_reducible exact ih1 _ _ _ _ _)
   | (with_reducible exact spec_CablesValid.mono _ _ _)
   | (with_reducible exact LeO.refl _)
   | (with_reducible exact LeO.none _)
   | (with_reducible refine LeO.ite ?_ ?_)
   | (with_reducible refine LeO.bind ?_ (fun _ => ?_))
   | exact ih0 _ _ _ _ _
   | exact ih1 _ _ _ _ _
   | exact spec_CablesValid.mono _ _ _
   | exact LeO.none _
   | refine LeO.ite ?_ ?_
   | refine LeO.bind ?_ (fun _ => ?_)
theorem spec_NetValid.mono : ∀ a0 a1 a2 a3 k,LeO (spec_NetValid.f k a0 a1 a2 a3) (spec_NetValid.f (k + 1) a0 a1 a2 a3):=by
 intro a0 a1 a2 a3 k
 obtain ⟨ih0,ih1⟩:=spec_NetValid.mono_l k
 unfold spec_NetValid.f
 repeat' first
   | (with_reducible exact ih0 _ _ _ _ _)
   | (with_reducible exact ih1 _ _ _ _ _)
   | (with_reducible exact spec_CablesValid.mono _ _ _)
   | (with_reducible exact LeO.refl _)
   | (with_reducible exact LeO.none _)
   | (with_reducible refine LeO.ite ?_ ?_)
   | (with_reducible refine LeO.bind ?_ (fun _ => ?_))
   | exact ih0 _ _ _ _ _
   | exact ih1 _ _ _ _ _
   | exact spec_CablesValid.mono _ _ _
   | exact LeO.none _
   | refine LeO.ite ?_ ?_
   | refine LeO.bind ?_ (fun _ => ?_)
set_option maxHeartbeats 8000000 in
set_option maxRecDepth 100000 in
theorem spec_NetValid.calls (k : Nat) (a0_0 : Int) (A0_1 : Option Addr) (c0_1 : Nat) (l0_1 : List (S83)) (A0_2 : Option Addr) (c0_2 : Nat) (l0_2 : List Int) (A0_3 : Option Addr) (c0_3 : Nat) (l0_3 : List Int) (r : Bool) (w : World) (hr0_1 : Kd.C k83 w A0_1 l0_1.length l0_1) (hc0_1 : l0_1.length ≤ c0_1) (hr0_2 : Kd.C (Kd.int .i64) w A0_2 l0_2.length l0_2) (hc0_2 : l0_2.length ≤ c0_2) (hr0_3 : Kd.C (Kd.int .i64) w A0_3 l0_3.length l0_3) (hc0_3 : l0_3.length ≤ c0_3) (h : spec_NetValid.f k a0_0 l0_1 l0_2 l0_3 = some r) :
  Calls Try.prog 38 #[.agg #[.int .i64 a0_0,.slice A0_1 l0_1.length c0_1,.slice A0_2 l0_2.length c0_2,.slice A0_3 l0_3.length c0_3]] w fun e w' => e = .returned (.bool r) ∧ Below w.heap.size w w':=by
 have hu26:=Try.underlying26
 have HR0_1:=mk_ hr0_1
 have HC0_1:=mk_ hc0_1
 clear hr0_1 hc0_1
 have HR0_2:=mk_ hr0_2
 have HC0_2:=mk_ hc0_2
 clear hr0_2 hc0_2
 have HR0_3:=mk_ hr0_3
 have HC0_3:=mk_ hc0_3
 clear hr0_3 hc0_3
 have HB:=mk_ (Below.refl w.heap.size w)
 have H : (spec_NetValid.l0 k 0 a0_0 l0_1 l0_2 l0_3) = some r:=h
 clear h
 have H':=mk_ H
 clear H
 go_enter Try.func38,Try.ntmps38
 go_wp2_with (first|((with_reducible refine gate_dst (N:=1) rfl ?_);(try (refine gate_guard (by rfl) ?_;dsimp only));refine box_event ?hg (N:=1) ?hd (cs:=#[.int .i64 a0_0,.slice A0_1 l0_1.length c0_1,.slice A0_2 l0_2.length c0_2,.slice A0_3 l0_3.length c0_3]) (t:=26) ?hr ?_;(case hd => rfl);(case hg => rfl);(case hr => first|(go_simp;done)|(go_simp;rfl));intro gb420 hg w2 hbox hb;have n0_:=mk_ (st_ (qb_ HB) hb);have n1_:=mk_ (hbox);have n2_:=mk_ ((by rw [hg];exact (bz_ (qb_ HB)) : w.heap.size ≤ gb420));have n3_:=mk_ ((by rw [hg];exact (bz_ (qb_ HB)) : w.heap.size ≤ gb420));clear HB;have HB:=n0_;have BK420:=n1_;have GW420:=n2_;have GE420:=n3_;clear n0_ n1_ n2_ n3_ hb hbox hg))
 repeat (go_quiet (first|((with_reducible refine gate_dst (N:=1) rfl ?_);(try (refine gate_guard (by rfl) ?_;dsimp only));refine box_event ?hg (N:=1) ?hd (cs:=#[.int .i64 a0_0,.slice A0_1 l0_1.length c0_1,.slice A0_2 l0_2.length c0_2,.slice A0_3 l0_3.length c0_3]) (t:=26) ?hr ?_;(case hd => rfl);(case hg => rfl);(case hr => first|(go_simp;done)|(go_simp;rfl));intro gb420 hg w2 hbox hb;have n0_:=mk_ (st_ (qb_ HB) hb);have n1_:=mk_ (hbox);have n2_:=mk_ ((by rw [hg];exact (bz_ (qb_ HB)) : w.heap.size ≤ gb420));have n3_:=mk_ ((by rw [hg];exact (bz_ (qb_ HB)) : w.heap.size ≤ gb420));clear HB;have HB:=n0_;have BK420:=n1_;have GW420:=n2_;have GE420:=n3_;clear n0_ n1_ n2_ n3_ hb hbox hg));try go_wp2_with (first|((with_reducible refine gate_dst (N:=1) rfl ?_);(try (refine gate_guard (by rfl) ?_;dsimp only));refine box_event ?hg (N:=1) ?hd (cs:=#[.int .i64 a0_0,.slice A0_1 l0_1.length c0_1,.slice A0_2 l0_2.length c0_2,.slice A0_3 l0_3.length c0_3]) (t:=26) ?hr ?_;(case hd => rfl);(case hg => rfl);(case hr => first|(go_simp;done)|(go_simp;rfl));intro gb420 hg w2 hbox hb;have n0_:=mk_ (st_ (qb_ HB) hb);have n1_:=mk_ (hbox);have n2_:=mk_ ((by rw [hg];exact (bz_ (qb_ HB)) : w.heap.size ≤ gb420));have n3_:=mk_ ((by rw [hg];exact (bz_ (qb_ HB)) : w.heap.size ≤ gb420));clear HB;have HB:=n0_;have BK420:=n1_;have GW420:=n2_;have GE420:=n3_;clear n0_ n1_ n2_ n3_ hb hbox hg)))
 go_loopg [3] k (fun kq v3 w' => ∃ (x3_1 : Int),v3 = .int .i64 x3_1 ∧ Aside0 (spec_NetValid.l0 kq x3_1 a0_0 l0_1 l0_2 l0_3 = some r) ∧ Aside0 (kq ≤ k) ∧ Aside0 (w'.heap[gb420]? = some (.cells #[.int .i64 a0_0,(.slice A0_1 l0_1.length c0_1),(.slice A0_2 l0_2.length c0_2),(.slice A0_3 l0_3.length c0_3)] 26 (0,0))) ∧ Aside0 (Below w.heap.size w w'))
 case atStart => exact ⟨(0),qf_,H',⟨Nat.le_refl _⟩,⟨qk_ BK420⟩,⟨u0_ HB GE420⟩⟩
 case round =>
  clear H'
  try clear p2
  obtain ⟨x3_1,rfl,HA,HK1,BK420,HB⟩:=hrel
  cases gk with
  | zero => exact absurd HA.out (by simp [spec_NetValid.l0])
  | succ k1 =>
   have H:=HA.out
   clear HA
   simp only [spec_NetValid.l0] at H
   by_cases c3 : x3_1 < (l0_2.length : Int)
   ·rw [if_pos c3] at H
    have c3b0 : decide (x3_1 < (l0_2.length : Int)) = true:=decide_eq_true c3
    clear c3
    by_cases c4 : 0 ≤ x3_1
    ·rw [if_pos c4] at H
     have c4b0 : decide (0 ≤ x3_1) = true:=decide_eq_true c4
     clear c4
     replace H:=Option.bind_eq_some_iff.mp H
     obtain ⟨t422,A50,H⟩:=H
     replace H : (if t422 = true then (spec_NetValid.l0 k1 (wrap64 (x3_1 + 1)) a0_0 l0_1 l0_2 l0_3) else (some false)) = some r:=H
     have A5:=mk_ A50
     clear A50
     by_cases c6 : t422 = true
     ·subst c6
      have H1 : (spec_NetValid.l0 k1 (wrap64 (x3_1 + 1)) a0_0 l0_1 l0_2 l0_3) = some r:=by rw [if_pos rfl] at H;exact H
      clear H
      have H:=H1
      clear H1
      have H':=mk_ H
      clear H
      have hcz7_0 : wr.cell? ⟨gb420,0,none⟩ = some (.int .i64 a0_0):=(bc_ BK420.out 0).trans rfl
      have hcz7_1 : wr.cell? ⟨gb420,1,none⟩ = some (.slice A0_1 l0_1.length c0_1):=(bc_ BK420.out 1).trans rfl
      have hcz7_2 : wr.cell? ⟨gb420,2,none⟩ = some (.slice A0_2 l0_2.length c0_2):=(bc_ BK420.out 2).trans rfl
      have hcz7_3 : wr.cell? ⟨gb420,3,none⟩ = some (.slice A0_3 l0_3.length c0_3):=(bc_ BK420.out 3).trans rfl
      have hfz7_0:=bf_ BK420.out 0
      have hfz7_1:=bf_ BK420.out 1
      have hfz7_2:=bf_ BK420.out 2
      have hfz7_3:=bf_ BK420.out 3
      have p421 : 0 ≤ (x3_1 : Int):=od_ qa_
      have q421 : x3_1 < (l0_2.length : Int):=od_ qa_
      obtain ⟨ad421,e421,hx421_0⟩:=Kd.at_int HR0_2.out x3_1 p421 q421
      cases e421
      replace hx421_0:=(HB.out.cell (wl_ w _ hx421_0)).trans hx421_0
      replace p421:=eq_true p421
      replace q421:=eq_true q421
      go_wp2_with (first|(go_at_call 77;(with_reducible refine (spec_l1In.calls (rd l0_2 x3_1) 0 (wrap64 (a0_0 - 1)) true _ A5.out).mono ?_);rintro e w' ⟨rfl,⟨nd,rfl⟩⟩;(try first|exact ⟨rfl,_,World.drewN_drewN _ _ _⟩|exact ⟨rfl,_,Eq.trans (World.drewN_drewN _ _ _) (congrArg (World.drewN _) (Nat.add_assoc _ _ _))⟩)))
      repeat (go_quiet (first|(go_at_call 77;(with_reducible refine (spec_l1In.calls (rd l0_2 x3_1) 0 (wrap64 (a0_0 - 1)) true _ A5.out).mono ?_);rintro e w' ⟨rfl,⟨nd,rfl⟩⟩;(try first|exact ⟨rfl,_,World.drewN_drewN _ _ _⟩|exact ⟨rfl,_,Eq.trans (World.drewN_drewN _ _ _) (congrArg (World.drewN _) (Nat.add_assoc _ _ _))⟩)));try go_wp2_with (first|(go_at_call 77;(with_reducible refine (spec_l1In.calls (rd l0_2 x3_1) 0 (wrap64 (a0_0 - 1)) true _ A5.out).mono ?_);rintro e w' ⟨rfl,⟨nd,rfl⟩⟩;(try first|exact ⟨rfl,_,World.drewN_drewN _ _ _⟩|exact ⟨rfl,_,Eq.trans (World.drewN_drewN _ _ _) (congrArg (World.drewN _) (Nat.add_assoc _ _ _))⟩))))
      go_roundg k1
      case measure => have:=HK1.out;omega
      case rel => exact ⟨(wrap64 (x3_1 + 1)),qf_,H',⟨by have:=HK1.out;omega⟩,⟨qk_ BK420⟩,⟨u0_ HB GE420⟩⟩
     ·replace c6:=Bool.eq_false_iff.mpr c6
      subst c6
      have H1 : (some false) = some r:=by rw [if_neg (show ¬ (false = true) by decide)] at H;exact H
      clear H
      have H:=H1
      clear H1
      obtain rfl:=Option.some.inj H
      have hcz8_0 : wr.cell? ⟨gb420,0,none⟩ = some (.int .i64 a0_0):=(bc_ BK420.out 0).trans rfl
      have hcz8_1 : wr.cell? ⟨gb420,1,none⟩ = some (.slice A0_1 l0_1.length c0_1):=(bc_ BK420.out 1).trans rfl
      have hcz8_2 : wr.cell? ⟨gb420,2,none⟩ = some (.slice A0_2 l0_2.length c0_2):=(bc_ BK420.out 2).trans rfl
      have hcz8_3 : wr.cell? ⟨gb420,3,none⟩ = some (.slice A0_3 l0_3.length c0_3):=(bc_ BK420.out 3).trans rfl
      have hfz8_0:=bf_ BK420.out 0
      have hfz8_1:=bf_ BK420.out 1
      have hfz8_2:=bf_ BK420.out 2
      have hfz8_3:=bf_ BK420.out 3
      have p421 : 0 ≤ (x3_1 : Int):=od_ qa_
      have q421 : x3_1 < (l0_2.length : Int):=od_ qa_
      obtain ⟨ad421,e421,hx421_0⟩:=Kd.at_int HR0_2.out x3_1 p421 q421
      cases e421
      replace hx421_0:=(HB.out.cell (wl_ w _ hx421_0)).trans hx421_0
      replace p421:=eq_true p421
      replace q421:=eq_true q421
      go_wp2_with (first|(go_at_call 77;(with_reducible refine (spec_l1In.calls (rd l0_2 x3_1) 0 (wrap64 (a0_0 - 1)) false _ A5.out).mono ?_);rintro e w' ⟨rfl,⟨nd,rfl⟩⟩;(try first|exact ⟨rfl,_,World.drewN_drewN _ _ _⟩|exact ⟨rfl,_,Eq.trans (World.drewN_drewN _ _ _) (congrArg (World.drewN _) (Nat.add_assoc _ _ _))⟩)))
      repeat (go_quiet (first|(go_at_call 77;(with_reducible refine (spec_l1In.calls (rd l0_2 x3_1) 0 (wrap64 (a0_0 - 1)) false _ A5.out).mono ?_);rintro e w' ⟨rfl,⟨nd,rfl⟩⟩;(try first|exact ⟨rfl,_,World.drewN_drewN _ _ _⟩|exact ⟨rfl,_,Eq.trans (World.drewN_drewN _ _ _) (congrArg (World.drewN _) (Nat.add_assoc _ _ _))⟩)));try go_wp2_with (first|(go_at_call 77;(with_reducible refine (spec_l1In.calls (rd l0_2 x3_1) 0 (wrap64 (a0_0 - 1)) false _ A5.out).mono ?_);rintro e w' ⟨rfl,⟨nd,rfl⟩⟩;(try first|exact ⟨rfl,_,World.drewN_drewN _ _ _⟩|exact ⟨rfl,_,Eq.trans (World.drewN_drewN _ _ _) (congrArg (World.drewN _) (Nat.add_assoc _ _ _))⟩))))
      go_ret
      exact ⟨qe_,u0_ HB GE420⟩
    ·rw [if_neg c4] at H
     exact absurd H (by simp)
   ·rw [if_neg c3] at H
    have c3b0 : decide (x3_1 < (l0_2.length : Int)) = false:=decide_eq_false c3
    clear c3
    have H':=mk_ H
    clear H
    have hcz9_0 : wr.cell? ⟨gb420,0,none⟩ = some (.int .i64 a0_0):=(bc_ BK420.out 0).trans rfl
    have hcz9_1 : wr.cell? ⟨gb420,1,none⟩ = some (.slice A0_1 l0_1.length c0_1):=(bc_ BK420.out 1).trans rfl
    have hcz9_2 : wr.cell? ⟨gb420,2,none⟩ = some (.slice A0_2 l0_2.length c0_2):=(bc_ BK420.out 2).trans rfl
    have hcz9_3 : wr.cell? ⟨gb420,3,none⟩ = some (.slice A0_3 l0_3.length c0_3):=(bc_ BK420.out 3).trans rfl
    have hfz9_0:=bf_ BK420.out 0
    have hfz9_1:=bf_ BK420.out 1
    have hfz9_2:=bf_ BK420.out 2
    have hfz9_3:=bf_ BK420.out 3
    go_wp2
    repeat (go_quiet (fail);try go_wp2)
    go_loopg [4] k1 (fun kq v4 w' => ∃ (x4_2 : Int),v4 = .int .i64 x4_2 ∧ Aside0 (spec_NetValid.l1 kq x4_2 a0_0 l0_1 l0_2 l0_3 = some r) ∧ Aside0 (kq ≤ k1) ∧ Aside0 (w'.heap[gb420]? = some (.cells #[.int .i64 a0_0,(.slice A0_1 l0_1.length c0_1),(.slice A0_2 l0_2.length c0_2),(.slice A0_3 l0_3.length c0_3)] 26 (0,0))) ∧ Aside0 (Below w.heap.size w w'))
    case atStart => exact ⟨(0),qf_,H',⟨Nat.le_refl _⟩,⟨qk_ BK420⟩,⟨u0_ HB GE420⟩⟩
    case round =>
     clear H'
     try clear p2
     try clear c3
     try clear c3b0
     try clear c4
     try clear c4b0
     try clear p4
     try clear q4
     try clear hx4
     try clear c6
     try clear p6
     try clear hcz7_0
     try clear hcz7_1
     try clear hcz7_2
     try clear hcz7_3
     try clear hcz8_0
     try clear hcz8_1
     try clear hcz8_2
     try clear hcz8_3
     try clear hcz9_0
     try clear hcz9_1
     try clear hcz9_2
     try clear hcz9_3
     try clear hfz7_0
     try clear hfz7_1
     try clear hfz7_2
     try clear hfz7_3
     try clear hfz8_0
     try clear hfz8_1
     try clear hfz8_2
     try clear hfz8_3
     try clear hfz9_0
     try clear hfz9_1
     try clear hfz9_2
     try clear hfz9_3
     try clear hx421_0
     try clear p2
     try clear p421
     try clear q421
     obtain ⟨x4_2,rfl,HA,HK2,BK420,HB⟩:=hrel
     cases gk with
     | zero => exact absurd HA.out (by simp [spec_NetValid.l1])
     | succ k2 =>
      have H:=HA.out
      clear HA
      simp only [spec_NetValid.l1] at H
      by_cases c10 : x4_2 < (l0_3.length : Int)
      ·rw [if_pos c10] at H
       have c10b0 : decide (x4_2 < (l0_3.length : Int)) = true:=decide_eq_true c10
       clear c10
       by_cases c11 : 0 ≤ x4_2
       ·rw [if_pos c11] at H
        have c11b0 : decide (0 ≤ x4_2) = true:=decide_eq_true c11
        clear c11
        replace H:=Option.bind_eq_some_iff.mp H
        obtain ⟨t424,A120,H⟩:=H
        replace H : (if t424 = true then (spec_NetValid.l1 k2 (wrap64 (x4_2 + 1)) a0_0 l0_1 l0_2 l0_3) else (some false)) = some r:=H
        have A12:=mk_ A120
        clear A120
        by_cases c13 : t424 = true
        ·subst c13
         have H1 : (spec_NetValid.l1 k2 (wrap64 (x4_2 + 1)) a0_0 l0_1 l0_2 l0_3) = some r:=by rw [if_pos rfl] at H;exact H
         clear H
         have H:=H1
         clear H1
         have H':=mk_ H
         clear H
         have hcz14_0 : wr.cell? ⟨gb420,0,none⟩ = some (.int .i64 a0_0):=(bc_ BK420.out 0).trans rfl
         have hcz14_1 : wr.cell? ⟨gb420,1,none⟩ = some (.slice A0_1 l0_1.length c0_1):=(bc_ BK420.out 1).trans rfl
         have hcz14_2 : wr.cell? ⟨gb420,2,none⟩ = some (.slice A0_2 l0_2.length c0_2):=(bc_ BK420.out 2).trans rfl
         have hcz14_3 : wr.cell? ⟨gb420,3,none⟩ = some (.slice A0_3 l0_3.length c0_3):=(bc_ BK420.out 3).trans rfl
         have hfz14_0:=bf_ BK420.out 0
         have hfz14_1:=bf_ BK420.out 1
         have hfz14_2:=bf_ BK420.out 2
         have hfz14_3:=bf_ BK420.out 3
         have p423 : 0 ≤ (x4_2 : Int):=od_ qa_
         have q423 : x4_2 < (l0_3.length : Int):=od_ qa_
         obtain ⟨ad423,e423,hx423_0⟩:=Kd.at_int HR0_3.out x4_2 p423 q423
         cases e423
         replace hx423_0:=(HB.out.cell (wl_ w _ hx423_0)).trans hx423_0
         replace p423:=eq_true p423
         replace q423:=eq_true q423
         go_wp2_with (first|(go_at_call 78;(with_reducible refine (spec_l10Vlan.calls (rd l0_3 x4_2) true _ A12.out).mono ?_);rintro e w' ⟨rfl,⟨nd,rfl⟩⟩;(try first|exact ⟨rfl,_,World.drewN_drewN _ _ _⟩|exact ⟨rfl,_,Eq.trans (World.drewN_drewN _ _ _) (congrArg (World.drewN _) (Nat.add_assoc _ _ _))⟩)))
         repeat (go_quiet (first|(go_at_call 78;(with_reducible refine (spec_l10Vlan.calls (rd l0_3 x4_2) true _ A12.out).mono ?_);rintro e w' ⟨rfl,⟨nd,rfl⟩⟩;(try first|exact ⟨rfl,_,World.drewN_drewN _ _ _⟩|exact ⟨rfl,_,Eq.trans (World.drewN_drewN _ _ _) (congrArg (World.drewN _) (Nat.add_assoc _ _ _))⟩)));try go_wp2_with (first|(go_at_call 78;(with_reducible refine (spec_l10Vlan.calls (rd l0_3 x4_2) true _ A12.out).mono ?_);rintro e w' ⟨rfl,⟨nd,rfl⟩⟩;(try first|exact ⟨rfl,_,World.drewN_drewN _ _ _⟩|exact ⟨rfl,_,Eq.trans (World.drewN_drewN _ _ _) (congrArg (World.drewN _) (Nat.add_assoc _ _ _))⟩))))
         go_roundg k2
         case measure => have:=HK1.out;have:=HK2.out;omega
         case rel => exact ⟨(wrap64 (x4_2 + 1)),qf_,H',⟨by have:=HK1.out;have:=HK2.out;omega⟩,⟨qk_ BK420⟩,⟨u0_ HB GE420⟩⟩
        ·replace c13:=Bool.eq_false_iff.mpr c13
         subst c13
         have H1 : (some false) = some r:=by rw [if_neg (show ¬ (false = true) by decide)] at H;exact H
         clear H
         have H:=H1
         clear H1
         obtain rfl:=Option.some.inj H
         have hcz15_0 : wr.cell? ⟨gb420,0,none⟩ = some (.int .i64 a0_0):=(bc_ BK420.out 0).trans rfl
         have hcz15_1 : wr.cell? ⟨gb420,1,none⟩ = some (.slice A0_1 l0_1.length c0_1):=(bc_ BK420.out 1).trans rfl
         have hcz15_2 : wr.cell? ⟨gb420,2,none⟩ = some (.slice A0_2 l0_2.length c0_2):=(bc_ BK420.out 2).trans rfl
         have hcz15_3 : wr.cell? ⟨gb420,3,none⟩ = some (.slice A0_3 l0_3.length c0_3):=(bc_ BK420.out 3).trans rfl
         have hfz15_0:=bf_ BK420.out 0
         have hfz15_1:=bf_ BK420.out 1
         have hfz15_2:=bf_ BK420.out 2
         have hfz15_3:=bf_ BK420.out 3
         have p423 : 0 ≤ (x4_2 : Int):=od_ qa_
         have q423 : x4_2 < (l0_3.length : Int):=od_ qa_
         obtain ⟨ad423,e423,hx423_0⟩:=Kd.at_int HR0_3.out x4_2 p423 q423
         cases e423
         replace hx423_0:=(HB.out.cell (wl_ w _ hx423_0)).trans hx423_0
         replace p423:=eq_true p423
         replace q423:=eq_true q423
         go_wp2_with (first|(go_at_call 78;(with_reducible refine (spec_l10Vlan.calls (rd l0_3 x4_2) false _ A12.out).mono ?_);rintro e w' ⟨rfl,⟨nd,rfl⟩⟩;(try first|exact ⟨rfl,_,World.drewN_drewN _ _ _⟩|exact ⟨rfl,_,Eq.trans (World.drewN_drewN _ _ _) (congrArg (World.drewN _) (Nat.add_assoc _ _ _))⟩)))
         repeat (go_quiet (first|(go_at_call 78;(with_reducible refine (spec_l10Vlan.calls (rd l0_3 x4_2) false _ A12.out).mono ?_);rintro e w' ⟨rfl,⟨nd,rfl⟩⟩;(try first|exact ⟨rfl,_,World.drewN_drewN _ _ _⟩|exact ⟨rfl,_,Eq.trans (World.drewN_drewN _ _ _) (congrArg (World.drewN _) (Nat.add_assoc _ _ _))⟩)));try go_wp2_with (first|(go_at_call 78;(with_reducible refine (spec_l10Vlan.calls (rd l0_3 x4_2) false _ A12.out).mono ?_);rintro e w' ⟨rfl,⟨nd,rfl⟩⟩;(try first|exact ⟨rfl,_,World.drewN_drewN _ _ _⟩|exact ⟨rfl,_,Eq.trans (World.drewN_drewN _ _ _) (congrArg (World.drewN _) (Nat.add_assoc _ _ _))⟩))))
         go_ret
         exact ⟨qe_,u0_ HB GE420⟩
       ·rw [if_neg c11] at H
        exact absurd H (by simp)
      ·rw [if_neg c10] at H
       have c10b0 : decide (x4_2 < (l0_3.length : Int)) = false:=decide_eq_false c10
       clear c10
       replace H:=Option.bind_eq_some_iff.mp H
       obtain ⟨t425,A160,H⟩:=H
       replace H : (if t425 = true then (if (l0_2.length : Int) = (l0_3.length : Int) then (some (decide ((l0_2.length : Int) ≤ 15))) else (some false)) else (some false)) = some r:=H
       have A16:=mk_ A160
       clear A160
       by_cases c17 : t425 = true
       ·subst c17
        have H1 : (if (l0_2.length : Int) = (l0_3.length : Int) then (some (decide ((l0_2.length : Int) ≤ 15))) else (some false)) = some r:=by rw [if_pos rfl] at H;exact H
        clear H
        have H:=H1
        clear H1
        by_cases c18 : (l0_2.length : Int) = (l0_3.length : Int)
        ·rw [if_pos c18] at H
         have c18b0 : ((l0_2.length : Int) == (l0_3.length : Int)) = true:=beq_iff_eq.mpr c18
         have c18b1 : ((l0_2.length : Int) != (l0_3.length : Int)) = false:=bne_eq_false_iff_eq.mpr c18
         have c18b2 : (l0_2.length == l0_3.length) = true:=by first|simpa using c18|(simp at c18 ⊢;omega)
         clear c18
         obtain rfl:=Option.some.inj H
         have hcz19_0 : wr.cell? ⟨gb420,0,none⟩ = some (.int .i64 a0_0):=(bc_ BK420.out 0).trans rfl
         have hcz19_1 : wr.cell? ⟨gb420,1,none⟩ = some (.slice A0_1 l0_1.length c0_1):=(bc_ BK420.out 1).trans rfl
         have hcz19_2 : wr.cell? ⟨gb420,2,none⟩ = some (.slice A0_2 l0_2.length c0_2):=(bc_ BK420.out 2).trans rfl
         have hcz19_3 : wr.cell? ⟨gb420,3,none⟩ = some (.slice A0_3 l0_3.length c0_3):=(bc_ BK420.out 3).trans rfl
         have hfz19_0:=bf_ BK420.out 0
         have hfz19_1:=bf_ BK420.out 1
         have hfz19_2:=bf_ BK420.out 2
         have hfz19_3:=bf_ BK420.out 3
         go_wp2_with (first|(go_at_call 79;(with_reducible refine (spec_CablesValid.calls k2 a0_0 _ _ l0_1 true _ ?side1 ?side2 A16.out).mono ?_);(case side1 => exact qn_ HR0_1 HB);(case side2 => exact HC0_1.out);rintro e w20 ⟨rfl,hb⟩;have n0_:=mk_ (blk_below (g:=gb420) (o:=.cells #[.int .i64 a0_0,.slice A0_1 l0_1.length c0_1,.slice A0_2 l0_2.length c0_2,.slice A0_3 l0_3.length c0_3] 26 (0,0)) (qk_ BK420) hb);have n1_:=mk_ (st_ (qc_ HB GE420) hb);clear BK420 HB;have BK420:=n0_;have HB:=n1_;clear n0_ n1_;(try clear hb);(try clear hb2);(try clear hk);(try clear hi);have hcz21_0 : w20.cell? ⟨gb420,0,none⟩ = some (.int .i64 a0_0):=(bc_ BK420.out 0).trans rfl;have hcz21_1 : w20.cell? ⟨gb420,1,none⟩ = some (.slice A0_1 l0_1.length c0_1):=(bc_ BK420.out 1).trans rfl;have hcz21_2 : w20.cell? ⟨gb420,2,none⟩ = some (.slice A0_2 l0_2.length c0_2):=(bc_ BK420.out 2).trans rfl;have hcz21_3 : w20.cell? ⟨gb420,3,none⟩ = some (.slice A0_3 l0_3.length c0_3):=(bc_ BK420.out 3).trans rfl;have hfz21_0:=bf_ BK420.out 0;have hfz21_1:=bf_ BK420.out 1;have hfz21_2:=bf_ BK420.out 2;have hfz21_3:=bf_ BK420.out 3))
         repeat (go_quiet (first|(go_at_call 79;(with_reducible refine (spec_CablesValid.calls k2 a0_0 _ _ l0_1 true _ ?side1 ?side2 A16.out).mono ?_);(case side1 => exact qn_ HR0_1 HB);(case side2 => exact HC0_1.out);rintro e w20 ⟨rfl,hb⟩;have n0_:=mk_ (blk_below (g:=gb420) (o:=.cells #[.int .i64 a0_0,.slice A0_1 l0_1.length c0_1,.slice A0_2 l0_2.length c0_2,.slice A0_3 l0_3.length c0_3] 26 (0,0)) (qk_ BK420) hb);have n1_:=mk_ (st_ (qc_ HB GE420) hb);clear BK420 HB;have BK420:=n0_;have HB:=n1_;clear n0_ n1_;(try clear hb);(try clear hb2);(try clear hk);(try clear hi);have hcz21_0 : w20.cell? ⟨gb420,0,none⟩ = some (.int .i64 a0_0):=(bc_ BK420.out 0).trans rfl;have hcz21_1 : w20.cell? ⟨gb420,1,none⟩ = some (.slice A0_1 l0_1.length c0_1):=(bc_ BK420.out 1).trans rfl;have hcz21_2 : w20.cell? ⟨gb420,2,none⟩ = some (.slice A0_2 l0_2.length c0_2):=(bc_ BK420.out 2).trans rfl;have hcz21_3 : w20.cell? ⟨gb420,3,none⟩ = some (.slice A0_3 l0_3.length c0_3):=(bc_ BK420.out 3).trans rfl;have hfz21_0:=bf_ BK420.out 0;have hfz21_1:=bf_ BK420.out 1;have hfz21_2:=bf_ BK420.out 2;have hfz21_3:=bf_ BK420.out 3));try go_wp2_with (first|(go_at_call 79;(with_reducible refine (spec_CablesValid.calls k2 a0_0 _ _ l0_1 true _ ?side1 ?side2 A16.out).mono ?_);(case side1 => exact qn_ HR0_1 HB);(case side2 => exact HC0_1.out);rintro e w20 ⟨rfl,hb⟩;have n0_:=mk_ (blk_below (g:=gb420) (o:=.cells #[.int .i64 a0_0,.slice A0_1 l0_1.length c0_1,.slice A0_2 l0_2.length c0_2,.slice A0_3 l0_3.length c0_3] 26 (0,0)) (qk_ BK420) hb);have n1_:=mk_ (st_ (qc_ HB GE420) hb);clear BK420 HB;have BK420:=n0_;have HB:=n1_;clear n0_ n1_;(try clear hb);(try clear hb2);(try clear hk);(try clear hi);have hcz21_0 : w20.cell? ⟨gb420,0,none⟩ = some (.int .i64 a0_0):=(bc_ BK420.out 0).trans rfl;have hcz21_1 : w20.cell? ⟨gb420,1,none⟩ = some (.slice A0_1 l0_1.length c0_1):=(bc_ BK420.out 1).trans rfl;have hcz21_2 : w20.cell? ⟨gb420,2,none⟩ = some (.slice A0_2 l0_2.length c0_2):=(bc_ BK420.out 2).trans rfl;have hcz21_3 : w20.cell? ⟨gb420,3,none⟩ = some (.slice A0_3 l0_3.length c0_3):=(bc_ BK420.out 3).trans rfl;have hfz21_0:=bf_ BK420.out 0;have hfz21_1:=bf_ BK420.out 1;have hfz21_2:=bf_ BK420.out 2;have hfz21_3:=bf_ BK420.out 3)))
         go_ret
         exact ⟨qe_,u0_ HB GE420⟩
        ·rw [if_neg c18] at H
         have c18b0 : ((l0_2.length : Int) == (l0_3.length : Int)) = false:=beq_eq_false_iff_ne.mpr c18
         have c18b1 : ((l0_2.length : Int) != (l0_3.length : Int)) = true:=bne_iff_ne.mpr c18
         have c18b2 : (l0_2.length == l0_3.length) = false:=by first|simpa using c18|(simp at c18 ⊢;omega)
         obtain rfl:=Option.some.inj H
         have hcz22_0 : wr.cell? ⟨gb420,0,none⟩ = some (.int .i64 a0_0):=(bc_ BK420.out 0).trans rfl
         have hcz22_1 : wr.cell? ⟨gb420,1,none⟩ = some (.slice A0_1 l0_1.length c0_1):=(bc_ BK420.out 1).trans rfl
         have hcz22_2 : wr.cell? ⟨gb420,2,none⟩ = some (.slice A0_2 l0_2.length c0_2):=(bc_ BK420.out 2).trans rfl
         have hcz22_3 : wr.cell? ⟨gb420,3,none⟩ = some (.slice A0_3 l0_3.length c0_3):=(bc_ BK420.out 3).trans rfl
         have hfz22_0:=bf_ BK420.out 0
         have hfz22_1:=bf_ BK420.out 1
         have hfz22_2:=bf_ BK420.out 2
         have hfz22_3:=bf_ BK420.out 3
         go_wp2_with (first|(go_at_call 79;(with_reducible refine (spec_CablesValid.calls k2 a0_0 _ _ l0_1 true _ ?side1 ?side2 A16.out).mono ?_);(case side1 => exact qn_ HR0_1 HB);(case side2 => exact HC0_1.out);rintro e w23 ⟨rfl,hb⟩;have n0_:=mk_ (blk_below (g:=gb420) (o:=.cells #[.int .i64 a0_0,.slice A0_1 l0_1.length c0_1,.slice A0_2 l0_2.length c0_2,.slice A0_3 l0_3.length c0_3] 26 (0,0)) (qk_ BK420) hb);have n1_:=mk_ (st_ (qc_ HB GE420) hb);clear BK420 HB;have BK420:=n0_;have HB:=n1_;clear n0_ n1_;(try clear hb);(try clear hb2);(try clear hk);(try clear hi);have hcz24_0 : w23.cell? ⟨gb420,0,none⟩ = some (.int .i64 a0_0):=(bc_ BK420.out 0).trans rfl;have hcz24_1 : w23.cell? ⟨gb420,1,none⟩ = some (.slice A0_1 l0_1.length c0_1):=(bc_ BK420.out 1).trans rfl;have hcz24_2 : w23.cell? ⟨gb420,2,none⟩ = some (.slice A0_2 l0_2.length c0_2):=(bc_ BK420.out 2).trans rfl;have hcz24_3 : w23.cell? ⟨gb420,3,none⟩ = some (.slice A0_3 l0_3.length c0_3):=(bc_ BK420.out 3).trans rfl;have hfz24_0:=bf_ BK420.out 0;have hfz24_1:=bf_ BK420.out 1;have hfz24_2:=bf_ BK420.out 2;have hfz24_3:=bf_ BK420.out 3))
         repeat (go_quiet (first|(go_at_call 79;(with_reducible refine (spec_CablesValid.calls k2 a0_0 _ _ l0_1 true _ ?side1 ?side2 A16.out).mono ?_);(case side1 => exact qn_ HR0_1 HB);(case side2 => exact HC0_1.out);rintro e w23 ⟨rfl,hb⟩;have n0_:=mk_ (blk_below (g:=gb420) (o:=.cells #[.int .i64 a0_0,.slice A0_1 l0_1.length c0_1,.slice A0_2 l0_2.length c0_2,.slice A0_3 l0_3.length c0_3] 26 (0,0)) (qk_ BK420) hb);have n1_:=mk_ (st_ (qc_ HB GE420) hb);clear BK420 HB;have BK420:=n0_;have HB:=n1_;clear n0_ n1_;(try clear hb);(try clear hb2);(try clear hk);(try clear hi);have hcz24_0 : w23.cell? ⟨gb420,0,none⟩ = some (.int .i64 a0_0):=(bc_ BK420.out 0).trans rfl;have hcz24_1 : w23.cell? ⟨gb420,1,none⟩ = some (.slice A0_1 l0_1.length c0_1):=(bc_ BK420.out 1).trans rfl;have hcz24_2 : w23.cell? ⟨gb420,2,none⟩ = some (.slice A0_2 l0_2.length c0_2):=(bc_ BK420.out 2).trans rfl;have hcz24_3 : w23.cell? ⟨gb420,3,none⟩ = some (.slice A0_3 l0_3.length c0_3):=(bc_ BK420.out 3).trans rfl;have hfz24_0:=bf_ BK420.out 0;have hfz24_1:=bf_ BK420.out 1;have hfz24_2:=bf_ BK420.out 2;have hfz24_3:=bf_ BK420.out 3));try go_wp2_with (first|(go_at_call 79;(with_reducible refine (spec_CablesValid.calls k2 a0_0 _ _ l0_1 true _ ?side1 ?side2 A16.out).mono ?_);(case side1 => exact qn_ HR0_1 HB);(case side2 => exact HC0_1.out);rintro e w23 ⟨rfl,hb⟩;have n0_:=mk_ (blk_below (g:=gb420) (o:=.cells #[.int .i64 a0_0,.slice A0_1 l0_1.length c0_1,.slice A0_2 l0_2.length c0_2,.slice A0_3 l0_3.length c0_3] 26 (0,0)) (qk_ BK420) hb);have n1_:=mk_ (st_ (qc_ HB GE420) hb);clear BK420 HB;have BK420:=n0_;have HB:=n1_;clear n0_ n1_;(try clear hb);(try clear hb2);(try clear hk);(try clear hi);have hcz24_0 : w23.cell? ⟨gb420,0,none⟩ = some (.int .i64 a0_0):=(bc_ BK420.out 0).trans rfl;have hcz24_1 : w23.cell? ⟨gb420,1,none⟩ = some (.slice A0_1 l0_1.length c0_1):=(bc_ BK420.out 1).trans rfl;have hcz24_2 : w23.cell? ⟨gb420,2,none⟩ = some (.slice A0_2 l0_2.length c0_2):=(bc_ BK420.out 2).trans rfl;have hcz24_3 : w23.cell? ⟨gb420,3,none⟩ = some (.slice A0_3 l0_3.length c0_3):=(bc_ BK420.out 3).trans rfl;have hfz24_0:=bf_ BK420.out 0;have hfz24_1:=bf_ BK420.out 1;have hfz24_2:=bf_ BK420.out 2;have hfz24_3:=bf_ BK420.out 3)))
         go_ret
         exact ⟨qe_,u0_ HB GE420⟩
       ·replace c17:=Bool.eq_false_iff.mpr c17
        subst c17
        have H1 : (some false) = some r:=by rw [if_neg (show ¬ (false = true) by decide)] at H;exact H
        clear H
        have H:=H1
        clear H1
        obtain rfl:=Option.some.inj H
        have hcz25_0 : wr.cell? ⟨gb420,0,none⟩ = some (.int .i64 a0_0):=(bc_ BK420.out 0).trans rfl
        have hcz25_1 : wr.cell? ⟨gb420,1,none⟩ = some (.slice A0_1 l0_1.length c0_1):=(bc_ BK420.out 1).trans rfl
        have hcz25_2 : wr.cell? ⟨gb420,2,none⟩ = some (.slice A0_2 l0_2.length c0_2):=(bc_ BK420.out 2).trans rfl
        have hcz25_3 : wr.cell? ⟨gb420,3,none⟩ = some (.slice A0_3 l0_3.length c0_3):=(bc_ BK420.out 3).trans rfl
        have hfz25_0:=bf_ BK420.out 0
        have hfz25_1:=bf_ BK420.out 1
        have hfz25_2:=bf_ BK420.out 2
        have hfz25_3:=bf_ BK420.out 3
        go_wp2_with (first|(go_at_call 79;(with_reducible refine (spec_CablesValid.calls k2 a0_0 _ _ l0_1 false _ ?side1 ?side2 A16.out).mono ?_);(case side1 => exact qn_ HR0_1 HB);(case side2 => exact HC0_1.out);rintro e w26 ⟨rfl,hb⟩;have n0_:=mk_ (blk_below (g:=gb420) (o:=.cells #[.int .i64 a0_0,.slice A0_1 l0_1.length c0_1,.slice A0_2 l0_2.length c0_2,.slice A0_3 l0_3.length c0_3] 26 (0,0)) (qk_ BK420) hb);have n1_:=mk_ (st_ (qc_ HB GE420) hb);clear BK420 HB;have BK420:=n0_;have HB:=n1_;clear n0_ n1_;(try clear hb);(try clear hb2);(try clear hk);(try clear hi)))
        repeat (go_quiet (first|(go_at_call 79;(with_reducible refine (spec_CablesValid.calls k2 a0_0 _ _ l0_1 false _ ?side1 ?side2 A16.out).mono ?_);(case side1 => exact qn_ HR0_1 HB);(case side2 => exact HC0_1.out);rintro e w26 ⟨rfl,hb⟩;have n0_:=mk_ (blk_below (g:=gb420) (o:=.cells #[.int .i64 a0_0,.slice A0_1 l0_1.length c0_1,.slice A0_2 l0_2.length c0_2,.slice A0_3 l0_3.length c0_3] 26 (0,0)) (qk_ BK420) hb);have n1_:=mk_ (st_ (qc_ HB GE420) hb);clear BK420 HB;have BK420:=n0_;have HB:=n1_;clear n0_ n1_;(try clear hb);(try clear hb2);(try clear hk);(try clear hi)));try go_wp2_with (first|(go_at_call 79;(with_reducible refine (spec_CablesValid.calls k2 a0_0 _ _ l0_1 false _ ?side1 ?side2 A16.out).mono ?_);(case side1 => exact qn_ HR0_1 HB);(case side2 => exact HC0_1.out);rintro e w26 ⟨rfl,hb⟩;have n0_:=mk_ (blk_below (g:=gb420) (o:=.cells #[.int .i64 a0_0,.slice A0_1 l0_1.length c0_1,.slice A0_2 l0_2.length c0_2,.slice A0_3 l0_3.length c0_3] 26 (0,0)) (qk_ BK420) hb);have n1_:=mk_ (st_ (qc_ HB GE420) hb);clear BK420 HB;have BK420:=n0_;have HB:=n1_;clear n0_ n1_;(try clear hb);(try clear hb2);(try clear hk);(try clear hi))))
        go_ret
        exact ⟨qe_,u0_ HB GE420⟩
/-! ### spec_l19Station: function 39 -/
def spec_l19Station.f (a0_0 : Int) (l0_1 : List (S83)) (l0_2 : List Int) (l0_3 : List Int) (a1 : Int) : Option (Bool):=(spec_l1In.f a1 0 (wrap64 ((l0_2.length : Int) - 1))).bind fun t427 => (some t427)
set_option maxHeartbeats 8000000 in
set_option maxRecDepth 100000 in
theorem spec_l19Station.calls (a0_0 : Int) (A0_1 : Option Addr) (c0_1 : Nat) (l0_1 : List (S83)) (A0_2 : Option Addr) (c0_2 : Nat) (l0_2 : List Int) (A0_3 : Option Addr) (c0_3 : Nat) (l0_3 : List Int) (a1 : Int) (r : Bool) (w : World) (hr0_1 : Kd.C k83 w A0_1 l0_1.length l0_1) (hc0_1 : l0_1.length ≤ c0_1) (hr0_2 : Kd.C (Kd.int .i64) w A0_2 l0_2.length l0_2) (hc0_2 : l0_2.length ≤ c0_2) (hr0_3 : Kd.C (Kd.int .i64) w A0_3 l0_3.length l0_3) (hc0_3 : l0_3.length ≤ c0_3) (h : spec_l19Station.f a0_0 l0_1 l0_2 l0_3 a1 = some r) :
  Calls Try.prog 39 #[.agg #[.int .i64 a0_0,.slice A0_1 l0_1.length c0_1,.slice A0_2 l0_2.length c0_2,.slice A0_3 l0_3.length c0_3],.int .i64 a1] w fun e w' => e = .returned (.bool r) ∧ Below w.heap.size w w':=by
 have hu26:=Try.underlying26
 have HR0_1:=mk_ hr0_1
 have HC0_1:=mk_ hc0_1
 clear hr0_1 hc0_1
 have HR0_2:=mk_ hr0_2
 have HC0_2:=mk_ hc0_2
 clear hr0_2 hc0_2
 have HR0_3:=mk_ hr0_3
 have HC0_3:=mk_ hc0_3
 clear hr0_3 hc0_3
 have HB:=mk_ (Below.refl w.heap.size w)
 have H : ((spec_l1In.f a1 0 (wrap64 ((l0_2.length : Int) - 1))).bind fun t427 => (some t427)) = some r:=h
 clear h
 replace H:=Option.bind_eq_some_iff.mp H
 obtain ⟨t427,A30,H⟩:=H
 replace H : (some t427) = some r:=H
 have A3:=mk_ A30
 clear A30
 obtain rfl:=Option.some.inj H
 go_enter Try.func39,Try.ntmps39
 go_wp2_with (first|((with_reducible refine gate_dst (N:=2) rfl ?_);refine box_event ?hg (N:=2) ?hd (cs:=#[.int .i64 a0_0,.slice A0_1 l0_1.length c0_1,.slice A0_2 l0_2.length c0_2,.slice A0_3 l0_3.length c0_3]) (t:=26) ?hr ?_;(case hd => rfl);(case hg => rfl);(case hr => first|(go_simp;done)|(go_simp;rfl));intro gb426 hg w4 hbox hb;have n0_:=mk_ (st_ (qb_ HB) hb);have n1_:=mk_ (hbox);have n2_:=mk_ ((by rw [hg];exact (bz_ (qb_ HB)) : w.heap.size ≤ gb426));have n3_:=mk_ ((by rw [hg];exact (bz_ (qb_ HB)) : w.heap.size ≤ gb426));clear HB;have HB:=n0_;have BK426:=n1_;have GW426:=n2_;have GE426:=n3_;clear n0_ n1_ n2_ n3_ hb hbox hg;have hcz5_0 : w4.cell? ⟨gb426,0,none⟩ = some (.int .i64 a0_0):=(bc_ BK426.out 0).trans rfl;have hcz5_1 : w4.cell? ⟨gb426,1,none⟩ = some (.slice A0_1 l0_1.length c0_1):=(bc_ BK426.out 1).trans rfl;have hcz5_2 : w4.cell? ⟨gb426,2,none⟩ = some (.slice A0_2 l0_2.length c0_2):=(bc_ BK426.out 2).trans rfl;have hcz5_3 : w4.cell? ⟨gb426,3,none⟩ = some (.slice A0_3 l0_3.length c0_3):=(bc_ BK426.out 3).trans rfl;have hfz5_0:=bf_ BK426.out 0;have hfz5_1:=bf_ BK426.out 1;have hfz5_2:=bf_ BK426.out 2;have hfz5_3:=bf_ BK426.out 3)|((with_reducible refine gate_callee (f:=77) rfl ?_);refine goesL_ (some 10) rfl rfl Try.func77 (by kernel_rfl) rfl #[.int .i64 a1,.int .i64 0,.int .i64 (wrap64 ((l0_2.length : Int) - 1))] rfl qm_ ?_;(with_reducible refine (spec_l1In.calls a1 0 (wrap64 ((l0_2.length : Int) - 1)) t427 _ A3.out).mono ?_);rintro e w' ⟨rfl,⟨nd,rfl⟩⟩;refine ⟨_,rfl,?_⟩))
 go_ret
 exact ⟨qe_,u0_ HB GE426⟩
/-! ### spec_l7Joined: function 113 -/
mutual
def spec_l7Joined.l0 : Nat → List (S83) → List Bool → Int → Int → Option (List Bool)
 | 0,_,_,_,_ => none
 | k + 1,x1,x7,x14,x15 => if x15 < x14 then (spec_l7Joined.l1 k x1 x7 0 x14 x15) else (some x7)
def spec_l7Joined.l1 : Nat → List (S83) → List Bool → Int → Int → Int → Option (List Bool)
 | 0,_,_,_,_,_ => none
 | k + 1,x1,x7,x8,x14,x15 => if x8 < (x1.length : Int) then (if 0 ≤ x8 then (if 0 ≤ ((rd_T83 x1 x8).f0) then (if ((rd_T83 x1 x8).f0) < (x7.length : Int) then (if rdOf false x7 ((rd_T83 x1 x8).f0) = true then (if 0 ≤ ((rd_T83 x1 x8).f1) then (if ((rd_T83 x1 x8).f1) < (x7.length : Int) then (spec_l7Joined.l1 k x1 ((x7.set (((rd_T83 x1 x8).f0) : Int).toNat true).set (((rd_T83 x1 x8).f1) : Int).toNat true) (wrap64 (x8 + 1)) x14 x15) else (none)) else (none)) else (if 0 ≤ ((rd_T83 x1 x8).f1) then (if ((rd_T83 x1 x8).f1) < (x7.length : Int) then (if rdOf false x7 ((rd_T83 x1 x8).f1) = true then (spec_l7Joined.l1 k x1 ((x7.set (((rd_T83 x1 x8).f0) : Int).toNat true).set (((rd_T83 x1 x8).f1) : Int).toNat true) (wrap64 (x8 + 1)) x14 x15) else (spec_l7Joined.l1 k x1 x7 (wrap64 (x8 + 1)) x14 x15)) else (none)) else (none))) else (none)) else (none)) else (none)) else (spec_l7Joined.l0 k x1 x7 x14 (wrap64 (x15 + 1)))
end
def spec_l7Joined.f (k : Nat) (a0 : Int) (l1 : List (S83)) (a2 : Int) : Option (List Bool):=if 0 ≤ a0 then (if (a0 : Int).toNat ≤ 281474976710656 then ((some (List.replicate (a0 : Int).toNat false : List Bool)).bind fun y428 => (if 0 ≤ a2 then (if a2 < (y428.length : Int) then (spec_l7Joined.l0 k l1 (y428.set (a2 : Int).toNat true) a0 0) else (none)) else (none))) else (none)) else (none)
theorem spec_l7Joined.mono_l : ∀ k,(∀ y0 y1 y2 y3,LeO (spec_l7Joined.l0 k y0 y1 y2 y3) (spec_l7Joined.l0 (k + 1) y0 y1 y2 y3)) ∧ (∀ y0 y1 y2 y3 y4,LeO (spec_l7Joined.l1 k y0 y1 y2 y3 y4) (spec_l7Joined.l1 (k + 1) y0 y1 y2 y3 y4))
 | 0 => ⟨fun _ _ _ _ r h => by simp [spec_l7Joined.l0] at h,fun _ _ _ _ _ r h => by simp [spec_l7Joined.l1] at h⟩
 | k + 1 => by
  obtain ⟨ih0,ih1⟩:=spec_l7Joined.mono_l k
  refine ⟨?_,?_⟩
  ·intro y0 y1 y2 y3
   unfold spec_l7Joined.l0
   repeat' first
   | (with_reducible exact ih0 _ _ _ _)
   | (with_reducible exact ih1 _ _ _ _ _)
   | (with_reducible exact LeO.refl _)
   | (with_reducible exact LeO.none _)
   | (with_reducible refine LeO.ite ?_ ?_)
   | (with_reducible refine LeO.bind ?_ (fun _ => ?_))
   | exact ih0 _ _ _ _
   | exact ih1 _ _ _ _ _
   | exact LeO.none _
   | refine LeO.ite ?_ ?_
   | refine LeO.bind ?_ (fun _ => ?_)
  ·intro y0 y1 y2 y3 y4
   unfold spec_l7Joined.l1
   repeat' first
   | (with_reducible exact ih0 _ _ _ _)
   | (with_reducible exact ih1 _ _ _ _ _)
   | (with_reducible exact LeO.refl _)
   | (with_reducible exact LeO.none _)
   | (with_reducible refine LeO.ite ?_ ?_)
   | (with_reducible refine LeO.bind ?_ (fun _ => ?_))
   | exact ih0 _ _ _ _
   | exact ih1 _ _ _ _ _
   | exact LeO.none _
   | refine LeO.ite ?_ ?_
   | refine LeO.bind ?_ (fun _ => ?_)
theorem spec_l7Joined.mono : ∀ a0 a1 a2 k,LeO (spec_l7Joined.f k a0 a1 a2) (spec_l7Joined.f (k + 1) a0 a1 a2):=by
 intro a0 a1 a2 k
 obtain ⟨ih0,ih1⟩:=spec_l7Joined.mono_l k
 unfold spec_l7Joined.f
 repeat' first
   | (with_reducible exact ih0 _ _ _ _)
   | (with_reducible exact ih1 _ _ _ _ _)
   | (with_reducible exact LeO.refl _)
   | (with_reducible exact LeO.none _)
   | (with_reducible refine LeO.ite ?_ ?_)
   | (with_reducible refine LeO.bind ?_ (fun _ => ?_))
   | exact ih0 _ _ _ _
   | exact ih1 _ _ _ _ _
   | exact LeO.none _
   | refine LeO.ite ?_ ?_
   | refine LeO.bind ?_ (fun _ => ?_)
set_option maxHeartbeats 8000000 in
set_option maxRecDepth 100000 in
theorem spec_l7Joined.calls (k : Nat) (a0 : Int) (A1 : Option Addr) (c1 : Nat) (l1 : List (S83)) (a2 : Int) (r : List Bool) (w : World) (hr1 : Kd.C k83 w A1 l1.length l1) (hc1 : l1.length ≤ c1) (h : spec_l7Joined.f k a0 l1 a2 = some r) :
  Calls Try.prog 113 #[.int .i64 a0,.slice A1 l1.length c1,.int .i64 a2] w fun e w' => ∃ v0_ : Value,e = .returned (v0_) ∧ Kd.R Kd.bool 4 w' w.heap.size (fun _ => True) v0_ r ∧ Below w.heap.size w w':=by
 have HR1:=mk_ hr1
 have HC1:=mk_ hc1
 clear hr1 hc1
 have HB:=mk_ (Below.refl w.heap.size w)
 have H : (if 0 ≤ a0 then (if (a0 : Int).toNat ≤ 281474976710656 then ((some (List.replicate (a0 : Int).toNat false : List Bool)).bind fun y428 => (if 0 ≤ a2 then (if a2 < (y428.length : Int) then (spec_l7Joined.l0 k l1 (y428.set (a2 : Int).toNat true) a0 0) else (none)) else (none))) else (none)) else (none)) = some r:=h
 clear h
 by_cases c4 : 0 ≤ a0
 ·rw [if_pos c4] at H
  have c4b0:=eq_true c4
  have c4b1 : decide (0 ≤ a0) = true:=decide_eq_true c4
  clear c4
  by_cases c5 : (a0 : Int).toNat ≤ 281474976710656
  ·rw [if_pos c5] at H
   have c5b0:=eq_true c5
   have c5b1 : decide ((a0 : Int).toNat ≤ 281474976710656) = true:=decide_eq_true c5
   clear c5
   obtain ⟨y428,hy428⟩ : ∃ y_ : List Bool,y_ = (List.replicate (a0 : Int).toNat false):=⟨_,rfl⟩
   replace H : (if 0 ≤ a2 then (if a2 < (y428.length : Int) then (spec_l7Joined.l0 k l1 (y428.set (a2 : Int).toNat true) a0 0) else (none)) else (none)) = some r:=by first|(rw [hy428];with_reducible exact H)|(have H2_:=(Option.bind_some _ _).symm.trans H;rw [hy428];with_reducible exact H2_)|(have H2_:=(Option.bind_some _ _).symm.trans H;with_reducible exact H2_)|with_reducible exact H|(rw [hy428];exact H)|exact H
   have Ny428:=mk_ hy428
   clear hy428
   by_cases c6 : 0 ≤ a2
   ·rw [if_pos c6] at H
    have c6b0 : decide (0 ≤ a2) = true:=decide_eq_true c6
    clear c6
    by_cases c7 : a2 < (y428.length : Int)
    ·rw [if_pos c7] at H
     have c7b0 : decide (a2 < (y428.length : Int)) = true:=decide_eq_true c7
     clear c7
     obtain ⟨y431,hy431⟩ : ∃ y_ : List Bool,y_ = (y428.set (a2 : Int).toNat true):=⟨_,rfl⟩
     replace H : (spec_l7Joined.l0 k l1 y431 a0 0) = some r:=by first|(rw [hy431];with_reducible exact H)|(have H2_:=(Option.bind_some _ _).symm.trans H;rw [hy431];with_reducible exact H2_)|(have H2_:=(Option.bind_some _ _).symm.trans H;with_reducible exact H2_)|with_reducible exact H|(rw [hy431];exact H)|exact H
     have Ny431:=mk_ hy431
     clear hy431
     have H':=mk_ H
     clear H
     go_enter Try.func113,Try.ntmps113
     go_wp2_with (first|((with_reducible refine gate_dst (N:=10) rfl ?_);refine Kd.R_make Kd.bool _ 4 rfl (N:=10) rfl 75 _ _ rfl a0 rfl rfl Try.underlying75 (.bool false) 1 info4 rfl (by decide) (by omega) false (ok:=fun _ => True) (okp:=fun _ => True) rfl (fun _ hk => hk) trivial (od_ qa_) (Nat.le_trans (Nat.mul_le_mul_right _ (od_ qa_ : a0.toNat ≤ 281474976710656)) (by omega)) (Below.refl _ _) (Nat.le_refl _) ?_;intro v429 w9 ho10 hb hg_ hnew_;clear hg_ hnew_;(first|rw [← Ny428.out] at ho10|(simp only [Int.reduceToNat] at ho10;rw [← Ny428.out] at ho10));have n0_:=mk_ (Kd.R_lower ho10 (bz_ (qb_ HB)));have n1_:=mk_ (st_ (qb_ HB) hb);clear HB;have HO430:=n0_;have HB:=n1_;clear n0_ n1_ hb ho10;have p8 : 0 ≤ (a2 : Int):=od_ qa_;have q8 : (a2 : Int) < ((y428.length : Int) : Int):=od_ qa_;obtain ⟨go8,co8,eo8,gb8,gl8,cl8,HG8⟩:=Kd.R_form HO430.out (by omega);(first|cases eo8|(injection eo8 with ea_ en_ ec_;(first|subst ea_|(injection ea_ with ea_;subst ea_));subst ec_;clear en_));have GB8:=mk_ gb8;have GG8:=mk_ HG8;clear gb8 gl8 HG8;obtain ⟨hx8_0,hf8_0⟩:=Kd.R_celln false HO430.out (a2 : Int) p8 q8;replace p8:=eq_true p8;replace q8:=eq_true q8;obtain ⟨hy11_,hz11_⟩:=Kd.R_celln false HO430.out (a2 : Int) (od_ qa_) (od_ qa_);have HP11:=Kd.R_putg HO430.out (a2 : Int) true)|((with_reducible refine gate_store (t:=4) (p:=13) rfl ?_);refine store_event (t:=4) (p:=13) (v:=?vo_w12) (w1:=(w9.setCell ⟨go8,(a2 : Int).toNat,none⟩ (.bool true))) ?hg ?ho ?hn ?hr ?_;(case ho => rfl);(case hg => rfl);(case hn => rfl);(case hr => first|(go_simp;done)|(go_simp;rfl));intro w12 hw;have hg : w9.grownBy w12 (some go8):=(by rw [hw];exact HP11.2);have hp_ : Kd.R Kd.bool 4 w12 w.heap.size (fun _ => True) (.slice (some ⟨go8,0,none⟩) y428.length co8) y431:=(by rw [hw,Ny431.out];exact HP11.1);clear HP11;have n0_:=mk_ (hp_);have n1_:=mk_ ((by rw [hw];exact bs_ (HB.out) GB8.out : Below w.heap.size w w12));clear HO430 HB;have HO430:=n0_;have HB:=n1_;clear n0_ n1_ hg hw hp_))
     go_loopg [15] k (fun kq v15 w' => ∃ (x7_1 : List Bool) (x15_1 : Int),v15 = .int .i64 x15_1 ∧ Aside0 (spec_l7Joined.l0 kq l1 x7_1 a0 x15_1 = some r) ∧ Aside0 (kq ≤ k) ∧ Aside0 (Kd.R Kd.bool 4 w' w.heap.size (fun _ => True) (.slice (some ⟨go8,0,none⟩) y428.length co8) x7_1) ∧ Aside0 (Below w.heap.size w w'))
     case atStart => exact ⟨(y431),(0),qf_,H',⟨Nat.le_refl _⟩,⟨qr_ HO430⟩,⟨u1_ HB⟩⟩
     case round =>
      clear H'
      try clear c1
      try clear p2
      try clear c4
      try clear c4b0
      try clear c4b1
      try clear c5
      try clear c5b0
      try clear c5b1
      try clear c6
      try clear c6b0
      try clear c7
      try clear c7b0
      try clear p8
      try clear q8
      try clear hx8
      try clear hf8
      try clear c11
      try clear hx8_0
      try clear p8
      try clear q8
      obtain ⟨x7_1,x15_1,rfl,HA,HK1,HO_7,HB⟩:=hrel
      have hl7_1:=(rr_ HO_7.out).1
      rw [hl7_1] at HO_7
      (try simp only [hl7_1])
      cases gk with
      | zero => exact absurd HA.out (by simp [spec_l7Joined.l0])
      | succ k1 =>
       have H:=HA.out
       clear HA
       simp only [spec_l7Joined.l0] at H
       by_cases c13 : x15_1 < a0
       ·rw [if_pos c13] at H
        have c13b0 : decide (x15_1 < a0) = true:=decide_eq_true c13
        clear c13
        have H':=mk_ H
        clear H
        go_wp2
        go_loopg [8] k1 (fun kq v8 w' => ∃ (x7_2 : List Bool) (x8_2 : Int),v8 = .int .i64 x8_2 ∧ Aside0 (spec_l7Joined.l1 kq l1 x7_2 x8_2 a0 x15_1 = some r) ∧ Aside0 (kq ≤ k1) ∧ Aside0 (Kd.R Kd.bool 4 w' w.heap.size (fun _ => True) (.slice (some ⟨go8,0,none⟩) x7_1.length co8) x7_2) ∧ Aside0 (Below w.heap.size w w'))
        case atStart => exact ⟨(x7_1),(0),qf_,H',⟨Nat.le_refl _⟩,⟨by (try simp only [hl7_1]);(with_reducible repeat (first|apply ra_|apply rn_|apply rd_));exact HO_7.out⟩,⟨u1_ HB⟩⟩
        case round =>
         clear H'
         try clear c1
         try clear p2
         try clear c4
         try clear c4b0
         try clear c4b1
         try clear c5
         try clear c5b0
         try clear c5b1
         try clear c6
         try clear c6b0
         try clear c7
         try clear c7b0
         try clear p8
         try clear q8
         try clear hx8
         try clear hf8
         try clear c11
         try clear c13
         try clear c13b0
         try clear hx8_0
         try clear p2
         try clear p8
         try clear q8
         obtain ⟨x7_2,x8_2,rfl,HA,HK2,HO_7,HB⟩:=hrel
         have hl7_2:=(rr_ HO_7.out).1
         rw [hl7_2] at HO_7
         (try simp only [hl7_2])
         cases gk with
         | zero => exact absurd HA.out (by simp [spec_l7Joined.l1])
         | succ k2 =>
          have H:=HA.out
          clear HA
          simp only [spec_l7Joined.l1] at H
          by_cases c14 : x8_2 < (l1.length : Int)
          ·rw [if_pos c14] at H
           have c14b0 : decide (x8_2 < (l1.length : Int)) = true:=decide_eq_true c14
           clear c14
           by_cases c15 : 0 ≤ x8_2
           ·rw [if_pos c15] at H
            have c15b0 : decide (0 ≤ x8_2) = true:=decide_eq_true c15
            clear c15
            by_cases c16 : 0 ≤ ((rd_T83 l1 x8_2).f0)
            ·rw [if_pos c16] at H
             have c16b0 : decide (0 ≤ ((rd_T83 l1 x8_2).f0)) = true:=decide_eq_true c16
             clear c16
             by_cases c17 : ((rd_T83 l1 x8_2).f0) < (x7_2.length : Int)
             ·rw [if_pos c17] at H
              have c17b0 : decide (((rd_T83 l1 x8_2).f0) < (x7_2.length : Int)) = true:=decide_eq_true c17
              clear c17
              obtain ⟨bq18,hbq18⟩ : ∃ b_ : Bool,b_ = (rdOf false x7_2 ((rd_T83 l1 x8_2).f0)):=⟨_,rfl⟩
              replace H : (if bq18 = true then (if 0 ≤ ((rd_T83 l1 x8_2).f1) then (if ((rd_T83 l1 x8_2).f1) < (x7_2.length : Int) then (spec_l7Joined.l1 k2 l1 ((x7_2.set (((rd_T83 l1 x8_2).f0) : Int).toNat true).set (((rd_T83 l1 x8_2).f1) : Int).toNat true) (wrap64 (x8_2 + 1)) a0 x15_1) else (none)) else (none)) else (if 0 ≤ ((rd_T83 l1 x8_2).f1) then (if ((rd_T83 l1 x8_2).f1) < (x7_2.length : Int) then (if rdOf false x7_2 ((rd_T83 l1 x8_2).f1) = true then (spec_l7Joined.l1 k2 l1 ((x7_2.set (((rd_T83 l1 x8_2).f0) : Int).toNat true).set (((rd_T83 l1 x8_2).f1) : Int).toNat true) (wrap64 (x8_2 + 1)) a0 x15_1) else (spec_l7Joined.l1 k2 l1 x7_2 (wrap64 (x8_2 + 1)) a0 x15_1)) else (none)) else (none))) = some r:=by rw [← hbq18] at H;exact H
              have Nbq18:=mk_ hbq18
              clear hbq18
              by_cases c19 : bq18 = true
              ·subst c19
               have H1 : (if 0 ≤ ((rd_T83 l1 x8_2).f1) then (if ((rd_T83 l1 x8_2).f1) < (x7_2.length : Int) then (spec_l7Joined.l1 k2 l1 ((x7_2.set (((rd_T83 l1 x8_2).f0) : Int).toNat true).set (((rd_T83 l1 x8_2).f1) : Int).toNat true) (wrap64 (x8_2 + 1)) a0 x15_1) else (none)) else (none)) = some r:=by rw [if_pos rfl] at H;exact H
               clear H
               have H:=H1
               clear H1
               obtain ⟨y435,hy435⟩ : ∃ y_ : List Bool,y_ = (x7_2.set (((rd_T83 l1 x8_2).f0) : Int).toNat true):=⟨_,rfl⟩
               replace H : (if 0 ≤ ((rd_T83 l1 x8_2).f1) then (if ((rd_T83 l1 x8_2).f1) < (x7_2.length : Int) then (spec_l7Joined.l1 k2 l1 (y435.set (((rd_T83 l1 x8_2).f1) : Int).toNat true) (wrap64 (x8_2 + 1)) a0 x15_1) else (none)) else (none)) = some r:=by first|(rw [hy435];with_reducible exact H)|(have H2_:=(Option.bind_some _ _).symm.trans H;rw [hy435];with_reducible exact H2_)|(have H2_:=(Option.bind_some _ _).symm.trans H;with_reducible exact H2_)|with_reducible exact H|(rw [hy435];exact H)|exact H
               have Ny435:=mk_ hy435
               clear hy435
               by_cases c21 : 0 ≤ ((rd_T83 l1 x8_2).f1)
               ·rw [if_pos c21] at H
                have c21b0 : decide (0 ≤ ((rd_T83 l1 x8_2).f1)) = true:=decide_eq_true c21
                clear c21
                by_cases c22 : ((rd_T83 l1 x8_2).f1) < (x7_2.length : Int)
                ·rw [if_pos c22] at H
                 have c22b0 : decide (((rd_T83 l1 x8_2).f1) < (x7_2.length : Int)) = true:=decide_eq_true c22
                 clear c22
                 obtain ⟨y437,hy437⟩ : ∃ y_ : List Bool,y_ = (y435.set (((rd_T83 l1 x8_2).f1) : Int).toNat true):=⟨_,rfl⟩
                 replace H : (spec_l7Joined.l1 k2 l1 y437 (wrap64 (x8_2 + 1)) a0 x15_1) = some r:=by first|(rw [hy437];with_reducible exact H)|(have H2_:=(Option.bind_some _ _).symm.trans H;rw [hy437];with_reducible exact H2_)|(have H2_:=(Option.bind_some _ _).symm.trans H;with_reducible exact H2_)|with_reducible exact H|(rw [hy437];exact H)|exact H
                 have Ny437:=mk_ hy437
                 clear hy437
                 have H':=mk_ H
                 clear H
                 have p432 : 0 ≤ (x8_2 : Int):=od_ qa_
                 have q432 : x8_2 < (l1.length : Int):=od_ qa_
                 obtain ⟨ad432,e432,hx432_0,hx432_1,hx432_2⟩:=at_T83 HR1.out x8_2 p432 q432
                 cases e432
                 replace hx432_0:=(HB.out.cell (wl_ w _ hx432_0)).trans hx432_0
                 replace hx432_1:=(HB.out.cell (wl_ w _ hx432_1)).trans hx432_1
                 replace hx432_2:=(HB.out.cell (wl_ w _ hx432_2)).trans hx432_2
                 replace p432:=eq_true p432
                 replace q432:=eq_true q432
                 have p433 : 0 ≤ (((rd_T83 l1 x8_2).f0) : Int):=od_ qa_
                 have q433 : ((rd_T83 l1 x8_2).f0) < (x7_2.length : Int):=od_ qa_
                 obtain ⟨ad433,e433,hx433_0⟩:=Kd.at_bool (rr_ HO_7.out).2.2 ((rd_T83 l1 x8_2).f0) p433 q433
                 (try rw [← Nbq18.out] at hx433_0)
                 obtain rfl : (⟨go8,0,none⟩ : Addr) = ad433:=(by injection e433)
                 (first|simp only [add_plain] at hx433_0|simp only [add_at] at hx433_0|simp only [Addr.add,Nat.zero_add] at hx433_0|skip)
                 replace p433:=eq_true p433
                 replace q433:=eq_true q433
                 have p434 : 0 ≤ (x8_2 : Int):=od_ qa_
                 have q434 : x8_2 < (l1.length : Int):=od_ qa_
                 obtain ⟨ad434,e434,hx434_0,hx434_1,hx434_2⟩:=at_T83 HR1.out x8_2 p434 q434
                 obtain rfl : ad432 = ad434:=(by injection e434)
                 replace hx434_0:=(HB.out.cell (wl_ w _ hx434_0)).trans hx434_0
                 replace hx434_1:=(HB.out.cell (wl_ w _ hx434_1)).trans hx434_1
                 replace hx434_2:=(HB.out.cell (wl_ w _ hx434_2)).trans hx434_2
                 replace p434:=eq_true p434
                 replace q434:=eq_true q434
                 have p20 : 0 ≤ (((rd_T83 l1 x8_2).f0) : Int):=od_ qa_
                 have q20 : (((rd_T83 l1 x8_2).f0) : Int) < ((x7_2.length : Int) : Int):=od_ qa_
                 obtain ⟨hx20_0,hf20_0⟩:=Kd.R_celln false HO_7.out (((rd_T83 l1 x8_2).f0) : Int) p20 q20
                 replace p20:=eq_true p20
                 replace q20:=eq_true q20
                 have HP24:=Kd.R_putg HO_7.out (((rd_T83 l1 x8_2).f0) : Int) true
                 go_wp2_with (first|((with_reducible refine gate_store (t:=4) (p:=47) rfl ?_);refine store_event (t:=4) (p:=47) (v:=?vo_w25) (w1:=(wr.setCell ⟨go8,(((rd_T83 l1 x8_2).f0) : Int).toNat,none⟩ (.bool true))) ?hg ?ho ?hn ?hr ?_;(case ho => rfl);(case hg => rfl);(case hn => rfl);(case hr => first|(go_simp;done)|(go_simp;rfl));intro w25 hw;have hg : wr.grownBy w25 (some go8):=(by rw [hw];exact HP24.2);have hp_ : Kd.R Kd.bool 4 w25 w.heap.size (fun _ => True) (.slice (some ⟨go8,0,none⟩) x7_2.length co8) y435:=(by rw [hw,Ny435.out];exact HP24.1);clear HP24;have n0_:=mk_ (hp_);have n1_:=mk_ ((by rw [hw];exact bs_ (HB.out) GB8.out : Below w.heap.size w w25));clear HO_7 HB;have HO_7:=n0_;have HB:=n1_;clear n0_ n1_ hg hw hp_;have p436 : 0 ≤ (x8_2 : Int):=od_ qa_;have q436 : x8_2 < (l1.length : Int):=od_ qa_;obtain ⟨ad436,e436,hx436_0,hx436_1,hx436_2⟩:=at_T83 HR1.out x8_2 p436 q436;obtain rfl : ad432 = ad436:=(by injection e436);replace hx436_0:=(HB.out.cell (wl_ w _ hx436_0)).trans hx436_0;replace hx436_1:=(HB.out.cell (wl_ w _ hx436_1)).trans hx436_1;replace hx436_2:=(HB.out.cell (wl_ w _ hx436_2)).trans hx436_2;replace p436:=eq_true p436;replace q436:=eq_true q436;have p23 : 0 ≤ (((rd_T83 l1 x8_2).f1) : Int):=od_ qa_;have q23 : (((rd_T83 l1 x8_2).f1) : Int) < ((x7_2.length : Int) : Int):=od_ qa_;obtain ⟨hx23_0,hf23_0⟩:=Kd.R_celln false HO_7.out (((rd_T83 l1 x8_2).f1) : Int) p23 q23;replace p23:=eq_true p23;replace q23:=eq_true q23;obtain ⟨hy26_,hz26_⟩:=Kd.R_celln false HO_7.out (((rd_T83 l1 x8_2).f1) : Int) (od_ qa_) (od_ qa_);have HP26:=Kd.R_putg HO_7.out (((rd_T83 l1 x8_2).f1) : Int) true)|((with_reducible refine gate_store (t:=4) (p:=54) rfl ?_);refine store_event (t:=4) (p:=54) (v:=?vo_w27) (w1:=(w25.setCell ⟨go8,(((rd_T83 l1 x8_2).f1) : Int).toNat,none⟩ (.bool true))) ?hg ?ho ?hn ?hr ?_;(case ho => rfl);(case hg => rfl);(case hn => rfl);(case hr => first|(go_simp;done)|(go_simp;rfl));intro w27 hw;have hg : w25.grownBy w27 (some go8):=(by rw [hw];exact HP26.2);have hp_ : Kd.R Kd.bool 4 w27 w.heap.size (fun _ => True) (.slice (some ⟨go8,0,none⟩) x7_2.length co8) y437:=(by rw [hw,Ny437.out];exact HP26.1);clear HP26;have n0_:=mk_ (hp_);have n1_:=mk_ ((by rw [hw];exact bs_ (HB.out) GB8.out : Below w.heap.size w w27));clear HO_7 HB;have HO_7:=n0_;have HB:=n1_;clear n0_ n1_ hg hw hp_))
                 (try simp only [← hl7_2])
                 go_roundg k2
                 case measure => have:=HK1.out;have:=HK2.out;omega
                 case rel => exact ⟨(y437),(wrap64 (x8_2 + 1)),qf_,H',⟨by have:=HK1.out;have:=HK2.out;omega⟩,⟨by (try simp only [hl7_1]);(try simp only [hl7_2]);(with_reducible repeat (first|apply ra_|apply rn_|apply rd_));exact HO_7.out⟩,⟨u1_ HB⟩⟩
                ·rw [if_neg c22] at H
                 exact absurd H (by simp)
               ·rw [if_neg c21] at H
                exact absurd H (by simp)
              ·replace c19:=Bool.eq_false_iff.mpr c19
               subst c19
               have H1 : (if 0 ≤ ((rd_T83 l1 x8_2).f1) then (if ((rd_T83 l1 x8_2).f1) < (x7_2.length : Int) then (if rdOf false x7_2 ((rd_T83 l1 x8_2).f1) = true then (spec_l7Joined.l1 k2 l1 ((x7_2.set (((rd_T83 l1 x8_2).f0) : Int).toNat true).set (((rd_T83 l1 x8_2).f1) : Int).toNat true) (wrap64 (x8_2 + 1)) a0 x15_1) else (spec_l7Joined.l1 k2 l1 x7_2 (wrap64 (x8_2 + 1)) a0 x15_1)) else (none)) else (none)) = some r:=by rw [if_neg (show ¬ (false = true) by decide)] at H;exact H
               clear H
               have H:=H1
               clear H1
               by_cases c28 : 0 ≤ ((rd_T83 l1 x8_2).f1)
               ·rw [if_pos c28] at H
                have c28b0 : decide (0 ≤ ((rd_T83 l1 x8_2).f1)) = true:=decide_eq_true c28
                clear c28
                by_cases c29 : ((rd_T83 l1 x8_2).f1) < (x7_2.length : Int)
                ·rw [if_pos c29] at H
                 have c29b0 : decide (((rd_T83 l1 x8_2).f1) < (x7_2.length : Int)) = true:=decide_eq_true c29
                 clear c29
                 obtain ⟨bq30,hbq30⟩ : ∃ b_ : Bool,b_ = (rdOf false x7_2 ((rd_T83 l1 x8_2).f1)):=⟨_,rfl⟩
                 replace H : (if bq30 = true then (spec_l7Joined.l1 k2 l1 ((x7_2.set (((rd_T83 l1 x8_2).f0) : Int).toNat true).set (((rd_T83 l1 x8_2).f1) : Int).toNat true) (wrap64 (x8_2 + 1)) a0 x15_1) else (spec_l7Joined.l1 k2 l1 x7_2 (wrap64 (x8_2 + 1)) a0 x15_1)) = some r:=by rw [← hbq30] at H;exact H
                 have Nbq30:=mk_ hbq30
                 clear hbq30
                 by_cases c31 : bq30 = true
                 ·subst c31
                  have H1 : (spec_l7Joined.l1 k2 l1 ((x7_2.set (((rd_T83 l1 x8_2).f0) : Int).toNat true).set (((rd_T83 l1 x8_2).f1) : Int).toNat true) (wrap64 (x8_2 + 1)) a0 x15_1) = some r:=by rw [if_pos rfl] at H;exact H
                  clear H
                  have H:=H1
                  clear H1
                  obtain ⟨y441,hy441⟩ : ∃ y_ : List Bool,y_ = (x7_2.set (((rd_T83 l1 x8_2).f0) : Int).toNat true):=⟨_,rfl⟩
                  replace H : (spec_l7Joined.l1 k2 l1 (y441.set (((rd_T83 l1 x8_2).f1) : Int).toNat true) (wrap64 (x8_2 + 1)) a0 x15_1) = some r:=by first|(rw [hy441];with_reducible exact H)|(have H2_:=(Option.bind_some _ _).symm.trans H;rw [hy441];with_reducible exact H2_)|(have H2_:=(Option.bind_some _ _).symm.trans H;with_reducible exact H2_)|with_reducible exact H|(rw [hy441];exact H)|exact H
                  have Ny441:=mk_ hy441
                  clear hy441
                  obtain ⟨y443,hy443⟩ : ∃ y_ : List Bool,y_ = (y441.set (((rd_T83 l1 x8_2).f1) : Int).toNat true):=⟨_,rfl⟩
                  replace H : (spec_l7Joined.l1 k2 l1 y443 (wrap64 (x8_2 + 1)) a0 x15_1) = some r:=by first|(rw [hy443];with_reducible exact H)|(have H2_:=(Option.bind_some _ _).symm.trans H;rw [hy443];with_reducible exact H2_)|(have H2_:=(Option.bind_some _ _).symm.trans H;with_reducible exact H2_)|with_reducible exact H|(rw [hy443];exact H)|exact H
                  have Ny443:=mk_ hy443
                  clear hy443
                  have H':=mk_ H
                  clear H
                  have p432 : 0 ≤ (x8_2 : Int):=od_ qa_
                  have q432 : x8_2 < (l1.length : Int):=od_ qa_
                  obtain ⟨ad432,e432,hx432_0,hx432_1,hx432_2⟩:=at_T83 HR1.out x8_2 p432 q432
                  cases e432
                  replace hx432_0:=(HB.out.cell (wl_ w _ hx432_0)).trans hx432_0
                  replace hx432_1:=(HB.out.cell (wl_ w _ hx432_1)).trans hx432_1
                  replace hx432_2:=(HB.out.cell (wl_ w _ hx432_2)).trans hx432_2
                  replace p432:=eq_true p432
                  replace q432:=eq_true q432
                  have p433 : 0 ≤ (((rd_T83 l1 x8_2).f0) : Int):=od_ qa_
                  have q433 : ((rd_T83 l1 x8_2).f0) < (x7_2.length : Int):=od_ qa_
                  obtain ⟨ad433,e433,hx433_0⟩:=Kd.at_bool (rr_ HO_7.out).2.2 ((rd_T83 l1 x8_2).f0) p433 q433
                  (try rw [← Nbq18.out] at hx433_0)
                  (try rw [← Nbq30.out] at hx433_0)
                  obtain rfl : (⟨go8,0,none⟩ : Addr) = ad433:=(by injection e433)
                  (first|simp only [add_plain] at hx433_0|simp only [add_at] at hx433_0|simp only [Addr.add,Nat.zero_add] at hx433_0|skip)
                  replace p433:=eq_true p433
                  replace q433:=eq_true q433
                  have p438 : 0 ≤ (x8_2 : Int):=od_ qa_
                  have q438 : x8_2 < (l1.length : Int):=od_ qa_
                  obtain ⟨ad438,e438,hx438_0,hx438_1,hx438_2⟩:=at_T83 HR1.out x8_2 p438 q438
                  obtain rfl : ad432 = ad438:=(by injection e438)
                  replace hx438_0:=(HB.out.cell (wl_ w _ hx438_0)).trans hx438_0
                  replace hx438_1:=(HB.out.cell (wl_ w _ hx438_1)).trans hx438_1
                  replace hx438_2:=(HB.out.cell (wl_ w _ hx438_2)).trans hx438_2
                  replace p438:=eq_true p438
                  replace q438:=eq_true q438
                  have p439 : 0 ≤ (((rd_T83 l1 x8_2).f1) : Int):=od_ qa_
                  have q439 : ((rd_T83 l1 x8_2).f1) < (x7_2.length : Int):=od_ qa_
                  obtain ⟨ad439,e439,hx439_0⟩:=Kd.at_bool (rr_ HO_7.out).2.2 ((rd_T83 l1 x8_2).f1) p439 q439
                  (try rw [← Nbq18.out] at hx439_0)
                  (try rw [← Nbq30.out] at hx439_0)
                  obtain rfl : (⟨go8,0,none⟩ : Addr) = ad439:=(by injection e439)
                  (first|simp only [add_plain] at hx439_0|simp only [add_at] at hx439_0|simp only [Addr.add,Nat.zero_add] at hx439_0|skip)
                  replace p439:=eq_true p439
                  replace q439:=eq_true q439
                  have p440 : 0 ≤ (x8_2 : Int):=od_ qa_
                  have q440 : x8_2 < (l1.length : Int):=od_ qa_
                  obtain ⟨ad440,e440,hx440_0,hx440_1,hx440_2⟩:=at_T83 HR1.out x8_2 p440 q440
                  obtain rfl : ad432 = ad440:=(by injection e440)
                  replace hx440_0:=(HB.out.cell (wl_ w _ hx440_0)).trans hx440_0
                  replace hx440_1:=(HB.out.cell (wl_ w _ hx440_1)).trans hx440_1
                  replace hx440_2:=(HB.out.cell (wl_ w _ hx440_2)).trans hx440_2
                  replace p440:=eq_true p440
                  replace q440:=eq_true q440
                  have p32 : 0 ≤ (((rd_T83 l1 x8_2).f0) : Int):=od_ qa_
                  have q32 : (((rd_T83 l1 x8_2).f0) : Int) < ((x7_2.length : Int) : Int):=od_ qa_
                  obtain ⟨hx32_0,hf32_0⟩:=Kd.R_celln false HO_7.out (((rd_T83 l1 x8_2).f0) : Int) p32 q32
                  replace p32:=eq_true p32
                  replace q32:=eq_true q32
                  have HP34:=Kd.R_putg HO_7.out (((rd_T83 l1 x8_2).f0) : Int) true
                  go_wp2_with (first|((with_reducible refine gate_store (t:=4) (p:=47) rfl ?_);refine store_event (t:=4) (p:=47) (v:=?vo_w35) (w1:=(wr.setCell ⟨go8,(((rd_T83 l1 x8_2).f0) : Int).toNat,none⟩ (.bool true))) ?hg ?ho ?hn ?hr ?_;(case ho => rfl);(case hg => rfl);(case hn => rfl);(case hr => first|(go_simp;done)|(go_simp;rfl));intro w35 hw;have hg : wr.grownBy w35 (some go8):=(by rw [hw];exact HP34.2);have hp_ : Kd.R Kd.bool 4 w35 w.heap.size (fun _ => True) (.slice (some ⟨go8,0,none⟩) x7_2.length co8) y441:=(by rw [hw,Ny441.out];exact HP34.1);clear HP34;have n0_:=mk_ (hp_);have n1_:=mk_ ((by rw [hw];exact bs_ (HB.out) GB8.out : Below w.heap.size w w35));clear HO_7 HB;have HO_7:=n0_;have HB:=n1_;clear n0_ n1_ hg hw hp_;have p442 : 0 ≤ (x8_2 : Int):=od_ qa_;have q442 : x8_2 < (l1.length : Int):=od_ qa_;obtain ⟨ad442,e442,hx442_0,hx442_1,hx442_2⟩:=at_T83 HR1.out x8_2 p442 q442;obtain rfl : ad432 = ad442:=(by injection e442);replace hx442_0:=(HB.out.cell (wl_ w _ hx442_0)).trans hx442_0;replace hx442_1:=(HB.out.cell (wl_ w _ hx442_1)).trans hx442_1;replace hx442_2:=(HB.out.cell (wl_ w _ hx442_2)).trans hx442_2;replace p442:=eq_true p442;replace q442:=eq_true q442;have p33 : 0 ≤ (((rd_T83 l1 x8_2).f1) : Int):=od_ qa_;have q33 : (((rd_T83 l1 x8_2).f1) : Int) < ((x7_2.length : Int) : Int):=od_ qa_;obtain ⟨hx33_0,hf33_0⟩:=Kd.R_celln false HO_7.out (((rd_T83 l1 x8_2).f1) : Int) p33 q33;replace p33:=eq_true p33;replace q33:=eq_true q33;obtain ⟨hy36_,hz36_⟩:=Kd.R_celln false HO_7.out (((rd_T83 l1 x8_2).f1) : Int) (od_ qa_) (od_ qa_);have HP36:=Kd.R_putg HO_7.out (((rd_T83 l1 x8_2).f1) : Int) true)|((with_reducible refine gate_store (t:=4) (p:=54) rfl ?_);refine store_event (t:=4) (p:=54) (v:=?vo_w37) (w1:=(w35.setCell ⟨go8,(((rd_T83 l1 x8_2).f1) : Int).toNat,none⟩ (.bool true))) ?hg ?ho ?hn ?hr ?_;(case ho => rfl);(case hg => rfl);(case hn => rfl);(case hr => first|(go_simp;done)|(go_simp;rfl));intro w37 hw;have hg : w35.grownBy w37 (some go8):=(by rw [hw];exact HP36.2);have hp_ : Kd.R Kd.bool 4 w37 w.heap.size (fun _ => True) (.slice (some ⟨go8,0,none⟩) x7_2.length co8) y443:=(by rw [hw,Ny443.out];exact HP36.1);clear HP36;have n0_:=mk_ (hp_);have n1_:=mk_ ((by rw [hw];exact bs_ (HB.out) GB8.out : Below w.heap.size w w37));clear HO_7 HB;have HO_7:=n0_;have HB:=n1_;clear n0_ n1_ hg hw hp_))
                  (try simp only [← hl7_2])
                  go_roundg k2
                  case measure => have:=HK1.out;have:=HK2.out;omega
                  case rel => exact ⟨(y443),(wrap64 (x8_2 + 1)),qf_,H',⟨by have:=HK1.out;have:=HK2.out;omega⟩,⟨by (try simp only [hl7_1]);(try simp only [hl7_2]);(with_reducible repeat (first|apply ra_|apply rn_|apply rd_));exact HO_7.out⟩,⟨u1_ HB⟩⟩
                 ·replace c31:=Bool.eq_false_iff.mpr c31
                  subst c31
                  have H1 : (spec_l7Joined.l1 k2 l1 x7_2 (wrap64 (x8_2 + 1)) a0 x15_1) = some r:=by rw [if_neg (show ¬ (false = true) by decide)] at H;exact H
                  clear H
                  have H:=H1
                  clear H1
                  have H':=mk_ H
                  clear H
                  have p432 : 0 ≤ (x8_2 : Int):=od_ qa_
                  have q432 : x8_2 < (l1.length : Int):=od_ qa_
                  obtain ⟨ad432,e432,hx432_0,hx432_1,hx432_2⟩:=at_T83 HR1.out x8_2 p432 q432
                  cases e432
                  replace hx432_0:=(HB.out.cell (wl_ w _ hx432_0)).trans hx432_0
                  replace hx432_1:=(HB.out.cell (wl_ w _ hx432_1)).trans hx432_1
                  replace hx432_2:=(HB.out.cell (wl_ w _ hx432_2)).trans hx432_2
                  replace p432:=eq_true p432
                  replace q432:=eq_true q432
                  have p433 : 0 ≤ (((rd_T83 l1 x8_2).f0) : Int):=od_ qa_
                  have q433 : ((rd_T83 l1 x8_2).f0) < (x7_2.length : Int):=od_ qa_
                  obtain ⟨ad433,e433,hx433_0⟩:=Kd.at_bool (rr_ HO_7.out).2.2 ((rd_T83 l1 x8_2).f0) p433 q433
                  (try rw [← Nbq18.out] at hx433_0)
                  (try rw [← Nbq30.out] at hx433_0)
                  obtain rfl : (⟨go8,0,none⟩ : Addr) = ad433:=(by injection e433)
                  (first|simp only [add_plain] at hx433_0|simp only [add_at] at hx433_0|simp only [Addr.add,Nat.zero_add] at hx433_0|skip)
                  replace p433:=eq_true p433
                  replace q433:=eq_true q433
                  have p438 : 0 ≤ (x8_2 : Int):=od_ qa_
                  have q438 : x8_2 < (l1.length : Int):=od_ qa_
                  obtain ⟨ad438,e438,hx438_0,hx438_1,hx438_2⟩:=at_T83 HR1.out x8_2 p438 q438
                  obtain rfl : ad432 = ad438:=(by injection e438)
                  replace hx438_0:=(HB.out.cell (wl_ w _ hx438_0)).trans hx438_0
                  replace hx438_1:=(HB.out.cell (wl_ w _ hx438_1)).trans hx438_1
                  replace hx438_2:=(HB.out.cell (wl_ w _ hx438_2)).trans hx438_2
                  replace p438:=eq_true p438
                  replace q438:=eq_true q438
                  have p439 : 0 ≤ (((rd_T83 l1 x8_2).f1) : Int):=od_ qa_
                  have q439 : ((rd_T83 l1 x8_2).f1) < (x7_2.length : Int):=od_ qa_
                  obtain ⟨ad439,e439,hx439_0⟩:=Kd.at_bool (rr_ HO_7.out).2.2 ((rd_T83 l1 x8_2).f1) p439 q439
                  (try rw [← Nbq18.out] at hx439_0)
                  (try rw [← Nbq30.out] at hx439_0)
                  obtain rfl : (⟨go8,0,none⟩ : Addr) = ad439:=(by injection e439)
                  (first|simp only [add_plain] at hx439_0|simp only [add_at] at hx439_0|simp only [Addr.add,Nat.zero_add] at hx439_0|skip)
                  replace p439:=eq_true p439
                  replace q439:=eq_true q439
                  go_wp2
                  (try simp only [← hl7_2])
                  go_roundg k2
                  case measure => have:=HK1.out;have:=HK2.out;omega
                  case rel => exact ⟨(x7_2),(wrap64 (x8_2 + 1)),qf_,H',⟨by have:=HK1.out;have:=HK2.out;omega⟩,⟨by (try simp only [hl7_1]);(try simp only [hl7_2]);(with_reducible repeat (first|apply ra_|apply rn_|apply rd_));exact HO_7.out⟩,⟨u1_ HB⟩⟩
                ·rw [if_neg c29] at H
                 exact absurd H (by simp)
               ·rw [if_neg c28] at H
                exact absurd H (by simp)
             ·rw [if_neg c17] at H
              exact absurd H (by simp)
            ·rw [if_neg c16] at H
             exact absurd H (by simp)
           ·rw [if_neg c15] at H
            exact absurd H (by simp)
          ·rw [if_neg c14] at H
           have c14b0 : decide (x8_2 < (l1.length : Int)) = false:=decide_eq_false c14
           clear c14
           have H':=mk_ H
           clear H
           go_wp2
           (try simp only [← hl7_1,← hl7_2])
           go_roundg k2
           case measure => have:=HK1.out;have:=HK2.out;omega
           case rel => exact ⟨(x7_2),(wrap64 (x15_1 + 1)),qf_,H',⟨by have:=HK1.out;have:=HK2.out;omega⟩,⟨by (try simp only [hl7_1]);(try simp only [hl7_2]);(with_reducible repeat (first|apply ra_|apply rn_|apply rd_));exact HO_7.out⟩,⟨u1_ HB⟩⟩
       ·rw [if_neg c13] at H
        have c13b0 : decide (x15_1 < a0) = false:=decide_eq_false c13
        clear c13
        obtain rfl:=Option.some.inj H
        go_wp2
        go_ret
        exact ⟨_,qe_,qr_ HO_7,u1_ HB⟩
    ·rw [if_neg c7] at H
     exact absurd H (by simp)
   ·rw [if_neg c6] at H
    exact absurd H (by simp)
  ·rw [if_neg c5] at H
   exact absurd H (by simp)
 ·rw [if_neg c4] at H
  exact absurd H (by simp)
end Go.Proofs.Ytblcnbnphjnhdaa.PAll
