/- Proved here: contracts of functions of the given program, or lemmas on them, for the laws of this seat. Written by xprint.py, a program of this session, on the ground of the kit's print; parts by hand: wip/x/ext. -/
import Derived.Test.YtdamdcdjodmemaaPAllx0
import Derived.Test.YtdamdcdjodmemaaPAllx1
import Derived.Test.YtdamdcdjodmemaaPAllx5
namespace Go.Proofs.Ytdamdcdjodmemaa.PAll
open Go.RowKit Go.Proofs.YtdamdcdjodmemaaW.PrintWords Go.Proofs.YtdamdcdjodmemaaW.PrintLast Go.Proofs.YtdamdcdjodmemaaW.PrintMore
attribute [local go_sem] max2_int min2_int max_two min_two max_three min_three max_four min_four   -- for this text's walks alone
set_option linter.unusedVariables false
set_option linter.unusedSimpArgs false

/-! ### impl_Cable_other: function 82 -/
def impl_Cable_other.f (a0_0 : Int) (a0_1 : Int) (a0_2 : Int) (a1 : Int) : Option (Int × Bool):=if a1 = a0_0 then (some (a0_1,true)) else (if a1 = a0_1 then (some (a0_0,true)) else (some (0,false)))
set_option maxHeartbeats 8000000 in
set_option maxRecDepth 100000 in
theorem impl_Cable_other.calls (a0_0 : Int) (a0_1 : Int) (a0_2 : Int) (a1 : Int) (r1 : Int) (r2 : Bool) (w : World) (h : impl_Cable_other.f a0_0 a0_1 a0_2 a1 = some (r1,r2)) :
  Calls Try.prog 82 #[.agg #[.int .i64 a0_0,.int .i64 a0_1,.int .i64 a0_2],.int .i64 a1] w fun e w' => e = .returned (.tuple #[.int .i64 r1,.bool r2]) ∧ Below w.heap.size w w':=by
 have hu51:=Try.underlying51
 have HB:=mk_ (Below.refl w.heap.size w)
 have H : (if a1 = a0_0 then (some (a0_1,true)) else (if a1 = a0_1 then (some (a0_0,true)) else (some (0,false)))) = some (r1,r2):=h
 clear h
 by_cases c3 : a1 = a0_0
 ·rw [if_pos c3] at H
  have c3b0 : (a1 == a0_0) = true:=beq_iff_eq.mpr c3
  have c3b1 : (a1 != a0_0) = false:=bne_eq_false_iff_eq.mpr c3
  clear c3
  simp only [Option.some.injEq,Prod.mk.injEq] at H
  obtain ⟨rfl,rfl⟩:=H
  go_enter Try.func82,Try.ntmps82
  go_wp2_with (first|((with_reducible refine gate_dst (N:=2) rfl ?_);refine box_event ?hg (N:=2) ?hd (cs:=#[.int .i64 a0_0,.int .i64 a0_1,.int .i64 a0_2]) (t:=51) ?hr ?_;(case hd => rfl);(case hg => rfl);(case hr => first|(go_simp;done)|(go_simp;rfl));intro gb294 hg w4 hbox hb;have n0_:=mk_ (st_ (qb_ HB) hb);have n1_:=mk_ (hbox);have n2_:=mk_ ((by rw [hg];exact (bz_ (qb_ HB)) : w.heap.size ≤ gb294));have n3_:=mk_ ((by rw [hg];exact (bz_ (qb_ HB)) : w.heap.size ≤ gb294));clear HB;have HB:=n0_;have BK294:=n1_;have GW294:=n2_;have GE294:=n3_;clear n0_ n1_ n2_ n3_;clear hb hbox hg;have hcz5_0 : w4.cell? ⟨gb294,0,none⟩ = some (.int .i64 a0_0):=(bc_ BK294.out 0).trans rfl;have hcz5_1 : w4.cell? ⟨gb294,1,none⟩ = some (.int .i64 a0_1):=(bc_ BK294.out 1).trans rfl;have hcz5_2 : w4.cell? ⟨gb294,2,none⟩ = some (.int .i64 a0_2):=(bc_ BK294.out 2).trans rfl;have hfz5_0:=bf_ BK294.out 0;have hfz5_1:=bf_ BK294.out 1;have hfz5_2:=bf_ BK294.out 2))
  go_ret2
  exact ⟨by first|rfl|(simp [errW_none,errW_some] <;> rfl)|(simp [*,errW_none,errW_some] <;> rfl),by repeat (first|(with_reducible first|exact HB.out|apply ba_|apply bn_|apply bd_|refine bs_ ?_ GE294.out)|exact HB.out)⟩
 ·rw [if_neg c3] at H
  have c3b0 : (a1 == a0_0) = false:=beq_eq_false_iff_ne.mpr c3
  have c3b1 : (a1 != a0_0) = true:=bne_iff_ne.mpr c3
  by_cases c6 : a1 = a0_1
  ·rw [if_pos c6] at H
   have c6b0 : (a1 == a0_1) = true:=beq_iff_eq.mpr c6
   have c6b1 : (a1 != a0_1) = false:=bne_eq_false_iff_eq.mpr c6
   clear c6
   simp only [Option.some.injEq,Prod.mk.injEq] at H
   obtain ⟨rfl,rfl⟩:=H
   go_enter Try.func82,Try.ntmps82
   go_wp2_with (first|((with_reducible refine gate_dst (N:=2) rfl ?_);refine box_event ?hg (N:=2) ?hd (cs:=#[.int .i64 a0_0,.int .i64 a0_1,.int .i64 a0_2]) (t:=51) ?hr ?_;(case hd => rfl);(case hg => rfl);(case hr => first|(go_simp;done)|(go_simp;rfl));intro gb294 hg w7 hbox hb;have n0_:=mk_ (st_ (qb_ HB) hb);have n1_:=mk_ (hbox);have n2_:=mk_ ((by rw [hg];exact (bz_ (qb_ HB)) : w.heap.size ≤ gb294));have n3_:=mk_ ((by rw [hg];exact (bz_ (qb_ HB)) : w.heap.size ≤ gb294));clear HB;have HB:=n0_;have BK294:=n1_;have GW294:=n2_;have GE294:=n3_;clear n0_ n1_ n2_ n3_;clear hb hbox hg;have hcz8_0 : w7.cell? ⟨gb294,0,none⟩ = some (.int .i64 a0_0):=(bc_ BK294.out 0).trans rfl;have hcz8_1 : w7.cell? ⟨gb294,1,none⟩ = some (.int .i64 a0_1):=(bc_ BK294.out 1).trans rfl;have hcz8_2 : w7.cell? ⟨gb294,2,none⟩ = some (.int .i64 a0_2):=(bc_ BK294.out 2).trans rfl;have hfz8_0:=bf_ BK294.out 0;have hfz8_1:=bf_ BK294.out 1;have hfz8_2:=bf_ BK294.out 2))
   go_ret2
   exact ⟨by first|rfl|(simp [errW_none,errW_some] <;> rfl)|(simp [*,errW_none,errW_some] <;> rfl),by repeat (first|(with_reducible first|exact HB.out|apply ba_|apply bn_|apply bd_|refine bs_ ?_ GE294.out)|exact HB.out)⟩
  ·rw [if_neg c6] at H
   have c6b0 : (a1 == a0_1) = false:=beq_eq_false_iff_ne.mpr c6
   have c6b1 : (a1 != a0_1) = true:=bne_iff_ne.mpr c6
   simp only [Option.some.injEq,Prod.mk.injEq] at H
   obtain ⟨rfl,rfl⟩:=H
   go_enter Try.func82,Try.ntmps82
   go_wp2_with (first|((with_reducible refine gate_dst (N:=2) rfl ?_);refine box_event ?hg (N:=2) ?hd (cs:=#[.int .i64 a0_0,.int .i64 a0_1,.int .i64 a0_2]) (t:=51) ?hr ?_;(case hd => rfl);(case hg => rfl);(case hr => first|(go_simp;done)|(go_simp;rfl));intro gb294 hg w9 hbox hb;have n0_:=mk_ (st_ (qb_ HB) hb);have n1_:=mk_ (hbox);have n2_:=mk_ ((by rw [hg];exact (bz_ (qb_ HB)) : w.heap.size ≤ gb294));have n3_:=mk_ ((by rw [hg];exact (bz_ (qb_ HB)) : w.heap.size ≤ gb294));clear HB;have HB:=n0_;have BK294:=n1_;have GW294:=n2_;have GE294:=n3_;clear n0_ n1_ n2_ n3_;clear hb hbox hg;have hcz10_0 : w9.cell? ⟨gb294,0,none⟩ = some (.int .i64 a0_0):=(bc_ BK294.out 0).trans rfl;have hcz10_1 : w9.cell? ⟨gb294,1,none⟩ = some (.int .i64 a0_1):=(bc_ BK294.out 1).trans rfl;have hcz10_2 : w9.cell? ⟨gb294,2,none⟩ = some (.int .i64 a0_2):=(bc_ BK294.out 2).trans rfl;have hfz10_0:=bf_ BK294.out 0;have hfz10_1:=bf_ BK294.out 1;have hfz10_2:=bf_ BK294.out 2))
   go_ret2
   exact ⟨by first|rfl|(simp [errW_none,errW_some] <;> rfl)|(simp [*,errW_none,errW_some] <;> rfl),by repeat (first|(with_reducible first|exact HB.out|apply ba_|apply bn_|apply bd_|refine bs_ ?_ GE294.out)|exact HB.out)⟩

/-! ### impl_upOf: function 63 -/
def impl_upOf.l0 : Nat → List Int → Int → Int → Int → List (S51) → Int → Int → Option (Int × Int)
 | 0,_,_,_,_,_,_,_ => none
 | k + 1,x1,x2,x8,x9,x14,x15,x16 => if x16 < x15 then (if 0 ≤ x16 then (if x16 < (x14.length : Int) then ((impl_Cable_other.f ((rd_T51 x14 x16).f0) ((rd_T51 x14 x16).f1) ((rd_T51 x14 x16).f2) x2).bind fun bt297 => (if bt297.2 = true then (if 0 ≤ bt297.1 then (if bt297.1 < (x1.length : Int) then (if 0 ≤ x2 then (if x2 < (x1.length : Int) then (if (wrap64 ((rd x1 bt297.1) + ((rd_T51 x14 x16).f2))) = (rd x1 x2) then (if x8 < 0 then (impl_upOf.l0 k x1 x2 x16 bt297.1 x14 x15 (wrap64 (x16 + 1))) else (if bt297.1 < x9 then (impl_upOf.l0 k x1 x2 x16 bt297.1 x14 x15 (wrap64 (x16 + 1))) else (impl_upOf.l0 k x1 x2 x8 x9 x14 x15 (wrap64 (x16 + 1))))) else (impl_upOf.l0 k x1 x2 x8 x9 x14 x15 (wrap64 (x16 + 1)))) else (none)) else (none)) else (none)) else (none)) else (impl_upOf.l0 k x1 x2 x8 x9 x14 x15 (wrap64 (x16 + 1))))) else (none)) else (none)) else (some (x8,x9))
def impl_upOf.f (k : Nat) (l0 : List (S51)) (l1 : List Int) (a2 : Int) : Option (Int × Int):=impl_upOf.l0 k l1 a2 (-1) (-1) l0 (l0.length : Int) 0
theorem impl_upOf.mono_l : ∀ k,(∀ y0 y1 y2 y3 y4 y5 y6,LeO (impl_upOf.l0 k y0 y1 y2 y3 y4 y5 y6) (impl_upOf.l0 (k + 1) y0 y1 y2 y3 y4 y5 y6))
 | 0 => fun _ _ _ _ _ _ _ r h => by simp [impl_upOf.l0] at h
 | k + 1 => by
  have ih0:=impl_upOf.mono_l k
  ·intro y0 y1 y2 y3 y4 y5 y6
   unfold impl_upOf.l0
   repeat' first
   | (with_reducible exact ih0 _ _ _ _ _ _ _)
   | (with_reducible exact LeO.refl _)
   | (with_reducible exact LeO.none _)
   | (with_reducible refine LeO.ite ?_ ?_)
   | (with_reducible refine LeO.bind ?_ (fun _ => ?_))
   | exact ih0 _ _ _ _ _ _ _
   | exact LeO.none _
   | refine LeO.ite ?_ ?_
   | refine LeO.bind ?_ (fun _ => ?_)
theorem impl_upOf.mono : ∀ a0 a1 a2 k,LeO (impl_upOf.f k a0 a1 a2) (impl_upOf.f (k + 1) a0 a1 a2):=by
 intro a0 a1 a2 k
 have ih0:=impl_upOf.mono_l k
 unfold impl_upOf.f
 repeat' first
   | (with_reducible exact ih0 _ _ _ _ _ _ _)
   | (with_reducible exact LeO.refl _)
   | (with_reducible exact LeO.none _)
   | (with_reducible refine LeO.ite ?_ ?_)
   | (with_reducible refine LeO.bind ?_ (fun _ => ?_))
   | exact ih0 _ _ _ _ _ _ _
   | exact LeO.none _
   | refine LeO.ite ?_ ?_
   | refine LeO.bind ?_ (fun _ => ?_)
set_option maxHeartbeats 8000000 in
set_option maxRecDepth 100000 in
theorem impl_upOf.calls (k : Nat) (A0 : Option Addr) (c0 : Nat) (l0 : List (S51)) (A1 : Option Addr) (c1 : Nat) (l1 : List Int) (a2 : Int) (r1 : Int) (r2 : Int) (w : World) (hr0 : Kd.C k51 w A0 l0.length l0) (hc0 : l0.length ≤ c0) (hr1 : Kd.C (Kd.int .i64) w A1 l1.length l1) (hc1 : l1.length ≤ c1) (h : impl_upOf.f k l0 l1 a2 = some (r1,r2)) :
  Calls Try.prog 63 #[.slice A0 l0.length c0,.slice A1 l1.length c1,.int .i64 a2] w fun e w' => e = .returned (.tuple #[.int .i64 r1,.int .i64 r2]) ∧ Below w.heap.size w w':=by
 have hu51:=Try.underlying51
 have HR0:=mk_ hr0
 have HC0:=mk_ hc0
 clear hr0 hc0
 have HR1:=mk_ hr1
 have HC1:=mk_ hc1
 clear hr1 hc1
 have HB:=mk_ (Below.refl w.heap.size w)
 have H : (impl_upOf.l0 k l1 a2 (-1) (-1) l0 (l0.length : Int) 0) = some (r1,r2):=h
 clear h
 have H':=mk_ H
 clear H
 go_enter Try.func63,Try.ntmps63
 go_wp2
 repeat (go_quiet (fail);try go_wp2)
 go_loopg [8,9,16] k (fun kq v8 v9 v16 w' => ∃ (x8_1 : Int) (x9_1 : Int) (x16_1 : Int),v8 = .int .i64 x8_1 ∧ v9 = .int .i64 x9_1 ∧ v16 = .int .i64 x16_1 ∧ Aside0 (impl_upOf.l0 kq l1 a2 x8_1 x9_1 l0 (l0.length : Int) x16_1 = some (r1,r2)) ∧ Aside0 (kq ≤ k) ∧ Aside0 (Below w.heap.size w w'))
 case atStart => exact ⟨((-1)),((-1)),(0),(by first|rfl|(simp;done)|(simp [*];done)),(by first|rfl|(simp;done)|(simp [*];done)),(by first|rfl|(simp;done)|(simp [*];done)),H',⟨Nat.le_refl _⟩,⟨by repeat (first|(with_reducible first|exact HB.out|apply ba_|apply bn_|apply bd_)|exact HB.out)⟩⟩
 case round =>
  clear H'
  try clear c1
  try clear p2
  obtain ⟨x8_1,x9_1,x16_1,rfl,rfl,rfl,HA,HK1,HB⟩:=hrel
  cases gk with
  | zero => exact absurd HA.out (by simp [impl_upOf.l0])
  | succ k1 =>
   have H:=HA.out
   clear HA
   simp only [impl_upOf.l0] at H
   by_cases c4 : x16_1 < (l0.length : Int)
   ·rw [if_pos c4] at H
    have c4b0 : decide (x16_1 < (l0.length : Int)) = true:=decide_eq_true c4
    clear c4
    by_cases c5 : 0 ≤ x16_1
    ·rw [if_pos c5] at H
     have c5b0 : decide (0 ≤ x16_1) = true:=decide_eq_true c5
     clear c5
     by_cases c6 : x16_1 < (l0.length : Int)
     ·rw [if_pos c6] at H
      have c6b0 : decide (x16_1 < (l0.length : Int)) = true:=decide_eq_true c6
      clear c6
      replace H:=Option.bind_eq_some_iff.mp H
      obtain ⟨⟨t297,t298⟩,A70,H⟩:=H
      replace H : (if t298 = true then (if 0 ≤ t297 then (if t297 < (l1.length : Int) then (if 0 ≤ a2 then (if a2 < (l1.length : Int) then (if (wrap64 ((rd l1 t297) + ((rd_T51 l0 x16_1).f2))) = (rd l1 a2) then (if x8_1 < 0 then (impl_upOf.l0 k1 l1 a2 x16_1 t297 l0 (l0.length : Int) (wrap64 (x16_1 + 1))) else (if t297 < x9_1 then (impl_upOf.l0 k1 l1 a2 x16_1 t297 l0 (l0.length : Int) (wrap64 (x16_1 + 1))) else (impl_upOf.l0 k1 l1 a2 x8_1 x9_1 l0 (l0.length : Int) (wrap64 (x16_1 + 1))))) else (impl_upOf.l0 k1 l1 a2 x8_1 x9_1 l0 (l0.length : Int) (wrap64 (x16_1 + 1)))) else (none)) else (none)) else (none)) else (none)) else (impl_upOf.l0 k1 l1 a2 x8_1 x9_1 l0 (l0.length : Int) (wrap64 (x16_1 + 1)))) = some (r1,r2):=H
      have A7:=mk_ A70
      clear A70
      by_cases c8 : t298 = true
      ·subst c8
       have H1 : (if 0 ≤ t297 then (if t297 < (l1.length : Int) then (if 0 ≤ a2 then (if a2 < (l1.length : Int) then (if (wrap64 ((rd l1 t297) + ((rd_T51 l0 x16_1).f2))) = (rd l1 a2) then (if x8_1 < 0 then (impl_upOf.l0 k1 l1 a2 x16_1 t297 l0 (l0.length : Int) (wrap64 (x16_1 + 1))) else (if t297 < x9_1 then (impl_upOf.l0 k1 l1 a2 x16_1 t297 l0 (l0.length : Int) (wrap64 (x16_1 + 1))) else (impl_upOf.l0 k1 l1 a2 x8_1 x9_1 l0 (l0.length : Int) (wrap64 (x16_1 + 1))))) else (impl_upOf.l0 k1 l1 a2 x8_1 x9_1 l0 (l0.length : Int) (wrap64 (x16_1 + 1)))) else (none)) else (none)) else (none)) else (none)) = some (r1,r2):=by rw [if_pos rfl] at H;exact H
       clear H
       have H:=H1
       clear H1
       by_cases c9 : 0 ≤ t297
       ·rw [if_pos c9] at H
        have c9b0 : decide (0 ≤ t297) = true:=decide_eq_true c9
        clear c9
        by_cases c10 : t297 < (l1.length : Int)
        ·rw [if_pos c10] at H
         have c10b0 : decide (t297 < (l1.length : Int)) = true:=decide_eq_true c10
         clear c10
         by_cases c11 : 0 ≤ a2
         ·rw [if_pos c11] at H
          have c11b0 : decide (0 ≤ a2) = true:=decide_eq_true c11
          clear c11
          by_cases c12 : a2 < (l1.length : Int)
          ·rw [if_pos c12] at H
           have c12b0 : decide (a2 < (l1.length : Int)) = true:=decide_eq_true c12
           clear c12
           by_cases c13 : (wrap64 ((rd l1 t297) + ((rd_T51 l0 x16_1).f2))) = (rd l1 a2)
           ·rw [if_pos c13] at H
            have c13b0 : ((wrap64 ((rd l1 t297) + ((rd_T51 l0 x16_1).f2))) == (rd l1 a2)) = true:=beq_iff_eq.mpr c13
            have c13b1 : ((wrap64 ((rd l1 t297) + ((rd_T51 l0 x16_1).f2))) != (rd l1 a2)) = false:=bne_eq_false_iff_eq.mpr c13
            clear c13
            by_cases c14 : x8_1 < 0
            ·rw [if_pos c14] at H
             have c14b0 : decide (x8_1 < 0) = true:=decide_eq_true c14
             clear c14
             have H':=mk_ H
             clear H
             have p295 : 0 ≤ (x16_1 : Int):=od_ qa_
             have q295 : x16_1 < (l0.length : Int):=od_ qa_
             obtain ⟨ad295,e295,hx295_0,hx295_1,hx295_2⟩:=at_T51 HR0.out x16_1 p295 q295
             cases e295
             replace hx295_0:=(HB.out.cell (wl_ w _ hx295_0)).trans hx295_0
             replace hx295_1:=(HB.out.cell (wl_ w _ hx295_1)).trans hx295_1
             replace hx295_2:=(HB.out.cell (wl_ w _ hx295_2)).trans hx295_2
             replace p295:=eq_true p295
             replace q295:=eq_true q295
             go_wp2_with (first|((with_reducible refine gate_dst (N:=11) rfl ?_);refine box_event ?hg (N:=11) ?hd (cs:=#[.int .i64 0,.int .i64 0,.int .i64 0]) (t:=51) ?hr ?_;(case hd => rfl);(case hg => rfl);(case hr => first|(go_simp;done)|(go_simp;rfl));intro gb296 hg w15 hbox hb;have n0_:=mk_ (st_ (qb_ HB) hb);have n1_:=mk_ (hbox);have n2_:=mk_ ((by rw [hg];exact (bz_ (qb_ HB)) : w.heap.size ≤ gb296));have n3_:=mk_ ((by rw [hg];exact (bz_ (qb_ HB)) : w.heap.size ≤ gb296));clear HB;have HB:=n0_;have BK296:=n1_;have GW296:=n2_;have GE296:=n3_;clear n0_ n1_ n2_ n3_;clear hb hbox hg;have hcz16_0 : w15.cell? ⟨gb296,0,none⟩ = some (.int .i64 0):=(bc_ BK296.out 0).trans rfl;have hcz16_1 : w15.cell? ⟨gb296,1,none⟩ = some (.int .i64 0):=(bc_ BK296.out 1).trans rfl;have hcz16_2 : w15.cell? ⟨gb296,2,none⟩ = some (.int .i64 0):=(bc_ BK296.out 2).trans rfl;have hfz16_0:=bf_ BK296.out 0;have hfz16_1:=bf_ BK296.out 1;have hfz16_2:=bf_ BK296.out 2)|(go_at_call 82;(with_reducible refine (impl_Cable_other.calls ((rd_T51 l0 x16_1).f0) ((rd_T51 l0 x16_1).f1) ((rd_T51 l0 x16_1).f2) a2 t297 true _ A7.out).mono ?_);rintro e w17 ⟨rfl,hb⟩;have n0_:=mk_ (blk_below (g:=gb296) (o:=.cells #[.int .i64 ((rd_T51 l0 x16_1).f0),.int .i64 ((rd_T51 l0 x16_1).f1),.int .i64 ((rd_T51 l0 x16_1).f2)] 51 (0,0)) (by (with_reducible repeat (first|refine kn_ ?_ _|refine kd_ ?_|refine ka_ ?_ _));refine blk_put (cs:=#[.int .i64 ((rd_T51 l0 x16_1).f0),.int .i64 ((rd_T51 l0 x16_1).f1),.int .i64 0]) ?_ 2 _ rfl;(with_reducible repeat (first|refine kn_ ?_ _|refine kd_ ?_|refine ka_ ?_ _));refine blk_put (cs:=#[.int .i64 ((rd_T51 l0 x16_1).f0),.int .i64 0,.int .i64 0]) ?_ 1 _ rfl;(with_reducible repeat (first|refine kn_ ?_ _|refine kd_ ?_|refine ka_ ?_ _));refine blk_put (cs:=#[.int .i64 0,.int .i64 0,.int .i64 0]) ?_ 0 _ rfl;(with_reducible repeat (first|refine kn_ ?_ _|refine kd_ ?_|refine ka_ ?_ _));exact BK296.out) hb);have n1_:=mk_ (st_ (qc_ HB GE296) hb);clear BK296;clear HB;have BK296:=n0_;have HB:=n1_;clear n0_ n1_;(try clear hb);(try clear hb2);(try clear hk);(try clear hi);have p299 : 0 ≤ (t297 : Int):=od_ qa_;have q299 : t297 < (l1.length : Int):=od_ qa_;obtain ⟨ad299,e299,hx299_0⟩:=Kd.at_int HR1.out t297 p299 q299;cases e299;replace hx299_0:=(HB.out.cell (wl_ w _ hx299_0)).trans hx299_0;replace p299:=eq_true p299;replace q299:=eq_true q299;have hcz18_0 : w17.cell? ⟨gb296,0,none⟩ = some (.int .i64 ((rd_T51 l0 x16_1).f0)):=(bc_ BK296.out 0).trans rfl;have hcz18_1 : w17.cell? ⟨gb296,1,none⟩ = some (.int .i64 ((rd_T51 l0 x16_1).f1)):=(bc_ BK296.out 1).trans rfl;have hcz18_2 : w17.cell? ⟨gb296,2,none⟩ = some (.int .i64 ((rd_T51 l0 x16_1).f2)):=(bc_ BK296.out 2).trans rfl;have hfz18_0:=bf_ BK296.out 0;have hfz18_1:=bf_ BK296.out 1;have hfz18_2:=bf_ BK296.out 2;have p300 : 0 ≤ (a2 : Int):=od_ qa_;have q300 : a2 < (l1.length : Int):=od_ qa_;obtain ⟨ad300,e300,hx300_0⟩:=Kd.at_int HR1.out a2 p300 q300;obtain rfl : ad299 = ad300:=(by injection e300);replace hx300_0:=(HB.out.cell (wl_ w _ hx300_0)).trans hx300_0;replace p300:=eq_true p300;replace q300:=eq_true q300))
             repeat (go_quiet (first|((with_reducible refine gate_dst (N:=11) rfl ?_);refine box_event ?hg (N:=11) ?hd (cs:=#[.int .i64 0,.int .i64 0,.int .i64 0]) (t:=51) ?hr ?_;(case hd => rfl);(case hg => rfl);(case hr => first|(go_simp;done)|(go_simp;rfl));intro gb296 hg w15 hbox hb;have n0_:=mk_ (st_ (qb_ HB) hb);have n1_:=mk_ (hbox);have n2_:=mk_ ((by rw [hg];exact (bz_ (qb_ HB)) : w.heap.size ≤ gb296));have n3_:=mk_ ((by rw [hg];exact (bz_ (qb_ HB)) : w.heap.size ≤ gb296));clear HB;have HB:=n0_;have BK296:=n1_;have GW296:=n2_;have GE296:=n3_;clear n0_ n1_ n2_ n3_;clear hb hbox hg;have hcz16_0 : w15.cell? ⟨gb296,0,none⟩ = some (.int .i64 0):=(bc_ BK296.out 0).trans rfl;have hcz16_1 : w15.cell? ⟨gb296,1,none⟩ = some (.int .i64 0):=(bc_ BK296.out 1).trans rfl;have hcz16_2 : w15.cell? ⟨gb296,2,none⟩ = some (.int .i64 0):=(bc_ BK296.out 2).trans rfl;have hfz16_0:=bf_ BK296.out 0;have hfz16_1:=bf_ BK296.out 1;have hfz16_2:=bf_ BK296.out 2)|(go_at_call 82;(with_reducible refine (impl_Cable_other.calls ((rd_T51 l0 x16_1).f0) ((rd_T51 l0 x16_1).f1) ((rd_T51 l0 x16_1).f2) a2 t297 true _ A7.out).mono ?_);rintro e w17 ⟨rfl,hb⟩;have n0_:=mk_ (blk_below (g:=gb296) (o:=.cells #[.int .i64 ((rd_T51 l0 x16_1).f0),.int .i64 ((rd_T51 l0 x16_1).f1),.int .i64 ((rd_T51 l0 x16_1).f2)] 51 (0,0)) (by (with_reducible repeat (first|refine kn_ ?_ _|refine kd_ ?_|refine ka_ ?_ _));refine blk_put (cs:=#[.int .i64 ((rd_T51 l0 x16_1).f0),.int .i64 ((rd_T51 l0 x16_1).f1),.int .i64 0]) ?_ 2 _ rfl;(with_reducible repeat (first|refine kn_ ?_ _|refine kd_ ?_|refine ka_ ?_ _));refine blk_put (cs:=#[.int .i64 ((rd_T51 l0 x16_1).f0),.int .i64 0,.int .i64 0]) ?_ 1 _ rfl;(with_reducible repeat (first|refine kn_ ?_ _|refine kd_ ?_|refine ka_ ?_ _));refine blk_put (cs:=#[.int .i64 0,.int .i64 0,.int .i64 0]) ?_ 0 _ rfl;(with_reducible repeat (first|refine kn_ ?_ _|refine kd_ ?_|refine ka_ ?_ _));exact BK296.out) hb);have n1_:=mk_ (st_ (qc_ HB GE296) hb);clear BK296;clear HB;have BK296:=n0_;have HB:=n1_;clear n0_ n1_;(try clear hb);(try clear hb2);(try clear hk);(try clear hi);have p299 : 0 ≤ (t297 : Int):=od_ qa_;have q299 : t297 < (l1.length : Int):=od_ qa_;obtain ⟨ad299,e299,hx299_0⟩:=Kd.at_int HR1.out t297 p299 q299;cases e299;replace hx299_0:=(HB.out.cell (wl_ w _ hx299_0)).trans hx299_0;replace p299:=eq_true p299;replace q299:=eq_true q299;have hcz18_0 : w17.cell? ⟨gb296,0,none⟩ = some (.int .i64 ((rd_T51 l0 x16_1).f0)):=(bc_ BK296.out 0).trans rfl;have hcz18_1 : w17.cell? ⟨gb296,1,none⟩ = some (.int .i64 ((rd_T51 l0 x16_1).f1)):=(bc_ BK296.out 1).trans rfl;have hcz18_2 : w17.cell? ⟨gb296,2,none⟩ = some (.int .i64 ((rd_T51 l0 x16_1).f2)):=(bc_ BK296.out 2).trans rfl;have hfz18_0:=bf_ BK296.out 0;have hfz18_1:=bf_ BK296.out 1;have hfz18_2:=bf_ BK296.out 2;have p300 : 0 ≤ (a2 : Int):=od_ qa_;have q300 : a2 < (l1.length : Int):=od_ qa_;obtain ⟨ad300,e300,hx300_0⟩:=Kd.at_int HR1.out a2 p300 q300;obtain rfl : ad299 = ad300:=(by injection e300);replace hx300_0:=(HB.out.cell (wl_ w _ hx300_0)).trans hx300_0;replace p300:=eq_true p300;replace q300:=eq_true q300));try go_wp2_with (first|((with_reducible refine gate_dst (N:=11) rfl ?_);refine box_event ?hg (N:=11) ?hd (cs:=#[.int .i64 0,.int .i64 0,.int .i64 0]) (t:=51) ?hr ?_;(case hd => rfl);(case hg => rfl);(case hr => first|(go_simp;done)|(go_simp;rfl));intro gb296 hg w15 hbox hb;have n0_:=mk_ (st_ (qb_ HB) hb);have n1_:=mk_ (hbox);have n2_:=mk_ ((by rw [hg];exact (bz_ (qb_ HB)) : w.heap.size ≤ gb296));have n3_:=mk_ ((by rw [hg];exact (bz_ (qb_ HB)) : w.heap.size ≤ gb296));clear HB;have HB:=n0_;have BK296:=n1_;have GW296:=n2_;have GE296:=n3_;clear n0_ n1_ n2_ n3_;clear hb hbox hg;have hcz16_0 : w15.cell? ⟨gb296,0,none⟩ = some (.int .i64 0):=(bc_ BK296.out 0).trans rfl;have hcz16_1 : w15.cell? ⟨gb296,1,none⟩ = some (.int .i64 0):=(bc_ BK296.out 1).trans rfl;have hcz16_2 : w15.cell? ⟨gb296,2,none⟩ = some (.int .i64 0):=(bc_ BK296.out 2).trans rfl;have hfz16_0:=bf_ BK296.out 0;have hfz16_1:=bf_ BK296.out 1;have hfz16_2:=bf_ BK296.out 2)|(go_at_call 82;(with_reducible refine (impl_Cable_other.calls ((rd_T51 l0 x16_1).f0) ((rd_T51 l0 x16_1).f1) ((rd_T51 l0 x16_1).f2) a2 t297 true _ A7.out).mono ?_);rintro e w17 ⟨rfl,hb⟩;have n0_:=mk_ (blk_below (g:=gb296) (o:=.cells #[.int .i64 ((rd_T51 l0 x16_1).f0),.int .i64 ((rd_T51 l0 x16_1).f1),.int .i64 ((rd_T51 l0 x16_1).f2)] 51 (0,0)) (by (with_reducible repeat (first|refine kn_ ?_ _|refine kd_ ?_|refine ka_ ?_ _));refine blk_put (cs:=#[.int .i64 ((rd_T51 l0 x16_1).f0),.int .i64 ((rd_T51 l0 x16_1).f1),.int .i64 0]) ?_ 2 _ rfl;(with_reducible repeat (first|refine kn_ ?_ _|refine kd_ ?_|refine ka_ ?_ _));refine blk_put (cs:=#[.int .i64 ((rd_T51 l0 x16_1).f0),.int .i64 0,.int .i64 0]) ?_ 1 _ rfl;(with_reducible repeat (first|refine kn_ ?_ _|refine kd_ ?_|refine ka_ ?_ _));refine blk_put (cs:=#[.int .i64 0,.int .i64 0,.int .i64 0]) ?_ 0 _ rfl;(with_reducible repeat (first|refine kn_ ?_ _|refine kd_ ?_|refine ka_ ?_ _));exact BK296.out) hb);have n1_:=mk_ (st_ (qc_ HB GE296) hb);clear BK296;clear HB;have BK296:=n0_;have HB:=n1_;clear n0_ n1_;(try clear hb);(try clear hb2);(try clear hk);(try clear hi);have p299 : 0 ≤ (t297 : Int):=od_ qa_;have q299 : t297 < (l1.length : Int):=od_ qa_;obtain ⟨ad299,e299,hx299_0⟩:=Kd.at_int HR1.out t297 p299 q299;cases e299;replace hx299_0:=(HB.out.cell (wl_ w _ hx299_0)).trans hx299_0;replace p299:=eq_true p299;replace q299:=eq_true q299;have hcz18_0 : w17.cell? ⟨gb296,0,none⟩ = some (.int .i64 ((rd_T51 l0 x16_1).f0)):=(bc_ BK296.out 0).trans rfl;have hcz18_1 : w17.cell? ⟨gb296,1,none⟩ = some (.int .i64 ((rd_T51 l0 x16_1).f1)):=(bc_ BK296.out 1).trans rfl;have hcz18_2 : w17.cell? ⟨gb296,2,none⟩ = some (.int .i64 ((rd_T51 l0 x16_1).f2)):=(bc_ BK296.out 2).trans rfl;have hfz18_0:=bf_ BK296.out 0;have hfz18_1:=bf_ BK296.out 1;have hfz18_2:=bf_ BK296.out 2;have p300 : 0 ≤ (a2 : Int):=od_ qa_;have q300 : a2 < (l1.length : Int):=od_ qa_;obtain ⟨ad300,e300,hx300_0⟩:=Kd.at_int HR1.out a2 p300 q300;obtain rfl : ad299 = ad300:=(by injection e300);replace hx300_0:=(HB.out.cell (wl_ w _ hx300_0)).trans hx300_0;replace p300:=eq_true p300;replace q300:=eq_true q300)))
             go_roundg k1
             case measure => have:=HK1.out;omega
             case rel => exact ⟨(x16_1),(t297),(wrap64 (x16_1 + 1)),(by first|rfl|(simp;done)|(simp [*];done)),(by first|rfl|(simp;done)|(simp [*];done)),(by first|rfl|(simp;done)|(simp [*];done)),H',⟨by have:=HK1.out;omega⟩,⟨by repeat (first|(with_reducible first|exact HB.out|apply ba_|apply bn_|apply bd_|refine bs_ ?_ GE296.out)|exact HB.out)⟩⟩
            ·rw [if_neg c14] at H
             have c14b0 : decide (x8_1 < 0) = false:=decide_eq_false c14
             clear c14
             by_cases c19 : t297 < x9_1
             ·rw [if_pos c19] at H
              have c19b0 : decide (t297 < x9_1) = true:=decide_eq_true c19
              clear c19
              have H':=mk_ H
              clear H
              have p295 : 0 ≤ (x16_1 : Int):=od_ qa_
              have q295 : x16_1 < (l0.length : Int):=od_ qa_
              obtain ⟨ad295,e295,hx295_0,hx295_1,hx295_2⟩:=at_T51 HR0.out x16_1 p295 q295
              cases e295
              replace hx295_0:=(HB.out.cell (wl_ w _ hx295_0)).trans hx295_0
              replace hx295_1:=(HB.out.cell (wl_ w _ hx295_1)).trans hx295_1
              replace hx295_2:=(HB.out.cell (wl_ w _ hx295_2)).trans hx295_2
              replace p295:=eq_true p295
              replace q295:=eq_true q295
              go_wp2_with (first|((with_reducible refine gate_dst (N:=11) rfl ?_);refine box_event ?hg (N:=11) ?hd (cs:=#[.int .i64 0,.int .i64 0,.int .i64 0]) (t:=51) ?hr ?_;(case hd => rfl);(case hg => rfl);(case hr => first|(go_simp;done)|(go_simp;rfl));intro gb296 hg w20 hbox hb;have n0_:=mk_ (st_ (qb_ HB) hb);have n1_:=mk_ (hbox);have n2_:=mk_ ((by rw [hg];exact (bz_ (qb_ HB)) : w.heap.size ≤ gb296));have n3_:=mk_ ((by rw [hg];exact (bz_ (qb_ HB)) : w.heap.size ≤ gb296));clear HB;have HB:=n0_;have BK296:=n1_;have GW296:=n2_;have GE296:=n3_;clear n0_ n1_ n2_ n3_;clear hb hbox hg;have hcz21_0 : w20.cell? ⟨gb296,0,none⟩ = some (.int .i64 0):=(bc_ BK296.out 0).trans rfl;have hcz21_1 : w20.cell? ⟨gb296,1,none⟩ = some (.int .i64 0):=(bc_ BK296.out 1).trans rfl;have hcz21_2 : w20.cell? ⟨gb296,2,none⟩ = some (.int .i64 0):=(bc_ BK296.out 2).trans rfl;have hfz21_0:=bf_ BK296.out 0;have hfz21_1:=bf_ BK296.out 1;have hfz21_2:=bf_ BK296.out 2)|(go_at_call 82;(with_reducible refine (impl_Cable_other.calls ((rd_T51 l0 x16_1).f0) ((rd_T51 l0 x16_1).f1) ((rd_T51 l0 x16_1).f2) a2 t297 true _ A7.out).mono ?_);rintro e w22 ⟨rfl,hb⟩;have n0_:=mk_ (blk_below (g:=gb296) (o:=.cells #[.int .i64 ((rd_T51 l0 x16_1).f0),.int .i64 ((rd_T51 l0 x16_1).f1),.int .i64 ((rd_T51 l0 x16_1).f2)] 51 (0,0)) (by (with_reducible repeat (first|refine kn_ ?_ _|refine kd_ ?_|refine ka_ ?_ _));refine blk_put (cs:=#[.int .i64 ((rd_T51 l0 x16_1).f0),.int .i64 ((rd_T51 l0 x16_1).f1),.int .i64 0]) ?_ 2 _ rfl;(with_reducible repeat (first|refine kn_ ?_ _|refine kd_ ?_|refine ka_ ?_ _));refine blk_put (cs:=#[.int .i64 ((rd_T51 l0 x16_1).f0),.int .i64 0,.int .i64 0]) ?_ 1 _ rfl;(with_reducible repeat (first|refine kn_ ?_ _|refine kd_ ?_|refine ka_ ?_ _));refine blk_put (cs:=#[.int .i64 0,.int .i64 0,.int .i64 0]) ?_ 0 _ rfl;(with_reducible repeat (first|refine kn_ ?_ _|refine kd_ ?_|refine ka_ ?_ _));exact BK296.out) hb);have n1_:=mk_ (st_ (qc_ HB GE296) hb);clear BK296;clear HB;have BK296:=n0_;have HB:=n1_;clear n0_ n1_;(try clear hb);(try clear hb2);(try clear hk);(try clear hi);have p299 : 0 ≤ (t297 : Int):=od_ qa_;have q299 : t297 < (l1.length : Int):=od_ qa_;obtain ⟨ad299,e299,hx299_0⟩:=Kd.at_int HR1.out t297 p299 q299;cases e299;replace hx299_0:=(HB.out.cell (wl_ w _ hx299_0)).trans hx299_0;replace p299:=eq_true p299;replace q299:=eq_true q299;have hcz23_0 : w22.cell? ⟨gb296,0,none⟩ = some (.int .i64 ((rd_T51 l0 x16_1).f0)):=(bc_ BK296.out 0).trans rfl;have hcz23_1 : w22.cell? ⟨gb296,1,none⟩ = some (.int .i64 ((rd_T51 l0 x16_1).f1)):=(bc_ BK296.out 1).trans rfl;have hcz23_2 : w22.cell? ⟨gb296,2,none⟩ = some (.int .i64 ((rd_T51 l0 x16_1).f2)):=(bc_ BK296.out 2).trans rfl;have hfz23_0:=bf_ BK296.out 0;have hfz23_1:=bf_ BK296.out 1;have hfz23_2:=bf_ BK296.out 2;have p300 : 0 ≤ (a2 : Int):=od_ qa_;have q300 : a2 < (l1.length : Int):=od_ qa_;obtain ⟨ad300,e300,hx300_0⟩:=Kd.at_int HR1.out a2 p300 q300;obtain rfl : ad299 = ad300:=(by injection e300);replace hx300_0:=(HB.out.cell (wl_ w _ hx300_0)).trans hx300_0;replace p300:=eq_true p300;replace q300:=eq_true q300))
              repeat (go_quiet (first|((with_reducible refine gate_dst (N:=11) rfl ?_);refine box_event ?hg (N:=11) ?hd (cs:=#[.int .i64 0,.int .i64 0,.int .i64 0]) (t:=51) ?hr ?_;(case hd => rfl);(case hg => rfl);(case hr => first|(go_simp;done)|(go_simp;rfl));intro gb296 hg w20 hbox hb;have n0_:=mk_ (st_ (qb_ HB) hb);have n1_:=mk_ (hbox);have n2_:=mk_ ((by rw [hg];exact (bz_ (qb_ HB)) : w.heap.size ≤ gb296));have n3_:=mk_ ((by rw [hg];exact (bz_ (qb_ HB)) : w.heap.size ≤ gb296));clear HB;have HB:=n0_;have BK296:=n1_;have GW296:=n2_;have GE296:=n3_;clear n0_ n1_ n2_ n3_;clear hb hbox hg;have hcz21_0 : w20.cell? ⟨gb296,0,none⟩ = some (.int .i64 0):=(bc_ BK296.out 0).trans rfl;have hcz21_1 : w20.cell? ⟨gb296,1,none⟩ = some (.int .i64 0):=(bc_ BK296.out 1).trans rfl;have hcz21_2 : w20.cell? ⟨gb296,2,none⟩ = some (.int .i64 0):=(bc_ BK296.out 2).trans rfl;have hfz21_0:=bf_ BK296.out 0;have hfz21_1:=bf_ BK296.out 1;have hfz21_2:=bf_ BK296.out 2)|(go_at_call 82;(with_reducible refine (impl_Cable_other.calls ((rd_T51 l0 x16_1).f0) ((rd_T51 l0 x16_1).f1) ((rd_T51 l0 x16_1).f2) a2 t297 true _ A7.out).mono ?_);rintro e w22 ⟨rfl,hb⟩;have n0_:=mk_ (blk_below (g:=gb296) (o:=.cells #[.int .i64 ((rd_T51 l0 x16_1).f0),.int .i64 ((rd_T51 l0 x16_1).f1),.int .i64 ((rd_T51 l0 x16_1).f2)] 51 (0,0)) (by (with_reducible repeat (first|refine kn_ ?_ _|refine kd_ ?_|refine ka_ ?_ _));refine blk_put (cs:=#[.int .i64 ((rd_T51 l0 x16_1).f0),.int .i64 ((rd_T51 l0 x16_1).f1),.int .i64 0]) ?_ 2 _ rfl;(with_reducible repeat (first|refine kn_ ?_ _|refine kd_ ?_|refine ka_ ?_ _));refine blk_put (cs:=#[.int .i64 ((rd_T51 l0 x16_1).f0),.int .i64 0,.int .i64 0]) ?_ 1 _ rfl;(with_reducible repeat (first|refine kn_ ?_ _|refine kd_ ?_|refine ka_ ?_ _));refine blk_put (cs:=#[.int .i64 0,.int .i64 0,.int .i64 0]) ?_ 0 _ rfl;(with_reducible repeat (first|refine kn_ ?_ _|refine kd_ ?_|refine ka_ ?_ _));exact BK296.out) hb);have n1_:=mk_ (st_ (qc_ HB GE296) hb);clear BK296;clear HB;have BK296:=n0_;have HB:=n1_;clear n0_ n1_;(try clear hb);(try clear hb2);(try clear hk);(try clear hi);have p299 : 0 ≤ (t297 : Int):=od_ qa_;have q299 : t297 < (l1.length : Int):=od_ qa_;obtain ⟨ad299,e299,hx299_0⟩:=Kd.at_int HR1.out t297 p299 q299;cases e299;replace hx299_0:=(HB.out.cell (wl_ w _ hx299_0)).trans hx299_0;replace p299:=eq_true p299;replace q299:=eq_true q299;have hcz23_0 : w22.cell? ⟨gb296,0,none⟩ = some (.int .i64 ((rd_T51 l0 x16_1).f0)):=(bc_ BK296.out 0).trans rfl;have hcz23_1 : w22.cell? ⟨gb296,1,none⟩ = some (.int .i64 ((rd_T51 l0 x16_1).f1)):=(bc_ BK296.out 1).trans rfl;have hcz23_2 : w22.cell? ⟨gb296,2,none⟩ = some (.int .i64 ((rd_T51 l0 x16_1).f2)):=(bc_ BK296.out 2).trans rfl;have hfz23_0:=bf_ BK296.out 0;have hfz23_1:=bf_ BK296.out 1;have hfz23_2:=bf_ BK296.out 2;have p300 : 0 ≤ (a2 : Int):=od_ qa_;have q300 : a2 < (l1.length : Int):=od_ qa_;obtain ⟨ad300,e300,hx300_0⟩:=Kd.at_int HR1.out a2 p300 q300;obtain rfl : ad299 = ad300:=(by injection e300);replace hx300_0:=(HB.out.cell (wl_ w _ hx300_0)).trans hx300_0;replace p300:=eq_true p300;replace q300:=eq_true q300));try go_wp2_with (first|((with_reducible refine gate_dst (N:=11) rfl ?_);refine box_event ?hg (N:=11) ?hd (cs:=#[.int .i64 0,.int .i64 0,.int .i64 0]) (t:=51) ?hr ?_;(case hd => rfl);(case hg => rfl);(case hr => first|(go_simp;done)|(go_simp;rfl));intro gb296 hg w20 hbox hb;have n0_:=mk_ (st_ (qb_ HB) hb);have n1_:=mk_ (hbox);have n2_:=mk_ ((by rw [hg];exact (bz_ (qb_ HB)) : w.heap.size ≤ gb296));have n3_:=mk_ ((by rw [hg];exact (bz_ (qb_ HB)) : w.heap.size ≤ gb296));clear HB;have HB:=n0_;have BK296:=n1_;have GW296:=n2_;have GE296:=n3_;clear n0_ n1_ n2_ n3_;clear hb hbox hg;have hcz21_0 : w20.cell? ⟨gb296,0,none⟩ = some (.int .i64 0):=(bc_ BK296.out 0).trans rfl;have hcz21_1 : w20.cell? ⟨gb296,1,none⟩ = some (.int .i64 0):=(bc_ BK296.out 1).trans rfl;have hcz21_2 : w20.cell? ⟨gb296,2,none⟩ = some (.int .i64 0):=(bc_ BK296.out 2).trans rfl;have hfz21_0:=bf_ BK296.out 0;have hfz21_1:=bf_ BK296.out 1;have hfz21_2:=bf_ BK296.out 2)|(go_at_call 82;(with_reducible refine (impl_Cable_other.calls ((rd_T51 l0 x16_1).f0) ((rd_T51 l0 x16_1).f1) ((rd_T51 l0 x16_1).f2) a2 t297 true _ A7.out).mono ?_);rintro e w22 ⟨rfl,hb⟩;have n0_:=mk_ (blk_below (g:=gb296) (o:=.cells #[.int .i64 ((rd_T51 l0 x16_1).f0),.int .i64 ((rd_T51 l0 x16_1).f1),.int .i64 ((rd_T51 l0 x16_1).f2)] 51 (0,0)) (by (with_reducible repeat (first|refine kn_ ?_ _|refine kd_ ?_|refine ka_ ?_ _));refine blk_put (cs:=#[.int .i64 ((rd_T51 l0 x16_1).f0),.int .i64 ((rd_T51 l0 x16_1).f1),.int .i64 0]) ?_ 2 _ rfl;(with_reducible repeat (first|refine kn_ ?_ _|refine kd_ ?_|refine ka_ ?_ _));refine blk_put (cs:=#[.int .i64 ((rd_T51 l0 x16_1).f0),.int .i64 0,.int .i64 0]) ?_ 1 _ rfl;(with_reducible repeat (first|refine kn_ ?_ _|refine kd_ ?_|refine ka_ ?_ _));refine blk_put (cs:=#[.int .i64 0,.int .i64 0,.int .i64 0]) ?_ 0 _ rfl;(with_reducible repeat (first|refine kn_ ?_ _|refine kd_ ?_|refine ka_ ?_ _));exact BK296.out) hb);have n1_:=mk_ (st_ (qc_ HB GE296) hb);clear BK296;clear HB;have BK296:=n0_;have HB:=n1_;clear n0_ n1_;(try clear hb);(try clear hb2);(try clear hk);(try clear hi);have p299 : 0 ≤ (t297 : Int):=od_ qa_;have q299 : t297 < (l1.length : Int):=od_ qa_;obtain ⟨ad299,e299,hx299_0⟩:=Kd.at_int HR1.out t297 p299 q299;cases e299;replace hx299_0:=(HB.out.cell (wl_ w _ hx299_0)).trans hx299_0;replace p299:=eq_true p299;replace q299:=eq_true q299;have hcz23_0 : w22.cell? ⟨gb296,0,none⟩ = some (.int .i64 ((rd_T51 l0 x16_1).f0)):=(bc_ BK296.out 0).trans rfl;have hcz23_1 : w22.cell? ⟨gb296,1,none⟩ = some (.int .i64 ((rd_T51 l0 x16_1).f1)):=(bc_ BK296.out 1).trans rfl;have hcz23_2 : w22.cell? ⟨gb296,2,none⟩ = some (.int .i64 ((rd_T51 l0 x16_1).f2)):=(bc_ BK296.out 2).trans rfl;have hfz23_0:=bf_ BK296.out 0;have hfz23_1:=bf_ BK296.out 1;have hfz23_2:=bf_ BK296.out 2;have p300 : 0 ≤ (a2 : Int):=od_ qa_;have q300 : a2 < (l1.length : Int):=od_ qa_;obtain ⟨ad300,e300,hx300_0⟩:=Kd.at_int HR1.out a2 p300 q300;obtain rfl : ad299 = ad300:=(by injection e300);replace hx300_0:=(HB.out.cell (wl_ w _ hx300_0)).trans hx300_0;replace p300:=eq_true p300;replace q300:=eq_true q300)))
              go_roundg k1
              case measure => have:=HK1.out;omega
              case rel => exact ⟨(x16_1),(t297),(wrap64 (x16_1 + 1)),(by first|rfl|(simp;done)|(simp [*];done)),(by first|rfl|(simp;done)|(simp [*];done)),(by first|rfl|(simp;done)|(simp [*];done)),H',⟨by have:=HK1.out;omega⟩,⟨by repeat (first|(with_reducible first|exact HB.out|apply ba_|apply bn_|apply bd_|refine bs_ ?_ GE296.out)|exact HB.out)⟩⟩
             ·rw [if_neg c19] at H
              have c19b0 : decide (t297 < x9_1) = false:=decide_eq_false c19
              clear c19
              have H':=mk_ H
              clear H
              have p295 : 0 ≤ (x16_1 : Int):=od_ qa_
              have q295 : x16_1 < (l0.length : Int):=od_ qa_
              obtain ⟨ad295,e295,hx295_0,hx295_1,hx295_2⟩:=at_T51 HR0.out x16_1 p295 q295
              cases e295
              replace hx295_0:=(HB.out.cell (wl_ w _ hx295_0)).trans hx295_0
              replace hx295_1:=(HB.out.cell (wl_ w _ hx295_1)).trans hx295_1
              replace hx295_2:=(HB.out.cell (wl_ w _ hx295_2)).trans hx295_2
              replace p295:=eq_true p295
              replace q295:=eq_true q295
              go_wp2_with (first|((with_reducible refine gate_dst (N:=11) rfl ?_);refine box_event ?hg (N:=11) ?hd (cs:=#[.int .i64 0,.int .i64 0,.int .i64 0]) (t:=51) ?hr ?_;(case hd => rfl);(case hg => rfl);(case hr => first|(go_simp;done)|(go_simp;rfl));intro gb296 hg w24 hbox hb;have n0_:=mk_ (st_ (qb_ HB) hb);have n1_:=mk_ (hbox);have n2_:=mk_ ((by rw [hg];exact (bz_ (qb_ HB)) : w.heap.size ≤ gb296));have n3_:=mk_ ((by rw [hg];exact (bz_ (qb_ HB)) : w.heap.size ≤ gb296));clear HB;have HB:=n0_;have BK296:=n1_;have GW296:=n2_;have GE296:=n3_;clear n0_ n1_ n2_ n3_;clear hb hbox hg;have hcz25_0 : w24.cell? ⟨gb296,0,none⟩ = some (.int .i64 0):=(bc_ BK296.out 0).trans rfl;have hcz25_1 : w24.cell? ⟨gb296,1,none⟩ = some (.int .i64 0):=(bc_ BK296.out 1).trans rfl;have hcz25_2 : w24.cell? ⟨gb296,2,none⟩ = some (.int .i64 0):=(bc_ BK296.out 2).trans rfl;have hfz25_0:=bf_ BK296.out 0;have hfz25_1:=bf_ BK296.out 1;have hfz25_2:=bf_ BK296.out 2)|(go_at_call 82;(with_reducible refine (impl_Cable_other.calls ((rd_T51 l0 x16_1).f0) ((rd_T51 l0 x16_1).f1) ((rd_T51 l0 x16_1).f2) a2 t297 true _ A7.out).mono ?_);rintro e w26 ⟨rfl,hb⟩;have n0_:=mk_ (blk_below (g:=gb296) (o:=.cells #[.int .i64 ((rd_T51 l0 x16_1).f0),.int .i64 ((rd_T51 l0 x16_1).f1),.int .i64 ((rd_T51 l0 x16_1).f2)] 51 (0,0)) (by (with_reducible repeat (first|refine kn_ ?_ _|refine kd_ ?_|refine ka_ ?_ _));refine blk_put (cs:=#[.int .i64 ((rd_T51 l0 x16_1).f0),.int .i64 ((rd_T51 l0 x16_1).f1),.int .i64 0]) ?_ 2 _ rfl;(with_reducible repeat (first|refine kn_ ?_ _|refine kd_ ?_|refine ka_ ?_ _));refine blk_put (cs:=#[.int .i64 ((rd_T51 l0 x16_1).f0),.int .i64 0,.int .i64 0]) ?_ 1 _ rfl;(with_reducible repeat (first|refine kn_ ?_ _|refine kd_ ?_|refine ka_ ?_ _));refine blk_put (cs:=#[.int .i64 0,.int .i64 0,.int .i64 0]) ?_ 0 _ rfl;(with_reducible repeat (first|refine kn_ ?_ _|refine kd_ ?_|refine ka_ ?_ _));exact BK296.out) hb);have n1_:=mk_ (st_ (qc_ HB GE296) hb);clear BK296;clear HB;have BK296:=n0_;have HB:=n1_;clear n0_ n1_;(try clear hb);(try clear hb2);(try clear hk);(try clear hi);have p299 : 0 ≤ (t297 : Int):=od_ qa_;have q299 : t297 < (l1.length : Int):=od_ qa_;obtain ⟨ad299,e299,hx299_0⟩:=Kd.at_int HR1.out t297 p299 q299;cases e299;replace hx299_0:=(HB.out.cell (wl_ w _ hx299_0)).trans hx299_0;replace p299:=eq_true p299;replace q299:=eq_true q299;have hcz27_0 : w26.cell? ⟨gb296,0,none⟩ = some (.int .i64 ((rd_T51 l0 x16_1).f0)):=(bc_ BK296.out 0).trans rfl;have hcz27_1 : w26.cell? ⟨gb296,1,none⟩ = some (.int .i64 ((rd_T51 l0 x16_1).f1)):=(bc_ BK296.out 1).trans rfl;have hcz27_2 : w26.cell? ⟨gb296,2,none⟩ = some (.int .i64 ((rd_T51 l0 x16_1).f2)):=(bc_ BK296.out 2).trans rfl;have hfz27_0:=bf_ BK296.out 0;have hfz27_1:=bf_ BK296.out 1;have hfz27_2:=bf_ BK296.out 2;have p300 : 0 ≤ (a2 : Int):=od_ qa_;have q300 : a2 < (l1.length : Int):=od_ qa_;obtain ⟨ad300,e300,hx300_0⟩:=Kd.at_int HR1.out a2 p300 q300;obtain rfl : ad299 = ad300:=(by injection e300);replace hx300_0:=(HB.out.cell (wl_ w _ hx300_0)).trans hx300_0;replace p300:=eq_true p300;replace q300:=eq_true q300))
              repeat (go_quiet (first|((with_reducible refine gate_dst (N:=11) rfl ?_);refine box_event ?hg (N:=11) ?hd (cs:=#[.int .i64 0,.int .i64 0,.int .i64 0]) (t:=51) ?hr ?_;(case hd => rfl);(case hg => rfl);(case hr => first|(go_simp;done)|(go_simp;rfl));intro gb296 hg w24 hbox hb;have n0_:=mk_ (st_ (qb_ HB) hb);have n1_:=mk_ (hbox);have n2_:=mk_ ((by rw [hg];exact (bz_ (qb_ HB)) : w.heap.size ≤ gb296));have n3_:=mk_ ((by rw [hg];exact (bz_ (qb_ HB)) : w.heap.size ≤ gb296));clear HB;have HB:=n0_;have BK296:=n1_;have GW296:=n2_;have GE296:=n3_;clear n0_ n1_ n2_ n3_;clear hb hbox hg;have hcz25_0 : w24.cell? ⟨gb296,0,none⟩ = some (.int .i64 0):=(bc_ BK296.out 0).trans rfl;have hcz25_1 : w24.cell? ⟨gb296,1,none⟩ = some (.int .i64 0):=(bc_ BK296.out 1).trans rfl;have hcz25_2 : w24.cell? ⟨gb296,2,none⟩ = some (.int .i64 0):=(bc_ BK296.out 2).trans rfl;have hfz25_0:=bf_ BK296.out 0;have hfz25_1:=bf_ BK296.out 1;have hfz25_2:=bf_ BK296.out 2)|(go_at_call 82;(with_reducible refine (impl_Cable_other.calls ((rd_T51 l0 x16_1).f0) ((rd_T51 l0 x16_1).f1) ((rd_T51 l0 x16_1).f2) a2 t297 true _ A7.out).mono ?_);rintro e w26 ⟨rfl,hb⟩;have n0_:=mk_ (blk_below (g:=gb296) (o:=.cells #[.int .i64 ((rd_T51 l0 x16_1).f0),.int .i64 ((rd_T51 l0 x16_1).f1),.int .i64 ((rd_T51 l0 x16_1).f2)] 51 (0,0)) (by (with_reducible repeat (first|refine kn_ ?_ _|refine kd_ ?_|refine ka_ ?_ _));refine blk_put (cs:=#[.int .i64 ((rd_T51 l0 x16_1).f0),.int .i64 ((rd_T51 l0 x16_1).f1),.int .i64 0]) ?_ 2 _ rfl;(with_reducible repeat (first|refine kn_ ?_ _|refine kd_ ?_|refine ka_ ?_ _));refine blk_put (cs:=#[.int .i64 ((rd_T51 l0 x16_1).f0),.int .i64 0,.int .i64 0]) ?_ 1 _ rfl;(with_reducible repeat (first|refine kn_ ?_ _|refine kd_ ?_|refine ka_ ?_ _));refine blk_put (cs:=#[.int .i64 0,.int .i64 0,.int .i64 0]) ?_ 0 _ rfl;(with_reducible repeat (first|refine kn_ ?_ _|refine kd_ ?_|refine ka_ ?_ _));exact BK296.out) hb);have n1_:=mk_ (st_ (qc_ HB GE296) hb);clear BK296;clear HB;have BK296:=n0_;have HB:=n1_;clear n0_ n1_;(try clear hb);(try clear hb2);(try clear hk);(try clear hi);have p299 : 0 ≤ (t297 : Int):=od_ qa_;have q299 : t297 < (l1.length : Int):=od_ qa_;obtain ⟨ad299,e299,hx299_0⟩:=Kd.at_int HR1.out t297 p299 q299;cases e299;replace hx299_0:=(HB.out.cell (wl_ w _ hx299_0)).trans hx299_0;replace p299:=eq_true p299;replace q299:=eq_true q299;have hcz27_0 : w26.cell? ⟨gb296,0,none⟩ = some (.int .i64 ((rd_T51 l0 x16_1).f0)):=(bc_ BK296.out 0).trans rfl;have hcz27_1 : w26.cell? ⟨gb296,1,none⟩ = some (.int .i64 ((rd_T51 l0 x16_1).f1)):=(bc_ BK296.out 1).trans rfl;have hcz27_2 : w26.cell? ⟨gb296,2,none⟩ = some (.int .i64 ((rd_T51 l0 x16_1).f2)):=(bc_ BK296.out 2).trans rfl;have hfz27_0:=bf_ BK296.out 0;have hfz27_1:=bf_ BK296.out 1;have hfz27_2:=bf_ BK296.out 2;have p300 : 0 ≤ (a2 : Int):=od_ qa_;have q300 : a2 < (l1.length : Int):=od_ qa_;obtain ⟨ad300,e300,hx300_0⟩:=Kd.at_int HR1.out a2 p300 q300;obtain rfl : ad299 = ad300:=(by injection e300);replace hx300_0:=(HB.out.cell (wl_ w _ hx300_0)).trans hx300_0;replace p300:=eq_true p300;replace q300:=eq_true q300));try go_wp2_with (first|((with_reducible refine gate_dst (N:=11) rfl ?_);refine box_event ?hg (N:=11) ?hd (cs:=#[.int .i64 0,.int .i64 0,.int .i64 0]) (t:=51) ?hr ?_;(case hd => rfl);(case hg => rfl);(case hr => first|(go_simp;done)|(go_simp;rfl));intro gb296 hg w24 hbox hb;have n0_:=mk_ (st_ (qb_ HB) hb);have n1_:=mk_ (hbox);have n2_:=mk_ ((by rw [hg];exact (bz_ (qb_ HB)) : w.heap.size ≤ gb296));have n3_:=mk_ ((by rw [hg];exact (bz_ (qb_ HB)) : w.heap.size ≤ gb296));clear HB;have HB:=n0_;have BK296:=n1_;have GW296:=n2_;have GE296:=n3_;clear n0_ n1_ n2_ n3_;clear hb hbox hg;have hcz25_0 : w24.cell? ⟨gb296,0,none⟩ = some (.int .i64 0):=(bc_ BK296.out 0).trans rfl;have hcz25_1 : w24.cell? ⟨gb296,1,none⟩ = some (.int .i64 0):=(bc_ BK296.out 1).trans rfl;have hcz25_2 : w24.cell? ⟨gb296,2,none⟩ = some (.int .i64 0):=(bc_ BK296.out 2).trans rfl;have hfz25_0:=bf_ BK296.out 0;have hfz25_1:=bf_ BK296.out 1;have hfz25_2:=bf_ BK296.out 2)|(go_at_call 82;(with_reducible refine (impl_Cable_other.calls ((rd_T51 l0 x16_1).f0) ((rd_T51 l0 x16_1).f1) ((rd_T51 l0 x16_1).f2) a2 t297 true _ A7.out).mono ?_);rintro e w26 ⟨rfl,hb⟩;have n0_:=mk_ (blk_below (g:=gb296) (o:=.cells #[.int .i64 ((rd_T51 l0 x16_1).f0),.int .i64 ((rd_T51 l0 x16_1).f1),.int .i64 ((rd_T51 l0 x16_1).f2)] 51 (0,0)) (by (with_reducible repeat (first|refine kn_ ?_ _|refine kd_ ?_|refine ka_ ?_ _));refine blk_put (cs:=#[.int .i64 ((rd_T51 l0 x16_1).f0),.int .i64 ((rd_T51 l0 x16_1).f1),.int .i64 0]) ?_ 2 _ rfl;(with_reducible repeat (first|refine kn_ ?_ _|refine kd_ ?_|refine ka_ ?_ _));refine blk_put (cs:=#[.int .i64 ((rd_T51 l0 x16_1).f0),.int .i64 0,.int .i64 0]) ?_ 1 _ rfl;(with_reducible repeat (first|refine kn_ ?_ _|refine kd_ ?_|refine ka_ ?_ _));refine blk_put (cs:=#[.int .i64 0,.int .i64 0,.int .i64 0]) ?_ 0 _ rfl;(with_reducible repeat (first|refine kn_ ?_ _|refine kd_ ?_|refine ka_ ?_ _));exact BK296.out) hb);have n1_:=mk_ (st_ (qc_ HB GE296) hb);clear BK296;clear HB;have BK296:=n0_;have HB:=n1_;clear n0_ n1_;(try clear hb);(try clear hb2);(try clear hk);(try clear hi);have p299 : 0 ≤ (t297 : Int):=od_ qa_;have q299 : t297 < (l1.length : Int):=od_ qa_;obtain ⟨ad299,e299,hx299_0⟩:=Kd.at_int HR1.out t297 p299 q299;cases e299;replace hx299_0:=(HB.out.cell (wl_ w _ hx299_0)).trans hx299_0;replace p299:=eq_true p299;replace q299:=eq_true q299;have hcz27_0 : w26.cell? ⟨gb296,0,none⟩ = some (.int .i64 ((rd_T51 l0 x16_1).f0)):=(bc_ BK296.out 0).trans rfl;have hcz27_1 : w26.cell? ⟨gb296,1,none⟩ = some (.int .i64 ((rd_T51 l0 x16_1).f1)):=(bc_ BK296.out 1).trans rfl;have hcz27_2 : w26.cell? ⟨gb296,2,none⟩ = some (.int .i64 ((rd_T51 l0 x16_1).f2)):=(bc_ BK296.out 2).trans rfl;have hfz27_0:=bf_ BK296.out 0;have hfz27_1:=bf_ BK296.out 1;have hfz27_2:=bf_ BK296.out 2;have p300 : 0 ≤ (a2 : Int):=od_ qa_;have q300 : a2 < (l1.length : Int):=od_ qa_;obtain ⟨ad300,e300,hx300_0⟩:=Kd.at_int HR1.out a2 p300 q300;obtain rfl : ad299 = ad300:=(by injection e300);replace hx300_0:=(HB.out.cell (wl_ w _ hx300_0)).trans hx300_0;replace p300:=eq_true p300;replace q300:=eq_true q300)))
              go_roundg k1
              case measure => have:=HK1.out;omega
              case rel => exact ⟨(x8_1),(x9_1),(wrap64 (x16_1 + 1)),(by first|rfl|(simp;done)|(simp [*];done)),(by first|rfl|(simp;done)|(simp [*];done)),(by first|rfl|(simp;done)|(simp [*];done)),H',⟨by have:=HK1.out;omega⟩,⟨by repeat (first|(with_reducible first|exact HB.out|apply ba_|apply bn_|apply bd_|refine bs_ ?_ GE296.out)|exact HB.out)⟩⟩
           ·rw [if_neg c13] at H
            have c13b0 : ((wrap64 ((rd l1 t297) + ((rd_T51 l0 x16_1).f2))) == (rd l1 a2)) = false:=beq_eq_false_iff_ne.mpr c13
            have c13b1 : ((wrap64 ((rd l1 t297) + ((rd_T51 l0 x16_1).f2))) != (rd l1 a2)) = true:=bne_iff_ne.mpr c13
            have H':=mk_ H
            clear H
            have p295 : 0 ≤ (x16_1 : Int):=od_ qa_
            have q295 : x16_1 < (l0.length : Int):=od_ qa_
            obtain ⟨ad295,e295,hx295_0,hx295_1,hx295_2⟩:=at_T51 HR0.out x16_1 p295 q295
            cases e295
            replace hx295_0:=(HB.out.cell (wl_ w _ hx295_0)).trans hx295_0
            replace hx295_1:=(HB.out.cell (wl_ w _ hx295_1)).trans hx295_1
            replace hx295_2:=(HB.out.cell (wl_ w _ hx295_2)).trans hx295_2
            replace p295:=eq_true p295
            replace q295:=eq_true q295
            go_wp2_with (first|((with_reducible refine gate_dst (N:=11) rfl ?_);refine box_event ?hg (N:=11) ?hd (cs:=#[.int .i64 0,.int .i64 0,.int .i64 0]) (t:=51) ?hr ?_;(case hd => rfl);(case hg => rfl);(case hr => first|(go_simp;done)|(go_simp;rfl));intro gb296 hg w28 hbox hb;have n0_:=mk_ (st_ (qb_ HB) hb);have n1_:=mk_ (hbox);have n2_:=mk_ ((by rw [hg];exact (bz_ (qb_ HB)) : w.heap.size ≤ gb296));have n3_:=mk_ ((by rw [hg];exact (bz_ (qb_ HB)) : w.heap.size ≤ gb296));clear HB;have HB:=n0_;have BK296:=n1_;have GW296:=n2_;have GE296:=n3_;clear n0_ n1_ n2_ n3_;clear hb hbox hg;have hcz29_0 : w28.cell? ⟨gb296,0,none⟩ = some (.int .i64 0):=(bc_ BK296.out 0).trans rfl;have hcz29_1 : w28.cell? ⟨gb296,1,none⟩ = some (.int .i64 0):=(bc_ BK296.out 1).trans rfl;have hcz29_2 : w28.cell? ⟨gb296,2,none⟩ = some (.int .i64 0):=(bc_ BK296.out 2).trans rfl;have hfz29_0:=bf_ BK296.out 0;have hfz29_1:=bf_ BK296.out 1;have hfz29_2:=bf_ BK296.out 2)|(go_at_call 82;(with_reducible refine (impl_Cable_other.calls ((rd_T51 l0 x16_1).f0) ((rd_T51 l0 x16_1).f1) ((rd_T51 l0 x16_1).f2) a2 t297 true _ A7.out).mono ?_);rintro e w30 ⟨rfl,hb⟩;have n0_:=mk_ (blk_below (g:=gb296) (o:=.cells #[.int .i64 ((rd_T51 l0 x16_1).f0),.int .i64 ((rd_T51 l0 x16_1).f1),.int .i64 ((rd_T51 l0 x16_1).f2)] 51 (0,0)) (by (with_reducible repeat (first|refine kn_ ?_ _|refine kd_ ?_|refine ka_ ?_ _));refine blk_put (cs:=#[.int .i64 ((rd_T51 l0 x16_1).f0),.int .i64 ((rd_T51 l0 x16_1).f1),.int .i64 0]) ?_ 2 _ rfl;(with_reducible repeat (first|refine kn_ ?_ _|refine kd_ ?_|refine ka_ ?_ _));refine blk_put (cs:=#[.int .i64 ((rd_T51 l0 x16_1).f0),.int .i64 0,.int .i64 0]) ?_ 1 _ rfl;(with_reducible repeat (first|refine kn_ ?_ _|refine kd_ ?_|refine ka_ ?_ _));refine blk_put (cs:=#[.int .i64 0,.int .i64 0,.int .i64 0]) ?_ 0 _ rfl;(with_reducible repeat (first|refine kn_ ?_ _|refine kd_ ?_|refine ka_ ?_ _));exact BK296.out) hb);have n1_:=mk_ (st_ (qc_ HB GE296) hb);clear BK296;clear HB;have BK296:=n0_;have HB:=n1_;clear n0_ n1_;(try clear hb);(try clear hb2);(try clear hk);(try clear hi);have p299 : 0 ≤ (t297 : Int):=od_ qa_;have q299 : t297 < (l1.length : Int):=od_ qa_;obtain ⟨ad299,e299,hx299_0⟩:=Kd.at_int HR1.out t297 p299 q299;cases e299;replace hx299_0:=(HB.out.cell (wl_ w _ hx299_0)).trans hx299_0;replace p299:=eq_true p299;replace q299:=eq_true q299;have hcz31_0 : w30.cell? ⟨gb296,0,none⟩ = some (.int .i64 ((rd_T51 l0 x16_1).f0)):=(bc_ BK296.out 0).trans rfl;have hcz31_1 : w30.cell? ⟨gb296,1,none⟩ = some (.int .i64 ((rd_T51 l0 x16_1).f1)):=(bc_ BK296.out 1).trans rfl;have hcz31_2 : w30.cell? ⟨gb296,2,none⟩ = some (.int .i64 ((rd_T51 l0 x16_1).f2)):=(bc_ BK296.out 2).trans rfl;have hfz31_0:=bf_ BK296.out 0;have hfz31_1:=bf_ BK296.out 1;have hfz31_2:=bf_ BK296.out 2;have p300 : 0 ≤ (a2 : Int):=od_ qa_;have q300 : a2 < (l1.length : Int):=od_ qa_;obtain ⟨ad300,e300,hx300_0⟩:=Kd.at_int HR1.out a2 p300 q300;obtain rfl : ad299 = ad300:=(by injection e300);replace hx300_0:=(HB.out.cell (wl_ w _ hx300_0)).trans hx300_0;replace p300:=eq_true p300;replace q300:=eq_true q300))
            repeat (go_quiet (first|((with_reducible refine gate_dst (N:=11) rfl ?_);refine box_event ?hg (N:=11) ?hd (cs:=#[.int .i64 0,.int .i64 0,.int .i64 0]) (t:=51) ?hr ?_;(case hd => rfl);(case hg => rfl);(case hr => first|(go_simp;done)|(go_simp;rfl));intro gb296 hg w28 hbox hb;have n0_:=mk_ (st_ (qb_ HB) hb);have n1_:=mk_ (hbox);have n2_:=mk_ ((by rw [hg];exact (bz_ (qb_ HB)) : w.heap.size ≤ gb296));have n3_:=mk_ ((by rw [hg];exact (bz_ (qb_ HB)) : w.heap.size ≤ gb296));clear HB;have HB:=n0_;have BK296:=n1_;have GW296:=n2_;have GE296:=n3_;clear n0_ n1_ n2_ n3_;clear hb hbox hg;have hcz29_0 : w28.cell? ⟨gb296,0,none⟩ = some (.int .i64 0):=(bc_ BK296.out 0).trans rfl;have hcz29_1 : w28.cell? ⟨gb296,1,none⟩ = some (.int .i64 0):=(bc_ BK296.out 1).trans rfl;have hcz29_2 : w28.cell? ⟨gb296,2,none⟩ = some (.int .i64 0):=(bc_ BK296.out 2).trans rfl;have hfz29_0:=bf_ BK296.out 0;have hfz29_1:=bf_ BK296.out 1;have hfz29_2:=bf_ BK296.out 2)|(go_at_call 82;(with_reducible refine (impl_Cable_other.calls ((rd_T51 l0 x16_1).f0) ((rd_T51 l0 x16_1).f1) ((rd_T51 l0 x16_1).f2) a2 t297 true _ A7.out).mono ?_);rintro e w30 ⟨rfl,hb⟩;have n0_:=mk_ (blk_below (g:=gb296) (o:=.cells #[.int .i64 ((rd_T51 l0 x16_1).f0),.int .i64 ((rd_T51 l0 x16_1).f1),.int .i64 ((rd_T51 l0 x16_1).f2)] 51 (0,0)) (by (with_reducible repeat (first|refine kn_ ?_ _|refine kd_ ?_|refine ka_ ?_ _));refine blk_put (cs:=#[.int .i64 ((rd_T51 l0 x16_1).f0),.int .i64 ((rd_T51 l0 x16_1).f1),.int .i64 0]) ?_ 2 _ rfl;(with_reducible repeat (first|refine kn_ ?_ _|refine kd_ ?_|refine ka_ ?_ _));refine blk_put (cs:=#[.int .i64 ((rd_T51 l0 x16_1).f0),.int .i64 0,.int .i64 0]) ?_ 1 _ rfl;(with_reducible repeat (first|refine kn_ ?_ _|refine kd_ ?_|refine ka_ ?_ _));refine blk_put (cs:=#[.int .i64 0,.int .i64 0,.int .i64 0]) ?_ 0 _ rfl;(with_reducible repeat (first|refine kn_ ?_ _|refine kd_ ?_|refine ka_ ?_ _));exact BK296.out) hb);have n1_:=mk_ (st_ (qc_ HB GE296) hb);clear BK296;clear HB;have BK296:=n0_;have HB:=n1_;clear n0_ n1_;(try clear hb);(try clear hb2);(try clear hk);(try clear hi);have p299 : 0 ≤ (t297 : Int):=od_ qa_;have q299 : t297 < (l1.length : Int):=od_ qa_;obtain ⟨ad299,e299,hx299_0⟩:=Kd.at_int HR1.out t297 p299 q299;cases e299;replace hx299_0:=(HB.out.cell (wl_ w _ hx299_0)).trans hx299_0;replace p299:=eq_true p299;replace q299:=eq_true q299;have hcz31_0 : w30.cell? ⟨gb296,0,none⟩ = some (.int .i64 ((rd_T51 l0 x16_1).f0)):=(bc_ BK296.out 0).trans rfl;have hcz31_1 : w30.cell? ⟨gb296,1,none⟩ = some (.int .i64 ((rd_T51 l0 x16_1).f1)):=(bc_ BK296.out 1).trans rfl;have hcz31_2 : w30.cell? ⟨gb296,2,none⟩ = some (.int .i64 ((rd_T51 l0 x16_1).f2)):=(bc_ BK296.out 2).trans rfl;have hfz31_0:=bf_ BK296.out 0;have hfz31_1:=bf_ BK296.out 1;have hfz31_2:=bf_ BK296.out 2;have p300 : 0 ≤ (a2 : Int):=od_ qa_;have q300 : a2 < (l1.length : Int):=od_ qa_;obtain ⟨ad300,e300,hx300_0⟩:=Kd.at_int HR1.out a2 p300 q300;obtain rfl : ad299 = ad300:=(by injection e300);replace hx300_0:=(HB.out.cell (wl_ w _ hx300_0)).trans hx300_0;replace p300:=eq_true p300;replace q300:=eq_true q300));try go_wp2_with (first|((with_reducible refine gate_dst (N:=11) rfl ?_);refine box_event ?hg (N:=11) ?hd (cs:=#[.int .i64 0,.int .i64 0,.int .i64 0]) (t:=51) ?hr ?_;(case hd => rfl);(case hg => rfl);(case hr => first|(go_simp;done)|(go_simp;rfl));intro gb296 hg w28 hbox hb;have n0_:=mk_ (st_ (qb_ HB) hb);have n1_:=mk_ (hbox);have n2_:=mk_ ((by rw [hg];exact (bz_ (qb_ HB)) : w.heap.size ≤ gb296));have n3_:=mk_ ((by rw [hg];exact (bz_ (qb_ HB)) : w.heap.size ≤ gb296));clear HB;have HB:=n0_;have BK296:=n1_;have GW296:=n2_;have GE296:=n3_;clear n0_ n1_ n2_ n3_;clear hb hbox hg;have hcz29_0 : w28.cell? ⟨gb296,0,none⟩ = some (.int .i64 0):=(bc_ BK296.out 0).trans rfl;have hcz29_1 : w28.cell? ⟨gb296,1,none⟩ = some (.int .i64 0):=(bc_ BK296.out 1).trans rfl;have hcz29_2 : w28.cell? ⟨gb296,2,none⟩ = some (.int .i64 0):=(bc_ BK296.out 2).trans rfl;have hfz29_0:=bf_ BK296.out 0;have hfz29_1:=bf_ BK296.out 1;have hfz29_2:=bf_ BK296.out 2)|(go_at_call 82;(with_reducible refine (impl_Cable_other.calls ((rd_T51 l0 x16_1).f0) ((rd_T51 l0 x16_1).f1) ((rd_T51 l0 x16_1).f2) a2 t297 true _ A7.out).mono ?_);rintro e w30 ⟨rfl,hb⟩;have n0_:=mk_ (blk_below (g:=gb296) (o:=.cells #[.int .i64 ((rd_T51 l0 x16_1).f0),.int .i64 ((rd_T51 l0 x16_1).f1),.int .i64 ((rd_T51 l0 x16_1).f2)] 51 (0,0)) (by (with_reducible repeat (first|refine kn_ ?_ _|refine kd_ ?_|refine ka_ ?_ _));refine blk_put (cs:=#[.int .i64 ((rd_T51 l0 x16_1).f0),.int .i64 ((rd_T51 l0 x16_1).f1),.int .i64 0]) ?_ 2 _ rfl;(with_reducible repeat (first|refine kn_ ?_ _|refine kd_ ?_|refine ka_ ?_ _));refine blk_put (cs:=#[.int .i64 ((rd_T51 l0 x16_1).f0),.int .i64 0,.int .i64 0]) ?_ 1 _ rfl;(with_reducible repeat (first|refine kn_ ?_ _|refine kd_ ?_|refine ka_ ?_ _));refine blk_put (cs:=#[.int .i64 0,.int .i64 0,.int .i64 0]) ?_ 0 _ rfl;(with_reducible repeat (first|refine kn_ ?_ _|refine kd_ ?_|refine ka_ ?_ _));exact BK296.out) hb);have n1_:=mk_ (st_ (qc_ HB GE296) hb);clear BK296;clear HB;have BK296:=n0_;have HB:=n1_;clear n0_ n1_;(try clear hb);(try clear hb2);(try clear hk);(try clear hi);have p299 : 0 ≤ (t297 : Int):=od_ qa_;have q299 : t297 < (l1.length : Int):=od_ qa_;obtain ⟨ad299,e299,hx299_0⟩:=Kd.at_int HR1.out t297 p299 q299;cases e299;replace hx299_0:=(HB.out.cell (wl_ w _ hx299_0)).trans hx299_0;replace p299:=eq_true p299;replace q299:=eq_true q299;have hcz31_0 : w30.cell? ⟨gb296,0,none⟩ = some (.int .i64 ((rd_T51 l0 x16_1).f0)):=(bc_ BK296.out 0).trans rfl;have hcz31_1 : w30.cell? ⟨gb296,1,none⟩ = some (.int .i64 ((rd_T51 l0 x16_1).f1)):=(bc_ BK296.out 1).trans rfl;have hcz31_2 : w30.cell? ⟨gb296,2,none⟩ = some (.int .i64 ((rd_T51 l0 x16_1).f2)):=(bc_ BK296.out 2).trans rfl;have hfz31_0:=bf_ BK296.out 0;have hfz31_1:=bf_ BK296.out 1;have hfz31_2:=bf_ BK296.out 2;have p300 : 0 ≤ (a2 : Int):=od_ qa_;have q300 : a2 < (l1.length : Int):=od_ qa_;obtain ⟨ad300,e300,hx300_0⟩:=Kd.at_int HR1.out a2 p300 q300;obtain rfl : ad299 = ad300:=(by injection e300);replace hx300_0:=(HB.out.cell (wl_ w _ hx300_0)).trans hx300_0;replace p300:=eq_true p300;replace q300:=eq_true q300)))
            go_roundg k1
            case measure => have:=HK1.out;omega
            case rel => exact ⟨(x8_1),(x9_1),(wrap64 (x16_1 + 1)),(by first|rfl|(simp;done)|(simp [*];done)),(by first|rfl|(simp;done)|(simp [*];done)),(by first|rfl|(simp;done)|(simp [*];done)),H',⟨by have:=HK1.out;omega⟩,⟨by repeat (first|(with_reducible first|exact HB.out|apply ba_|apply bn_|apply bd_|refine bs_ ?_ GE296.out)|exact HB.out)⟩⟩
          ·rw [if_neg c12] at H
           exact absurd H (by simp)
         ·rw [if_neg c11] at H
          exact absurd H (by simp)
        ·rw [if_neg c10] at H
         exact absurd H (by simp)
       ·rw [if_neg c9] at H
        exact absurd H (by simp)
      ·replace c8:=Bool.eq_false_iff.mpr c8
       subst c8
       have H1 : (impl_upOf.l0 k1 l1 a2 x8_1 x9_1 l0 (l0.length : Int) (wrap64 (x16_1 + 1))) = some (r1,r2):=by rw [if_neg (show ¬ (false = true) by decide)] at H;exact H
       clear H
       have H:=H1
       clear H1
       have H':=mk_ H
       clear H
       have p295 : 0 ≤ (x16_1 : Int):=od_ qa_
       have q295 : x16_1 < (l0.length : Int):=od_ qa_
       obtain ⟨ad295,e295,hx295_0,hx295_1,hx295_2⟩:=at_T51 HR0.out x16_1 p295 q295
       cases e295
       replace hx295_0:=(HB.out.cell (wl_ w _ hx295_0)).trans hx295_0
       replace hx295_1:=(HB.out.cell (wl_ w _ hx295_1)).trans hx295_1
       replace hx295_2:=(HB.out.cell (wl_ w _ hx295_2)).trans hx295_2
       replace p295:=eq_true p295
       replace q295:=eq_true q295
       go_wp2_with (first|((with_reducible refine gate_dst (N:=11) rfl ?_);refine box_event ?hg (N:=11) ?hd (cs:=#[.int .i64 0,.int .i64 0,.int .i64 0]) (t:=51) ?hr ?_;(case hd => rfl);(case hg => rfl);(case hr => first|(go_simp;done)|(go_simp;rfl));intro gb296 hg w32 hbox hb;have n0_:=mk_ (st_ (qb_ HB) hb);have n1_:=mk_ (hbox);have n2_:=mk_ ((by rw [hg];exact (bz_ (qb_ HB)) : w.heap.size ≤ gb296));have n3_:=mk_ ((by rw [hg];exact (bz_ (qb_ HB)) : w.heap.size ≤ gb296));clear HB;have HB:=n0_;have BK296:=n1_;have GW296:=n2_;have GE296:=n3_;clear n0_ n1_ n2_ n3_;clear hb hbox hg;have hcz33_0 : w32.cell? ⟨gb296,0,none⟩ = some (.int .i64 0):=(bc_ BK296.out 0).trans rfl;have hcz33_1 : w32.cell? ⟨gb296,1,none⟩ = some (.int .i64 0):=(bc_ BK296.out 1).trans rfl;have hcz33_2 : w32.cell? ⟨gb296,2,none⟩ = some (.int .i64 0):=(bc_ BK296.out 2).trans rfl;have hfz33_0:=bf_ BK296.out 0;have hfz33_1:=bf_ BK296.out 1;have hfz33_2:=bf_ BK296.out 2)|(go_at_call 82;(with_reducible refine (impl_Cable_other.calls ((rd_T51 l0 x16_1).f0) ((rd_T51 l0 x16_1).f1) ((rd_T51 l0 x16_1).f2) a2 t297 false _ A7.out).mono ?_);rintro e w34 ⟨rfl,hb⟩;have n0_:=mk_ (blk_below (g:=gb296) (o:=.cells #[.int .i64 ((rd_T51 l0 x16_1).f0),.int .i64 ((rd_T51 l0 x16_1).f1),.int .i64 ((rd_T51 l0 x16_1).f2)] 51 (0,0)) (by (with_reducible repeat (first|refine kn_ ?_ _|refine kd_ ?_|refine ka_ ?_ _));refine blk_put (cs:=#[.int .i64 ((rd_T51 l0 x16_1).f0),.int .i64 ((rd_T51 l0 x16_1).f1),.int .i64 0]) ?_ 2 _ rfl;(with_reducible repeat (first|refine kn_ ?_ _|refine kd_ ?_|refine ka_ ?_ _));refine blk_put (cs:=#[.int .i64 ((rd_T51 l0 x16_1).f0),.int .i64 0,.int .i64 0]) ?_ 1 _ rfl;(with_reducible repeat (first|refine kn_ ?_ _|refine kd_ ?_|refine ka_ ?_ _));refine blk_put (cs:=#[.int .i64 0,.int .i64 0,.int .i64 0]) ?_ 0 _ rfl;(with_reducible repeat (first|refine kn_ ?_ _|refine kd_ ?_|refine ka_ ?_ _));exact BK296.out) hb);have n1_:=mk_ (st_ (qc_ HB GE296) hb);clear BK296;clear HB;have BK296:=n0_;have HB:=n1_;clear n0_ n1_;(try clear hb);(try clear hb2);(try clear hk);(try clear hi)))
       repeat (go_quiet (first|((with_reducible refine gate_dst (N:=11) rfl ?_);refine box_event ?hg (N:=11) ?hd (cs:=#[.int .i64 0,.int .i64 0,.int .i64 0]) (t:=51) ?hr ?_;(case hd => rfl);(case hg => rfl);(case hr => first|(go_simp;done)|(go_simp;rfl));intro gb296 hg w32 hbox hb;have n0_:=mk_ (st_ (qb_ HB) hb);have n1_:=mk_ (hbox);have n2_:=mk_ ((by rw [hg];exact (bz_ (qb_ HB)) : w.heap.size ≤ gb296));have n3_:=mk_ ((by rw [hg];exact (bz_ (qb_ HB)) : w.heap.size ≤ gb296));clear HB;have HB:=n0_;have BK296:=n1_;have GW296:=n2_;have GE296:=n3_;clear n0_ n1_ n2_ n3_;clear hb hbox hg;have hcz33_0 : w32.cell? ⟨gb296,0,none⟩ = some (.int .i64 0):=(bc_ BK296.out 0).trans rfl;have hcz33_1 : w32.cell? ⟨gb296,1,none⟩ = some (.int .i64 0):=(bc_ BK296.out 1).trans rfl;have hcz33_2 : w32.cell? ⟨gb296,2,none⟩ = some (.int .i64 0):=(bc_ BK296.out 2).trans rfl;have hfz33_0:=bf_ BK296.out 0;have hfz33_1:=bf_ BK296.out 1;have hfz33_2:=bf_ BK296.out 2)|(go_at_call 82;(with_reducible refine (impl_Cable_other.calls ((rd_T51 l0 x16_1).f0) ((rd_T51 l0 x16_1).f1) ((rd_T51 l0 x16_1).f2) a2 t297 false _ A7.out).mono ?_);rintro e w34 ⟨rfl,hb⟩;have n0_:=mk_ (blk_below (g:=gb296) (o:=.cells #[.int .i64 ((rd_T51 l0 x16_1).f0),.int .i64 ((rd_T51 l0 x16_1).f1),.int .i64 ((rd_T51 l0 x16_1).f2)] 51 (0,0)) (by (with_reducible repeat (first|refine kn_ ?_ _|refine kd_ ?_|refine ka_ ?_ _));refine blk_put (cs:=#[.int .i64 ((rd_T51 l0 x16_1).f0),.int .i64 ((rd_T51 l0 x16_1).f1),.int .i64 0]) ?_ 2 _ rfl;(with_reducible repeat (first|refine kn_ ?_ _|refine kd_ ?_|refine ka_ ?_ _));refine blk_put (cs:=#[.int .i64 ((rd_T51 l0 x16_1).f0),.int .i64 0,.int .i64 0]) ?_ 1 _ rfl;(with_reducible repeat (first|refine kn_ ?_ _|refine kd_ ?_|refine ka_ ?_ _));refine blk_put (cs:=#[.int .i64 0,.int .i64 0,.int .i64 0]) ?_ 0 _ rfl;(with_reducible repeat (first|refine kn_ ?_ _|refine kd_ ?_|refine ka_ ?_ _));exact BK296.out) hb);have n1_:=mk_ (st_ (qc_ HB GE296) hb);clear BK296;clear HB;have BK296:=n0_;have HB:=n1_;clear n0_ n1_;(try clear hb);(try clear hb2);(try clear hk);(try clear hi)));try go_wp2_with (first|((with_reducible refine gate_dst (N:=11) rfl ?_);refine box_event ?hg (N:=11) ?hd (cs:=#[.int .i64 0,.int .i64 0,.int .i64 0]) (t:=51) ?hr ?_;(case hd => rfl);(case hg => rfl);(case hr => first|(go_simp;done)|(go_simp;rfl));intro gb296 hg w32 hbox hb;have n0_:=mk_ (st_ (qb_ HB) hb);have n1_:=mk_ (hbox);have n2_:=mk_ ((by rw [hg];exact (bz_ (qb_ HB)) : w.heap.size ≤ gb296));have n3_:=mk_ ((by rw [hg];exact (bz_ (qb_ HB)) : w.heap.size ≤ gb296));clear HB;have HB:=n0_;have BK296:=n1_;have GW296:=n2_;have GE296:=n3_;clear n0_ n1_ n2_ n3_;clear hb hbox hg;have hcz33_0 : w32.cell? ⟨gb296,0,none⟩ = some (.int .i64 0):=(bc_ BK296.out 0).trans rfl;have hcz33_1 : w32.cell? ⟨gb296,1,none⟩ = some (.int .i64 0):=(bc_ BK296.out 1).trans rfl;have hcz33_2 : w32.cell? ⟨gb296,2,none⟩ = some (.int .i64 0):=(bc_ BK296.out 2).trans rfl;have hfz33_0:=bf_ BK296.out 0;have hfz33_1:=bf_ BK296.out 1;have hfz33_2:=bf_ BK296.out 2)|(go_at_call 82;(with_reducible refine (impl_Cable_other.calls ((rd_T51 l0 x16_1).f0) ((rd_T51 l0 x16_1).f1) ((rd_T51 l0 x16_1).f2) a2 t297 false _ A7.out).mono ?_);rintro e w34 ⟨rfl,hb⟩;have n0_:=mk_ (blk_below (g:=gb296) (o:=.cells #[.int .i64 ((rd_T51 l0 x16_1).f0),.int .i64 ((rd_T51 l0 x16_1).f1),.int .i64 ((rd_T51 l0 x16_1).f2)] 51 (0,0)) (by (with_reducible repeat (first|refine kn_ ?_ _|refine kd_ ?_|refine ka_ ?_ _));refine blk_put (cs:=#[.int .i64 ((rd_T51 l0 x16_1).f0),.int .i64 ((rd_T51 l0 x16_1).f1),.int .i64 0]) ?_ 2 _ rfl;(with_reducible repeat (first|refine kn_ ?_ _|refine kd_ ?_|refine ka_ ?_ _));refine blk_put (cs:=#[.int .i64 ((rd_T51 l0 x16_1).f0),.int .i64 0,.int .i64 0]) ?_ 1 _ rfl;(with_reducible repeat (first|refine kn_ ?_ _|refine kd_ ?_|refine ka_ ?_ _));refine blk_put (cs:=#[.int .i64 0,.int .i64 0,.int .i64 0]) ?_ 0 _ rfl;(with_reducible repeat (first|refine kn_ ?_ _|refine kd_ ?_|refine ka_ ?_ _));exact BK296.out) hb);have n1_:=mk_ (st_ (qc_ HB GE296) hb);clear BK296;clear HB;have BK296:=n0_;have HB:=n1_;clear n0_ n1_;(try clear hb);(try clear hb2);(try clear hk);(try clear hi))))
       go_roundg k1
       case measure => have:=HK1.out;omega
       case rel => exact ⟨(x8_1),(x9_1),(wrap64 (x16_1 + 1)),(by first|rfl|(simp;done)|(simp [*];done)),(by first|rfl|(simp;done)|(simp [*];done)),(by first|rfl|(simp;done)|(simp [*];done)),H',⟨by have:=HK1.out;omega⟩,⟨by repeat (first|(with_reducible first|exact HB.out|apply ba_|apply bn_|apply bd_|refine bs_ ?_ GE296.out)|exact HB.out)⟩⟩
     ·rw [if_neg c6] at H
      exact absurd H (by simp)
    ·rw [if_neg c5] at H
     exact absurd H (by simp)
   ·rw [if_neg c4] at H
    have c4b0 : decide (x16_1 < (l0.length : Int)) = false:=decide_eq_false c4
    clear c4
    simp only [Option.some.injEq,Prod.mk.injEq] at H
    obtain ⟨rfl,rfl⟩:=H
    go_wp2
    repeat (go_quiet (fail);try go_wp2)
    go_ret2
    exact ⟨by first|rfl|(simp [errW_none,errW_some] <;> rfl)|(simp [*,errW_none,errW_some] <;> rfl),by repeat (first|(with_reducible first|exact HB.out|apply ba_|apply bn_|apply bd_)|exact HB.out)⟩

/-! ### cmp_isNaN_int: function 112 -/
def cmp_isNaN_int.f (a0 : Int) : Option (Bool):=some (a0 != a0)
set_option maxHeartbeats 8000000 in
set_option maxRecDepth 100000 in
theorem cmp_isNaN_int.calls (a0 : Int) (r : Bool) (w : World) (h : cmp_isNaN_int.f a0 = some r) :
  Calls Try.prog 112 #[.int .i64 a0] w fun e w' => e = .returned (.bool r) ∧ Drawn0 w w':=by
 have H : (some (a0 != a0)) = some r:=h
 clear h
 obtain rfl:=Option.some.inj H
 go_enter Try.func112,Try.ntmps112
 go_wp2
 go_ret
 exact ⟨by first|rfl|(simp;done)|(simp [*];done),by repeat (first|exact Drawn0.refl _|apply Drawn0.step)⟩

/-! ### cmp_Less_int: function 99 -/
def cmp_Less_int.f (a0 : Int) (a1 : Int) : Option (Bool):=(cmp_isNaN_int.f a0).bind fun t301 => (if t301 = true then ((cmp_isNaN_int.f a1).bind fun t302 => (if t302 = true then (some (decide (a0 < a1))) else (some true))) else (some (decide (a0 < a1))))
set_option maxHeartbeats 8000000 in
set_option maxRecDepth 100000 in
theorem cmp_Less_int.calls (a0 : Int) (a1 : Int) (r : Bool) (w : World) (h : cmp_Less_int.f a0 a1 = some r) :
  Calls Try.prog 99 #[.int .i64 a0,.int .i64 a1] w fun e w' => e = .returned (.bool r) ∧ Drawn0 w w':=by
 have H : ((cmp_isNaN_int.f a0).bind fun t301 => (if t301 = true then ((cmp_isNaN_int.f a1).bind fun t302 => (if t302 = true then (some (decide (a0 < a1))) else (some true))) else (some (decide (a0 < a1))))) = some r:=h
 clear h
 replace H:=Option.bind_eq_some_iff.mp H
 obtain ⟨t301,A30,H⟩:=H
 replace H : (if t301 = true then ((cmp_isNaN_int.f a1).bind fun t302 => (if t302 = true then (some (decide (a0 < a1))) else (some true))) else (some (decide (a0 < a1)))) = some r:=H
 have A3:=mk_ A30
 clear A30
 by_cases c4 : t301 = true
 ·subst c4
  have H1 : ((cmp_isNaN_int.f a1).bind fun t302 => (if t302 = true then (some (decide (a0 < a1))) else (some true))) = some r:=by rw [if_pos rfl] at H;exact H
  clear H
  have H:=H1
  clear H1
  replace H:=Option.bind_eq_some_iff.mp H
  obtain ⟨t302,A50,H⟩:=H
  replace H : (if t302 = true then (some (decide (a0 < a1))) else (some true)) = some r:=H
  have A5:=mk_ A50
  clear A50
  by_cases c6 : t302 = true
  ·subst c6
   have H1 : (some (decide (a0 < a1))) = some r:=by rw [if_pos rfl] at H;exact H
   clear H
   have H:=H1
   clear H1
   obtain rfl:=Option.some.inj H
   go_enter Try.func99,Try.ntmps99
   go_wp2_with (first|((with_reducible refine gate_callee (f:=112) rfl ?_);refine goesL_ (some 6) rfl rfl Try.func112 (by kernel_rfl) rfl #[.int .i64 a0] rfl qm_ ?_;(with_reducible refine (cmp_isNaN_int.calls a0 true _ A3.out).mono ?_);rintro e w' ⟨rfl,⟨nd,rfl⟩⟩;refine ⟨_,rfl,?_⟩)|(go_at_call 112;(with_reducible refine (cmp_isNaN_int.calls a1 true _ A5.out).mono ?_);rintro e w' ⟨rfl,⟨nd,rfl⟩⟩))
   go_ret
   exact ⟨by first|rfl|(simp;done)|(simp [*];done),by repeat (first|exact Drawn0.refl _|apply Drawn0.step)⟩
  ·replace c6:=Bool.eq_false_iff.mpr c6
   subst c6
   have H1 : (some true) = some r:=by rw [if_neg (show ¬ (false = true) by decide)] at H;exact H
   clear H
   have H:=H1
   clear H1
   obtain rfl:=Option.some.inj H
   go_enter Try.func99,Try.ntmps99
   go_wp2_with (first|((with_reducible refine gate_callee (f:=112) rfl ?_);refine goesL_ (some 6) rfl rfl Try.func112 (by kernel_rfl) rfl #[.int .i64 a0] rfl qm_ ?_;(with_reducible refine (cmp_isNaN_int.calls a0 true _ A3.out).mono ?_);rintro e w' ⟨rfl,⟨nd,rfl⟩⟩;refine ⟨_,rfl,?_⟩)|(go_at_call 112;(with_reducible refine (cmp_isNaN_int.calls a1 false _ A5.out).mono ?_);rintro e w' ⟨rfl,⟨nd,rfl⟩⟩))
   go_ret
   exact ⟨by first|rfl|(simp;done)|(simp [*];done),by repeat (first|exact Drawn0.refl _|apply Drawn0.step)⟩
 ·replace c4:=Bool.eq_false_iff.mpr c4
  subst c4
  have H1 : (some (decide (a0 < a1))) = some r:=by rw [if_neg (show ¬ (false = true) by decide)] at H;exact H
  clear H
  have H:=H1
  clear H1
  obtain rfl:=Option.some.inj H
  go_enter Try.func99,Try.ntmps99
  go_wp2_with (first|((with_reducible refine gate_callee (f:=112) rfl ?_);refine goesL_ (some 6) rfl rfl Try.func112 (by kernel_rfl) rfl #[.int .i64 a0] rfl qm_ ?_;(with_reducible refine (cmp_isNaN_int.calls a0 false _ A3.out).mono ?_);rintro e w' ⟨rfl,⟨nd,rfl⟩⟩;refine ⟨_,rfl,?_⟩))
  go_ret
  exact ⟨by first|rfl|(simp;done)|(simp [*];done),by repeat (first|exact Drawn0.refl _|apply Drawn0.step)⟩

/-! ### slices_insertionSortOrdered_int: function 93 -/
mutual
def slices_insertionSortOrdered_int.l0 : Nat → List Int → Int → Int → Int → Option (List Int)
 | 0,_,_,_,_ => none
 | k + 1,x0,x1,x2,x6 => if x6 < x2 then (slices_insertionSortOrdered_int.l1 k x0 x1 x2 x6 x6) else (some x0)
def slices_insertionSortOrdered_int.l1 : Nat → List Int → Int → Int → Int → Int → Option (List Int)
 | 0,_,_,_,_,_ => none
 | k + 1,x0,x1,x2,x6,x7 => if x7 > x1 then (if 0 ≤ x7 then (if x7 < (x0.length : Int) then (if 0 ≤ (wrap64 (x7 - 1)) then (if (wrap64 (x7 - 1)) < (x0.length : Int) then ((cmp_Less_int.f (rd x0 x7) (rd x0 (wrap64 (x7 - 1)))).bind fun t305 => (if t305 = true then (slices_insertionSortOrdered_int.l1 k ((x0.set (x7 : Int).toNat (rd x0 (wrap64 (x7 - 1)))).set ((wrap64 (x7 - 1)) : Int).toNat (rd x0 x7)) x1 x2 x6 (wrap64 (x7 - 1))) else (slices_insertionSortOrdered_int.l0 k x0 x1 x2 (wrap64 (x6 + 1))))) else (none)) else (none)) else (none)) else (none)) else (slices_insertionSortOrdered_int.l0 k x0 x1 x2 (wrap64 (x6 + 1)))
end
def slices_insertionSortOrdered_int.f (k : Nat) (l0 : List Int) (a1 : Int) (a2 : Int) : Option (List Int):=slices_insertionSortOrdered_int.l0 k l0 a1 a2 (wrap64 (a1 + 1))
theorem slices_insertionSortOrdered_int.mono_l : ∀ k,(∀ y0 y1 y2 y3,LeO (slices_insertionSortOrdered_int.l0 k y0 y1 y2 y3) (slices_insertionSortOrdered_int.l0 (k + 1) y0 y1 y2 y3)) ∧ (∀ y0 y1 y2 y3 y4,LeO (slices_insertionSortOrdered_int.l1 k y0 y1 y2 y3 y4) (slices_insertionSortOrdered_int.l1 (k + 1) y0 y1 y2 y3 y4))
 | 0 => ⟨fun _ _ _ _ r h => by simp [slices_insertionSortOrdered_int.l0] at h,fun _ _ _ _ _ r h => by simp [slices_insertionSortOrdered_int.l1] at h⟩
 | k + 1 => by
  obtain ⟨ih0,ih1⟩:=slices_insertionSortOrdered_int.mono_l k
  refine ⟨?_,?_⟩
  ·intro y0 y1 y2 y3
   unfold slices_insertionSortOrdered_int.l0
   repeat' first
   | (with_reducible exact ih0 _ _ _ _)
   | (with_reducible exact ih1 _ _ _ _ _)
   | (with_reducible exact LeO.refl _)
   | (with_reducible exact LeO.none _)
   | (with_reducible refine LeO.ite ?_ ?_)
   | (with_reducible refine LeO.bind ?_ (fun _ => ?_))
   | exact ih0 _ _ _ _
   | exact ih1 _ _ _ _ _
   | exact LeO.none _
   | refine LeO.ite ?_ ?_
   | refine LeO.bind ?_ (fun _ => ?_)
  ·intro y0 y1 y2 y3 y4
   unfold slices_insertionSortOrdered_int.l1
   repeat' first
   | (with_reducible exact ih0 _ _ _ _)
   | (with_reducible exact ih1 _ _ _ _ _)
   | (with_reducible exact LeO.refl _)
   | (with_reducible exact LeO.none _)
   | (with_reducible refine LeO.ite ?_ ?_)
   | (with_reducible refine LeO.bind ?_ (fun _ => ?_))
   | exact ih0 _ _ _ _
   | exact ih1 _ _ _ _ _
   | exact LeO.none _
   | refine LeO.ite ?_ ?_
   | refine LeO.bind ?_ (fun _ => ?_)
theorem slices_insertionSortOrdered_int.mono : ∀ a0 a1 a2 k,LeO (slices_insertionSortOrdered_int.f k a0 a1 a2) (slices_insertionSortOrdered_int.f (k + 1) a0 a1 a2):=by
 intro a0 a1 a2 k
 obtain ⟨ih0,ih1⟩:=slices_insertionSortOrdered_int.mono_l k
 unfold slices_insertionSortOrdered_int.f
 repeat' first
   | (with_reducible exact ih0 _ _ _ _)
   | (with_reducible exact ih1 _ _ _ _ _)
   | (with_reducible exact LeO.refl _)
   | (with_reducible exact LeO.none _)
   | (with_reducible refine LeO.ite ?_ ?_)
   | (with_reducible refine LeO.bind ?_ (fun _ => ?_))
   | exact ih0 _ _ _ _
   | exact ih1 _ _ _ _ _
   | exact LeO.none _
   | refine LeO.ite ?_ ?_
   | refine LeO.bind ?_ (fun _ => ?_)
def slices_insertionSortOrdered_int.T4 : Bool × List (List Nat × List Nat):=(true,[([],[]),([],[]),([0,1],[0,1]),([2],[2]),([3],[3]),([3],[3]),([4,5,3],[3,4,5]),([6,3],[3,6]),([3],[3]),([3],[3]),([9,3],[3,9]),([8,10,3],[3,8,10]),([11,3],[3,11]),([7,12,3,3],[3,7,12]),([3,13],[3,13])])
def slices_insertionSortOrdered_int.B4 : List Nat:=[0,0,3,7,15,15,63,127,15,15,527,1807,3855,8191,16383]
theorem slices_insertionSortOrdered_int.tab4 : rtab .any (opsOf Try.f93 4) = slices_insertionSortOrdered_int.T4:=by kernel_rfl
theorem slices_insertionSortOrdered_int.bits4 : waitsOk slices_insertionSortOrdered_int.T4.2 slices_insertionSortOrdered_int.B4 = true:=by kernel_rfl
def slices_insertionSortOrdered_int.T6 : Bool × List (List Nat × List Nat):=(true,[([],[]),([],[]),([],[]),([],[]),([3],[3]),([],[]),([],[]),([6],[6]),([5,7],[5,7]),([8],[8]),([],[]),([],[]),([10,11],[10,11]),([12],[12]),([0,1,0,1,5,6,7,8,9,13],[0,1]),([14,9,0,1,5,6,7,8,9,13],[9,14]),([2,4,0,1,2,3,4,5,6,7,8,9,10,11,12,13,14,15],[2,4]),([16,13,15,0,1,2,3,4,5,6,7,8,9,10,11,12,13,14,15],[13,16])])
def slices_insertionSortOrdered_int.B6 : List Nat:=[0,0,0,0,8,0,0,64,224,480,0,0,3072,7168,16355,32739,65535,131071]
theorem slices_insertionSortOrdered_int.tab6 : rtab .any (opsOf Try.f93 6) = slices_insertionSortOrdered_int.T6:=by kernel_rfl
theorem slices_insertionSortOrdered_int.bits6 : waitsOk slices_insertionSortOrdered_int.T6.2 slices_insertionSortOrdered_int.B6 = true:=by kernel_rfl
set_option maxHeartbeats 8000000 in
set_option maxRecDepth 100000 in
theorem slices_insertionSortOrdered_int.calls (k : Nat) (P0_ : Nat → Prop) (u9000_ : Value) (l0 : List Int) (a1 : Int) (a2 : Int) (r : List Int) (w0 w : World) (hB : Below w0.heap.size w0 w) (ho0 : Kd.R (Kd.int .i64) 3 w w0.heap.size P0_ u9000_ l0) (h : slices_insertionSortOrdered_int.f k l0 a1 a2 = some r) :
  Calls Try.prog 93 #[u9000_,.int .i64 a1,.int .i64 a2] w fun e w' => e = .returned (.tuple #[]) ∧ Kd.R (Kd.int .i64) 3 w' w0.heap.size (fun k_ => (P0_ k_ ∨ w.heap.size ≤ k_)) u9000_ r ∧ Below w0.heap.size w0 w' ∧ Kept w w' (fun k_ => P0_ k_):=by
 have HO0:=mk_ (show Kd.R (Kd.int .i64) 3 w w0.heap.size (fun k_ => (P0_ k_ ∨ w.heap.size ≤ k_)) u9000_ l0 from rm_ ho0 (fun k_ hk => (.inl hk)))
 have HK:=mk_ (Kept.refl w (fun k_ => P0_ k_))
 have HW0:=mk_ hB.size
 have HB:=mk_ hB
 clear hB
 have H : (slices_insertionSortOrdered_int.l0 k l0 a1 a2 (wrap64 (a1 + 1))) = some r:=h
 clear h
 have H':=mk_ H
 clear H
 go_enter Try.func93,Try.ntmps93
 go_wp2
 go_loopg [6] k (fun kq v6 w' => ∃ (x0_1 : List Int) (x6_1 : Int),v6 = .int .i64 x6_1 ∧ Aside0 (slices_insertionSortOrdered_int.l0 kq x0_1 a1 a2 x6_1 = some r) ∧ Aside0 (kq ≤ k) ∧ Aside0 (Kd.R (Kd.int .i64) 3 w' w0.heap.size (fun k_ => (P0_ k_ ∨ w.heap.size ≤ k_)) u9000_ x0_1) ∧ Aside0 (Kept w w' (fun k_ => P0_ k_)) ∧ Aside0 (Below w0.heap.size w0 w'))
 case atStart => exact ⟨(l0),(wrap64 (a1 + 1)),(by first|rfl|(simp;done)|(simp [*];done)),H',⟨Nat.le_refl _⟩,⟨by (with_reducible repeat (first|apply ra_|apply rn_|apply rd_));exact HO0.out⟩,⟨by repeat (first|(with_reducible first|exact HK.out|apply Kept.alloc|apply Kept.drewN|apply Kept.drew)|exact HK.out)⟩,⟨by repeat (first|(with_reducible first|exact HB.out|apply ba_|apply bn_|apply bd_)|exact HB.out)⟩⟩
 case round =>
  clear H'
  try clear p2
  obtain ⟨x0_1,x6_1,rfl,HA,HK1,HO_0,HK,HB⟩:=hrel
  cases gk with
  | zero => exact absurd HA.out (by simp [slices_insertionSortOrdered_int.l0])
  | succ k1 =>
   have H:=HA.out
   clear HA
   simp only [slices_insertionSortOrdered_int.l0] at H
   by_cases c4 : x6_1 < a2
   ·rw [if_pos c4] at H
    have c4b0 : decide (x6_1 < a2) = true:=decide_eq_true c4
    clear c4
    have H':=mk_ H
    clear H
    go_wp2
    go_loopg [7] k1 (fun kq v7 w' => ∃ (x0_2 : List Int) (x7_2 : Int),v7 = .int .i64 x7_2 ∧ Aside0 (slices_insertionSortOrdered_int.l1 kq x0_2 a1 a2 x6_1 x7_2 = some r) ∧ Aside0 (kq ≤ k1) ∧ Aside0 (Kd.R (Kd.int .i64) 3 w' w0.heap.size (fun k_ => (P0_ k_ ∨ w.heap.size ≤ k_)) u9000_ x0_2) ∧ Aside0 (Kept w w' (fun k_ => P0_ k_)) ∧ Aside0 (Below w0.heap.size w0 w'))
    case atStart => exact ⟨(x0_1),(x6_1),(by first|rfl|(simp;done)|(simp [*];done)),H',⟨Nat.le_refl _⟩,⟨by (with_reducible repeat (first|apply ra_|apply rn_|apply rd_));exact HO_0.out⟩,⟨by repeat (first|(with_reducible first|exact HK.out|apply Kept.alloc|apply Kept.drewN|apply Kept.drew)|exact HK.out)⟩,⟨by repeat (first|(with_reducible first|exact HB.out|apply ba_|apply bn_|apply bd_)|exact HB.out)⟩⟩
    case round =>
     clear H'
     try clear p2
     try clear c4
     try clear c4b0
     try clear p2
     obtain ⟨x0_2,x7_2,rfl,HA,HK2,HO_0,HK,HB⟩:=hrel
     cases gk with
     | zero => exact absurd HA.out (by simp [slices_insertionSortOrdered_int.l1])
     | succ k2 =>
      have H:=HA.out
      clear HA
      simp only [slices_insertionSortOrdered_int.l1] at H
      by_cases c5 : x7_2 > a1
      ·rw [if_pos c5] at H
       have c5b0 : decide (a1 < x7_2) = true:=decide_eq_true c5
       clear c5
       by_cases c6 : 0 ≤ x7_2
       ·rw [if_pos c6] at H
        have c6b0 : decide (0 ≤ x7_2) = true:=decide_eq_true c6
        clear c6
        by_cases c7 : x7_2 < (x0_2.length : Int)
        ·rw [if_pos c7] at H
         have c7b0 : decide (x7_2 < (x0_2.length : Int)) = true:=decide_eq_true c7
         clear c7
         obtain ⟨ji8,hji8⟩ : ∃ j_ : Int,(wrap64 (x7_2 - 1)) = j_:=⟨_,rfl⟩
         replace H : (if 0 ≤ (ji8) then (if (ji8) < (x0_2.length : Int) then ((cmp_Less_int.f (rd x0_2 x7_2) (rd x0_2 (ji8))).bind fun t305 => (if t305 = true then (slices_insertionSortOrdered_int.l1 k2 ((x0_2.set (x7_2 : Int).toNat (rd x0_2 (ji8))).set ((ji8) : Int).toNat (rd x0_2 x7_2)) a1 a2 x6_1 ji8) else (slices_insertionSortOrdered_int.l0 k2 x0_2 a1 a2 (wrap64 (x6_1 + 1))))) else (none)) else (none)) = some r:=by first|(rw [hji8] at H;exact H)|(simp only [hji8] at H ⊢;exact H)
         have hji8w : (IntKind.i64.wrap (x7_2 - 1)) = ji8:=(i64_w _).trans hji8
         by_cases c9 : 0 ≤ (ji8)
         ·rw [if_pos c9] at H
          have c9b0 : decide (0 ≤ (ji8)) = true:=decide_eq_true c9
          clear c9
          by_cases c10 : (ji8) < (x0_2.length : Int)
          ·rw [if_pos c10] at H
           have c10b0 : decide ((ji8) < (x0_2.length : Int)) = true:=decide_eq_true c10
           clear c10
           replace H:=Option.bind_eq_some_iff.mp H
           obtain ⟨t305,A110,H⟩:=H
           replace H : (if t305 = true then (slices_insertionSortOrdered_int.l1 k2 ((x0_2.set (x7_2 : Int).toNat (rd x0_2 (ji8))).set ((ji8) : Int).toNat (rd x0_2 x7_2)) a1 a2 x6_1 ji8) else (slices_insertionSortOrdered_int.l0 k2 x0_2 a1 a2 (wrap64 (x6_1 + 1)))) = some r:=H
           have A11:=mk_ A110
           clear A110
           by_cases c12 : t305 = true
           ·subst c12
            have H1 : (slices_insertionSortOrdered_int.l1 k2 ((x0_2.set (x7_2 : Int).toNat (rd x0_2 (ji8))).set ((ji8) : Int).toNat (rd x0_2 x7_2)) a1 a2 x6_1 ji8) = some r:=by rw [if_pos rfl] at H;exact H
            clear H
            have H:=H1
            clear H1
            obtain ⟨y308,hy308⟩ : ∃ y_ : List Int,y_ = (x0_2.set (x7_2 : Int).toNat (rd x0_2 (ji8))):=⟨_,rfl⟩
            replace H : (slices_insertionSortOrdered_int.l1 k2 (y308.set ((ji8) : Int).toNat (rd x0_2 x7_2)) a1 a2 x6_1 ji8) = some r:=by first|(rw [hy308];with_reducible exact H)|(have H2_:=(Option.bind_some _ _).symm.trans H;rw [hy308];with_reducible exact H2_)|(have H2_:=(Option.bind_some _ _).symm.trans H;with_reducible exact H2_)|with_reducible exact H|(rw [hy308];exact H)|exact H
            have Ny308:=mk_ hy308
            clear hy308
            obtain ⟨y309,hy309⟩ : ∃ y_ : List Int,y_ = (y308.set ((ji8) : Int).toNat (rd x0_2 x7_2)):=⟨_,rfl⟩
            replace H : (slices_insertionSortOrdered_int.l1 k2 y309 a1 a2 x6_1 ji8) = some r:=by first|(rw [hy309];with_reducible exact H)|(have H2_:=(Option.bind_some _ _).symm.trans H;rw [hy309];with_reducible exact H2_)|(have H2_:=(Option.bind_some _ _).symm.trans H;with_reducible exact H2_)|with_reducible exact H|(rw [hy309];exact H)|exact H
            have Ny309:=mk_ hy309
            clear hy309
            have H':=mk_ H
            clear H
            try go_wp2
            have n0_:=mk_ (rd_ HO_0.out)
            have n1_:=mk_ (Kept.drew HK.out)
            have n2_:=mk_ (bd_ HB.out)
            clear HO_0
            clear HK
            clear HB
            have HO_0:=n0_
            have HK:=n1_
            have HB:=n2_
            clear n0_ n1_ n2_
            obtain ⟨Ao16,co16,eo16⟩:=Kd.R_slice HO_0.out
            (first|subst eo16|(injection eo16 with f1_ f2_ f3_;have f4_:=f1_.symm;have f5_:=f3_.symm;clear f1_ f2_ f3_;subst f4_;subst f5_))
            have p303 : 0 ≤ (x7_2 : Int):=od_ qa_
            have q303 : x7_2 < (x0_2.length : Int):=od_ qa_
            obtain ⟨ad303,e303,hx303_0⟩:=Kd.at_int (rr_ HO_0.out).2.2 x7_2 p303 q303
            cases e303
            replace p303:=eq_true p303
            replace q303:=eq_true q303
            have p304 : 0 ≤ ((ji8) : Int):=od_ qa_
            have q304 : (ji8) < (x0_2.length : Int):=od_ qa_
            obtain ⟨ad304,e304,hx304_0⟩:=Kd.at_int (rr_ HO_0.out).2.2 (ji8) p304 q304
            obtain rfl : ad303 = ad304:=(by injection e304)
            replace p304:=eq_true p304
            replace q304:=eq_true q304
            refine start_ (n:=15) (S:=fun w' => w'.cell? (ad303.add (x7_2).toNat) = some (.int .i64 (rd x0_2 x7_2)) ∧ w'.cell? (ad303.add ((ji8)).toNat) = some (.int .i64 (rd x0_2 (ji8)))) (ds:=[]) #[false,false,false,false,false,false,false,false,false,false,false,false,false,false,false] (by kernel_rfl) rfl rfl ⟨hx303_0,hx304_0⟩ (fun hHeld => ?_);refine with_tabW slices_insertionSortOrdered_int.tab4 slices_insertionSortOrdered_int.bits4 (fun HT_ HW_ => ?_)
            generalize wr.drew = w15 at HO_0 HK HB hx303_0 hx304_0 hHeld ⊢
            refine pure_ (i:=0) (N:=some 16) (v:=?_) (a':=?_) #[true,false,false,false,false,false,false,false,false,false,false,false,false,false,false] rfl rfl (any_of HT_.out (by kernel_rfl)) (fun _ _ _ h => h) (Or.inl ⟨by rfl,?_⟩) ?_ ?_
            rotate_left
            ·intro w'
             go_simp
             with_reducible rfl
            rotate_left
            ·simp only [Act.put,sx_,sy_,sz_,i64_w,i32_w]
             rfl
            refine pure_ (i:=1) (N:=some 17) (v:=?_) (a':=?_) #[true,true,false,false,false,false,false,false,false,false,false,false,false,false,false] rfl rfl (any_of HT_.out (by kernel_rfl)) (fun _ _ _ h => h) (Or.inl ⟨by rfl,?_⟩) ?_ ?_
            rotate_left
            ·intro w'
             go_simp
             with_reducible rfl
            rotate_left
            ·simp only [Act.put,sx_,sy_,sz_,i64_w,i32_w]
             rfl
            refine pure_ (i:=2) (N:=some 18) (v:=?_) (a':=?_) #[true,true,true,false,false,false,false,false,false,false,false,false,false,false,false] rfl rfl (any_of HT_.out (by kernel_rfl)) (fun _ _ _ h => h) (Or.inl ⟨by rfl,?_⟩) ?_ ?_
            rotate_left
            ·intro w'
             go_simp
             with_reducible rfl
            rotate_left
            ·simp only [Act.put,sx_,sy_,sz_,i64_w,i32_w]
             rfl
            refine pure_ (i:=3) (N:=some 19) (v:=?_) (a':=?_) #[true,true,true,true,false,false,false,false,false,false,false,false,false,false,false] rfl rfl (any_of HT_.out (by kernel_rfl)) (fun _ _ _ h => h) (Or.inl ⟨by rfl,?_⟩) ?_ ?_
            rotate_left
            ·intro w'
             go_simp
             with_reducible rfl
            rotate_left
            ·simp only [Act.put,sx_,sy_,sz_,i64_w,i32_w]
             rfl
            refine pure_ (i:=4) (N:=some 20) (v:=?_) (a':=?_) #[true,true,true,true,true,false,false,false,false,false,false,false,false,false,false] rfl rfl (any_of HT_.out (by kernel_rfl)) (fun _ _ _ h => h) (Or.inl ⟨by rfl,?_⟩) ?_ ?_
            rotate_left
            ·intro w'
             go_simp
             with_reducible rfl
            rotate_left
            ·simp only [Act.put,sx_,sy_,sz_,i64_w,i32_w]
             rfl
            refine pure_ (i:=5) (N:=some 21) (v:=?_) (a':=?_) #[true,true,true,true,true,true,false,false,false,false,false,false,false,false,false] rfl rfl (any_of HT_.out (by kernel_rfl)) (fun _ _ _ h => h) (Or.inl ⟨by rfl,?_⟩) ?_ ?_
            rotate_left
            ·intro w'
             go_simp
             with_reducible rfl
            rotate_left
            ·simp only [Act.put,sx_,sy_,sz_,i64_w,i32_w]
             rfl
            refine pure_ (i:=6) (N:=some 22) (v:=?_) (a':=?_) #[true,true,true,true,true,true,true,false,false,false,false,false,false,false,false] rfl rfl (any_of HT_.out (by kernel_rfl)) (fun _ _ _ h => h) (Or.inl ⟨by rfl,?_⟩) ?_ ?_
            rotate_left
            ·intro w'
             go_simp
             with_reducible rfl
            rotate_left
            ·simp only [Act.put,sx_,sy_,sz_,i64_w,i32_w]
             rfl
            refine pure_ (i:=8) (N:=some 24) (v:=?_) (a':=?_) #[true,true,true,true,true,true,true,false,true,false,false,false,false,false,false] rfl rfl (any_of HT_.out (by kernel_rfl)) (fun _ _ _ h => h) (Or.inl ⟨by rfl,?_⟩) ?_ ?_
            rotate_left
            ·intro w'
             go_simp
             with_reducible rfl
            rotate_left
            ·simp only [Act.put,sx_,sy_,sz_,i64_w,i32_w]
             rfl
            refine pure_ (i:=9) (N:=some 25) (v:=?_) (a':=?_) #[true,true,true,true,true,true,true,false,true,true,false,false,false,false,false] rfl rfl (any_of HT_.out (by kernel_rfl)) (fun _ _ _ h => h) (Or.inl ⟨by rfl,?_⟩) ?_ ?_
            rotate_left
            ·intro w'
             go_simp
             with_reducible rfl
            rotate_left
            ·simp only [Act.put,sx_,sy_,sz_,i64_w,i32_w]
             rfl
            refine pure_ (i:=10) (N:=some 26) (v:=?_) (a':=?_) #[true,true,true,true,true,true,true,false,true,true,true,false,false,false,false] rfl rfl (any_of HT_.out (by kernel_rfl)) (fun _ _ _ h => h) (Or.inl ⟨by rfl,?_⟩) ?_ ?_
            rotate_left
            ·intro w'
             go_simp
             with_reducible rfl
            rotate_left
            ·simp only [Act.put,sx_,sy_,sz_,i64_w,i32_w]
             rfl
            refine pure_ (i:=11) (N:=some 27) (v:=?_) (a':=?_) #[true,true,true,true,true,true,true,false,true,true,true,true,false,false,false] rfl rfl (any_of HT_.out (by kernel_rfl)) (fun _ _ _ h => h) (Or.inl ⟨by rfl,?_⟩) ?_ ?_
            rotate_left
            ·intro w'
             go_simp
             with_reducible rfl
            rotate_left
            ·simp only [Act.put,sx_,sy_,sz_,i64_w,i32_w]
             rfl
            refine take_ (i:=7) (N:=some 23) (v:=?_) (a':=?_) #[true,true,true,true,true,true,true,true,true,true,true,true,false,false,false] rfl rfl (take_ofW HT_.out HW_.out (by kernel_rfl)) (fun _ _ _ h => h) (Or.inl ⟨by rfl,?_⟩) hHeld ?_ ?_
            rotate_left
            ·rintro w' ⟨s0,s1⟩
             go_simp
             with_reducible rfl
            rotate_left
            ·simp only [Act.put,sx_,sy_,sz_,i64_w,i32_w]
             rfl
            refine take_ (i:=12) (N:=some 28) (v:=?_) (a':=?_) #[true,true,true,true,true,true,true,true,true,true,true,true,true,false,false] rfl rfl (take_ofW HT_.out HW_.out (by kernel_rfl)) (fun _ _ _ h => h) (Or.inl ⟨by rfl,?_⟩) hHeld ?_ ?_
            rotate_left
            ·rintro w' ⟨s0,s1⟩
             go_simp
             with_reducible rfl
            rotate_left
            ·simp only [Act.put,sx_,sy_,sz_,i64_w,i32_w]
             rfl
            refine one_ (i:=13) (N:=some 29) #[true,true,true,true,true,true,true,true,true,true,true,true,true,true,false] rfl rfl (one_of HT_.out (by kernel_rfl)) (by decide) (fun K hK => ?_)
            refine goes_ Try.func99 (by kernel_rfl) rfl #[.int .i64 (rd x0_2 x7_2),.int .i64 (rd x0_2 (ji8))] (by rfl) rfl rfl (by (try simp only [List.map_toArray,List.map_cons,List.map_nil]);first|done|(simp only [hji8];rfl)|rfl|(simp only [List.length_drop,List.length_take];rfl)) ?_
            with_reducible refine (cmp_Less_int.calls (rd x0_2 x7_2) (rd x0_2 (ji8)) true _ A11.out).mono ?_
            rintro e w' ⟨rfl,⟨nd,rfl⟩⟩
            refine ⟨_,rfl,?_⟩
            refine hK.out _ _ ⟨hHeld.1,hHeld.2⟩ (fun hHeld => ?_)
            clear hK K
            refine norm_ (a':=?_) ?_ ?_
            rotate_left
            ·show Act.put _ (some 29) _ = _
             simp only [Act.put,sx_,sy_,sz_,i64_w,i32_w]
             rfl
            refine pure_ (i:=14) (N:=some 30) (v:=?_) (a':=?_) #[true,true,true,true,true,true,true,true,true,true,true,true,true,true,true] rfl rfl (any_of HT_.out (by kernel_rfl)) (fun _ _ _ h => h) (Or.inl ⟨by rfl,?_⟩) ?_ ?_
            rotate_left
            ·intro w'
             go_simp
             with_reducible rfl
            rotate_left
            ·simp only [Act.put,sx_,sy_,sz_,i64_w,i32_w]
             rfl
            refine done_ (done_of HT_.out (by kernel_rfl)) ?_
            try go_wp2
            (try (rw [drewN_self w15];generalize hq_ : World.drewN w15 _ = w15;have n0_ : Aside0 (Kd.R (Kd.int .i64) 3 w15 w0.heap.size (fun k_ => (P0_ k_ ∨ w.heap.size ≤ k_)) (.slice (some ad303) x0_2.length co16) x0_2):=⟨by rw [← hq_];exact (qr_ HO_0)⟩;have n1_ : Aside0 (Kept w w15 (fun k_ => P0_ k_)):=⟨by rw [← hq_];exact (by repeat (first|(with_reducible first|exact HK.out|apply Kept.alloc|apply Kept.drewN|apply Kept.drew)|exact HK.out))⟩;have n2_ : Aside0 (Below w0.heap.size w0 w15):=⟨by rw [← hq_];exact (qb_ HB)⟩;clear HO_0 HK HB hq_;have HO_0:=n0_;have HK:=n1_;have HB:=n2_;clear n0_ n1_ n2_))
            have n0_:=mk_ (rd_ HO_0.out)
            have n1_:=mk_ (Kept.drew HK.out)
            have n2_:=mk_ (bd_ HB.out)
            clear HO_0
            clear HK
            clear HB
            have HO_0:=n0_
            have HK:=n1_
            have HB:=n2_
            clear n0_ n1_ n2_
            have p306 : 0 ≤ ((ji8) : Int):=od_ qa_
            have q306 : (ji8) < (x0_2.length : Int):=od_ qa_
            obtain ⟨ad306,e306,hx306_0⟩:=Kd.at_int (rr_ HO_0.out).2.2 (ji8) p306 q306
            obtain rfl : ad303 = ad306:=(by injection e306)
            replace p306:=eq_true p306
            replace q306:=eq_true q306
            have p307 : 0 ≤ (x7_2 : Int):=od_ qa_
            have q307 : x7_2 < (x0_2.length : Int):=od_ qa_
            obtain ⟨ad307,e307,hx307_0⟩:=Kd.at_int (rr_ HO_0.out).2.2 x7_2 p307 q307
            obtain rfl : ad303 = ad307:=(by injection e307)
            replace p307:=eq_true p307
            replace q307:=eq_true q307
            have p13 : 0 ≤ (x7_2 : Int):=od_ qa_
            have q13 : (x7_2 : Int) < ((x0_2.length : Int) : Int):=od_ qa_
            obtain ⟨go13,co13,eo13,gb13,gl13,cl13,HG13⟩:=Kd.R_form HO_0.out (by omega)
            (first|cases eo13|(injection eo13 with ea_ en_ ec_;(first|subst ea_|(injection ea_ with ea_;subst ea_));subst ec_;clear en_))
            have GB13:=mk_ gb13
            have GG13:=mk_ HG13
            clear gb13 gl13 HG13
            have HMgo13:=mk_ (show (P0_ go13 ∨ w.heap.size ≤ go13) from (HO_0.out.1 _ rfl))
            (first|simp only [add_plain] at hx303_0|skip)
            (first|simp only [add_plain] at hx304_0|skip)
            (first|simp only [add_plain] at hx306_0|skip)
            (first|simp only [add_plain] at hx307_0|skip)
            obtain ⟨hx13_0,hf13_0⟩:=Kd.R_celln 0 HO_0.out (x7_2 : Int) p13 q13
            replace p13:=eq_true p13
            replace q13:=eq_true q13
            have HP18:=Kd.R_putn HO_0.out (x7_2 : Int) (rd x0_2 (ji8))
            rw [← Ny308.out] at HP18
            have HQ18:=mk_ HP18
            clear HP18
            have p14 : 0 ≤ ((ji8) : Int):=od_ qa_
            have q14 : ((ji8) : Int) < ((x0_2.length : Int) : Int):=od_ qa_
            obtain ⟨hx14_0,hf14_0⟩:=Kd.R_celln 0 HQ18.out ((ji8) : Int) p14 q14
            replace p14:=eq_true p14
            replace q14:=eq_true q14
            have HP19:=Kd.R_putn HQ18.out ((ji8) : Int) (rd x0_2 x7_2)
            rw [← Ny309.out] at HP19
            have HQ19:=mk_ HP19
            clear HP19
            refine start_ (n:=18) (S:=fun w' => w'.cell? ⟨go13,((ji8)).toNat,none⟩ = some (.int .i64 (rd x0_2 (ji8))) ∧ w'.cell? ⟨go13,(x7_2).toNat,none⟩ = some (.int .i64 (rd x0_2 x7_2))) (ds:=[15,17]) #[false,false,false,false,false,false,false,false,false,false,false,false,false,false,false,false,false,false] (by kernel_rfl) rfl rfl ⟨hx306_0,hx307_0⟩ (fun hHeld => ?_);refine with_tabW slices_insertionSortOrdered_int.tab6 slices_insertionSortOrdered_int.bits6 (fun HT_ HW_ => ?_)
            generalize w15.drew = w17 at HO_0 HK HB GG13 HQ18 HQ19 hf13_0 hf14_0 hx13_0 hx14_0 hx303_0 hx304_0 hx306_0 hx307_0 hHeld ⊢
            refine pure_ (i:=0) (N:=some 33) (v:=?_) (a':=?_) #[true,false,false,false,false,false,false,false,false,false,false,false,false,false,false,false,false,false] rfl rfl (any_of HT_.out (by kernel_rfl)) (fun _ _ _ h => h) (Or.inl ⟨by rfl,?_⟩) ?_ ?_
            rotate_left
            ·intro w'
             go_simp
             with_reducible rfl
            rotate_left
            ·simp only [Act.put,sx_,sy_,sz_,i64_w,i32_w]
             rfl
            refine pure_ (i:=1) (N:=some 34) (v:=?_) (a':=?_) #[true,true,false,false,false,false,false,false,false,false,false,false,false,false,false,false,false,false] rfl rfl (any_of HT_.out (by kernel_rfl)) (fun _ _ _ h => h) (Or.inl ⟨by rfl,?_⟩) ?_ ?_
            rotate_left
            ·intro w'
             go_simp
             with_reducible rfl
            rotate_left
            ·simp only [Act.put,sx_,sy_,sz_,i64_w,i32_w]
             rfl
            refine pure_ (i:=2) (N:=some 35) (v:=?_) (a':=?_) #[true,true,true,false,false,false,false,false,false,false,false,false,false,false,false,false,false,false] rfl rfl (any_of HT_.out (by kernel_rfl)) (fun _ _ _ h => h) (Or.inl ⟨by rfl,?_⟩) ?_ ?_
            rotate_left
            ·intro w'
             go_simp
             with_reducible rfl
            rotate_left
            ·simp only [Act.put,sx_,sy_,sz_,i64_w,i32_w]
             rfl
            refine pure_ (i:=3) (N:=some 36) (v:=?_) (a':=?_) #[true,true,true,true,false,false,false,false,false,false,false,false,false,false,false,false,false,false] rfl rfl (any_of HT_.out (by kernel_rfl)) (fun _ _ _ h => h) (Or.inl ⟨by rfl,?_⟩) ?_ ?_
            rotate_left
            ·intro w'
             go_simp
             with_reducible rfl
            rotate_left
            ·simp only [Act.put,sx_,sy_,sz_,i64_w,i32_w]
             rfl
            refine pure_ (i:=4) (N:=some 37) (v:=?_) (a':=?_) #[true,true,true,true,true,false,false,false,false,false,false,false,false,false,false,false,false,false] rfl rfl (any_of HT_.out (by kernel_rfl)) (fun _ _ _ h => h) (Or.inl ⟨by rfl,?_⟩) ?_ ?_
            rotate_left
            ·intro w'
             go_simp
             with_reducible rfl
            rotate_left
            ·simp only [Act.put,sx_,sy_,sz_,i64_w,i32_w]
             rfl
            refine pure_ (i:=5) (N:=some 38) (v:=?_) (a':=?_) #[true,true,true,true,true,true,false,false,false,false,false,false,false,false,false,false,false,false] rfl rfl (any_of HT_.out (by kernel_rfl)) (fun _ _ _ h => h) (Or.inl ⟨by rfl,?_⟩) ?_ ?_
            rotate_left
            ·intro w'
             go_simp
             with_reducible rfl
            rotate_left
            ·simp only [Act.put,sx_,sy_,sz_,i64_w,i32_w]
             rfl
            refine pure_ (i:=6) (N:=some 39) (v:=?_) (a':=?_) #[true,true,true,true,true,true,true,false,false,false,false,false,false,false,false,false,false,false] rfl rfl (any_of HT_.out (by kernel_rfl)) (fun _ _ _ h => h) (Or.inl ⟨by rfl,?_⟩) ?_ ?_
            rotate_left
            ·intro w'
             go_simp
             with_reducible rfl
            rotate_left
            ·simp only [Act.put,sx_,sy_,sz_,i64_w,i32_w]
             rfl
            refine pure_ (i:=7) (N:=some 40) (v:=?_) (a':=?_) #[true,true,true,true,true,true,true,true,false,false,false,false,false,false,false,false,false,false] rfl rfl (any_of HT_.out (by kernel_rfl)) (fun _ _ _ h => h) (Or.inl ⟨by rfl,?_⟩) ?_ ?_
            rotate_left
            ·intro w'
             go_simp
             with_reducible rfl
            rotate_left
            ·simp only [Act.put,sx_,sy_,sz_,i64_w,i32_w]
             rfl
            refine pure_ (i:=8) (N:=some 41) (v:=?_) (a':=?_) #[true,true,true,true,true,true,true,true,true,false,false,false,false,false,false,false,false,false] rfl rfl (any_of HT_.out (by kernel_rfl)) (fun _ _ _ h => h) (Or.inl ⟨by rfl,?_⟩) ?_ ?_
            rotate_left
            ·intro w'
             go_simp
             with_reducible rfl
            rotate_left
            ·simp only [Act.put,sx_,sy_,sz_,i64_w,i32_w]
             rfl
            refine pure_ (i:=10) (N:=some 43) (v:=?_) (a':=?_) #[true,true,true,true,true,true,true,true,true,false,true,false,false,false,false,false,false,false] rfl rfl (any_of HT_.out (by kernel_rfl)) (fun _ _ _ h => h) (Or.inl ⟨by rfl,?_⟩) ?_ ?_
            rotate_left
            ·intro w'
             go_simp
             with_reducible rfl
            rotate_left
            ·simp only [Act.put,sx_,sy_,sz_,i64_w,i32_w]
             rfl
            refine pure_ (i:=11) (N:=some 44) (v:=?_) (a':=?_) #[true,true,true,true,true,true,true,true,true,false,true,true,false,false,false,false,false,false] rfl rfl (any_of HT_.out (by kernel_rfl)) (fun _ _ _ h => h) (Or.inl ⟨by rfl,?_⟩) ?_ ?_
            rotate_left
            ·intro w'
             go_simp
             with_reducible rfl
            rotate_left
            ·simp only [Act.put,sx_,sy_,sz_,i64_w,i32_w]
             rfl
            refine pure_ (i:=12) (N:=some 45) (v:=?_) (a':=?_) #[true,true,true,true,true,true,true,true,true,false,true,true,true,false,false,false,false,false] rfl rfl (any_of HT_.out (by kernel_rfl)) (fun _ _ _ h => h) (Or.inl ⟨by rfl,?_⟩) ?_ ?_
            rotate_left
            ·intro w'
             go_simp
             with_reducible rfl
            rotate_left
            ·simp only [Act.put,sx_,sy_,sz_,i64_w,i32_w]
             rfl
            refine take_ (i:=9) (N:=some 42) (v:=?_) (a':=?_) #[true,true,true,true,true,true,true,true,true,true,true,true,true,false,false,false,false,false] rfl rfl (take_ofW HT_.out HW_.out (by kernel_rfl)) (fun _ _ _ h => h) (Or.inl ⟨by rfl,?_⟩) hHeld ?_ ?_
            rotate_left
            ·rintro w' ⟨s0,s1⟩
             go_simp
             with_reducible rfl
            rotate_left
            ·simp only [Act.put,sx_,sy_,sz_,i64_w,i32_w]
             rfl
            refine take_ (i:=13) (N:=some 46) (v:=?_) (a':=?_) #[true,true,true,true,true,true,true,true,true,true,true,true,true,true,false,false,false,false] rfl rfl (take_ofW HT_.out HW_.out (by kernel_rfl)) (fun _ _ _ h => h) (Or.inl ⟨by rfl,?_⟩) hHeld ?_ ?_
            rotate_left
            ·rintro w' ⟨s0,s1⟩
             go_simp
             with_reducible rfl
            rotate_left
            ·simp only [Act.put,sx_,sy_,sz_,i64_w,i32_w]
             rfl
            refine pure_ (i:=14) (N:=some 47) (v:=?_) (a':=?_) #[true,true,true,true,true,true,true,true,true,true,true,true,true,true,true,false,false,false] rfl rfl (any_of HT_.out (by kernel_rfl)) (fun _ _ _ h => h) (Or.inl ⟨by rfl,?_⟩) ?_ ?_
            rotate_left
            ·intro w'
             go_simp
             with_reducible rfl
            rotate_left
            ·simp only [Act.put,sx_,sy_,sz_,i64_w,i32_w]
             rfl
            refine last_ (i:=15) (N:=none) #[true,true,true,true,true,true,true,true,true,true,true,true,true,true,true,true,false,false] rfl rfl (one_of HT_.out (by kernel_rfl)) (by decide) (fun K hK => ?_)
            refine skip_ (w1:=?_) (by rfl) rfl ?_ ?_
            rotate_left
            ·go_simp
             rfl
            refine hK.out _ _ ?_
            clear hK K
            refine pure_ (i:=16) (N:=some 48) (v:=?_) (a':=?_) #[true,true,true,true,true,true,true,true,true,true,true,true,true,true,true,true,true,false] rfl rfl (any_of HT_.out (by kernel_rfl)) (fun _ _ _ h => h) (Or.inl ⟨by rfl,?_⟩) ?_ ?_
            rotate_left
            ·intro w'
             go_simp
             with_reducible rfl
            rotate_left
            ·simp only [Act.put,sx_,sy_,sz_,i64_w,i32_w]
             rfl
            refine last_ (i:=17) (N:=none) #[true,true,true,true,true,true,true,true,true,true,true,true,true,true,true,true,true,true] rfl rfl (one_of HT_.out (by kernel_rfl)) (by decide) (fun K hK => ?_)
            refine skip_ (w1:=?_) (by rfl) rfl ?_ ?_
            rotate_left
            ·go_simp
             rfl
            refine hK.out _ _ ?_
            clear hK K
            refine done_ (done_of HT_.out (by kernel_rfl)) ?_
            try go_wp2
            go_roundg k2
            case measure => have:=HK1.out;have:=HK2.out;omega
            case rel => exact ⟨(y309),(ji8),(by first|rfl|(simp;done)|(simp only [← hji8] <;> (first|rfl|simp))|(simp [*];done)),H',⟨by have:=HK1.out;have:=HK2.out;omega⟩,⟨by (with_reducible repeat (first|apply ra_|apply rn_|apply rd_));exact HQ19.out⟩,⟨by repeat (first|(with_reducible first|exact HK.out|apply Kept.alloc|apply Kept.drewN|apply Kept.drew|refine Kept.setCell ?_ HMgo13.out _|refine Kept.setCell ?_ HMgo13.out _)|exact HK.out)⟩,⟨by repeat (first|(with_reducible first|exact HB.out|apply ba_|apply bn_|apply bd_|refine bs_ ?_ GB13.out|refine bs_ ?_ GB13.out)|exact HB.out)⟩⟩
           ·replace c12:=Bool.eq_false_iff.mpr c12
            subst c12
            have H1 : (slices_insertionSortOrdered_int.l0 k2 x0_2 a1 a2 (wrap64 (x6_1 + 1))) = some r:=by rw [if_neg (show ¬ (false = true) by decide)] at H;exact H
            clear H
            have H:=H1
            clear H1
            have H':=mk_ H
            clear H
            try go_wp2
            have n0_:=mk_ (rd_ HO_0.out)
            have n1_:=mk_ (Kept.drew HK.out)
            have n2_:=mk_ (bd_ HB.out)
            clear HO_0
            clear HK
            clear HB
            have HO_0:=n0_
            have HK:=n1_
            have HB:=n2_
            clear n0_ n1_ n2_
            obtain ⟨Ao21,co21,eo21⟩:=Kd.R_slice HO_0.out
            (first|subst eo21|(injection eo21 with f1_ f2_ f3_;have f4_:=f1_.symm;have f5_:=f3_.symm;clear f1_ f2_ f3_;subst f4_;subst f5_))
            have p303 : 0 ≤ (x7_2 : Int):=od_ qa_
            have q303 : x7_2 < (x0_2.length : Int):=od_ qa_
            obtain ⟨ad303,e303,hx303_0⟩:=Kd.at_int (rr_ HO_0.out).2.2 x7_2 p303 q303
            cases e303
            replace p303:=eq_true p303
            replace q303:=eq_true q303
            have p304 : 0 ≤ ((ji8) : Int):=od_ qa_
            have q304 : (ji8) < (x0_2.length : Int):=od_ qa_
            obtain ⟨ad304,e304,hx304_0⟩:=Kd.at_int (rr_ HO_0.out).2.2 (ji8) p304 q304
            obtain rfl : ad303 = ad304:=(by injection e304)
            replace p304:=eq_true p304
            replace q304:=eq_true q304
            refine start_ (n:=15) (S:=fun w' => w'.cell? (ad303.add (x7_2).toNat) = some (.int .i64 (rd x0_2 x7_2)) ∧ w'.cell? (ad303.add ((ji8)).toNat) = some (.int .i64 (rd x0_2 (ji8)))) (ds:=[]) #[false,false,false,false,false,false,false,false,false,false,false,false,false,false,false] (by kernel_rfl) rfl rfl ⟨hx303_0,hx304_0⟩ (fun hHeld => ?_);refine with_tabW slices_insertionSortOrdered_int.tab4 slices_insertionSortOrdered_int.bits4 (fun HT_ HW_ => ?_)
            generalize wr.drew = w20 at HO_0 HK HB hx303_0 hx304_0 hHeld ⊢
            refine pure_ (i:=0) (N:=some 16) (v:=?_) (a':=?_) #[true,false,false,false,false,false,false,false,false,false,false,false,false,false,false] rfl rfl (any_of HT_.out (by kernel_rfl)) (fun _ _ _ h => h) (Or.inl ⟨by rfl,?_⟩) ?_ ?_
            rotate_left
            ·intro w'
             go_simp
             with_reducible rfl
            rotate_left
            ·simp only [Act.put,sx_,sy_,sz_,i64_w,i32_w]
             rfl
            refine pure_ (i:=1) (N:=some 17) (v:=?_) (a':=?_) #[true,true,false,false,false,false,false,false,false,false,false,false,false,false,false] rfl rfl (any_of HT_.out (by kernel_rfl)) (fun _ _ _ h => h) (Or.inl ⟨by rfl,?_⟩) ?_ ?_
            rotate_left
            ·intro w'
             go_simp
             with_reducible rfl
            rotate_left
            ·simp only [Act.put,sx_,sy_,sz_,i64_w,i32_w]
             rfl
            refine pure_ (i:=2) (N:=some 18) (v:=?_) (a':=?_) #[true,true,true,false,false,false,false,false,false,false,false,false,false,false,false] rfl rfl (any_of HT_.out (by kernel_rfl)) (fun _ _ _ h => h) (Or.inl ⟨by rfl,?_⟩) ?_ ?_
            rotate_left
            ·intro w'
             go_simp
             with_reducible rfl
            rotate_left
            ·simp only [Act.put,sx_,sy_,sz_,i64_w,i32_w]
             rfl
            refine pure_ (i:=3) (N:=some 19) (v:=?_) (a':=?_) #[true,true,true,true,false,false,false,false,false,false,false,false,false,false,false] rfl rfl (any_of HT_.out (by kernel_rfl)) (fun _ _ _ h => h) (Or.inl ⟨by rfl,?_⟩) ?_ ?_
            rotate_left
            ·intro w'
             go_simp
             with_reducible rfl
            rotate_left
            ·simp only [Act.put,sx_,sy_,sz_,i64_w,i32_w]
             rfl
            refine pure_ (i:=4) (N:=some 20) (v:=?_) (a':=?_) #[true,true,true,true,true,false,false,false,false,false,false,false,false,false,false] rfl rfl (any_of HT_.out (by kernel_rfl)) (fun _ _ _ h => h) (Or.inl ⟨by rfl,?_⟩) ?_ ?_
            rotate_left
            ·intro w'
             go_simp
             with_reducible rfl
            rotate_left
            ·simp only [Act.put,sx_,sy_,sz_,i64_w,i32_w]
             rfl
            refine pure_ (i:=5) (N:=some 21) (v:=?_) (a':=?_) #[true,true,true,true,true,true,false,false,false,false,false,false,false,false,false] rfl rfl (any_of HT_.out (by kernel_rfl)) (fun _ _ _ h => h) (Or.inl ⟨by rfl,?_⟩) ?_ ?_
            rotate_left
            ·intro w'
             go_simp
             with_reducible rfl
            rotate_left
            ·simp only [Act.put,sx_,sy_,sz_,i64_w,i32_w]
             rfl
            refine pure_ (i:=6) (N:=some 22) (v:=?_) (a':=?_) #[true,true,true,true,true,true,true,false,false,false,false,false,false,false,false] rfl rfl (any_of HT_.out (by kernel_rfl)) (fun _ _ _ h => h) (Or.inl ⟨by rfl,?_⟩) ?_ ?_
            rotate_left
            ·intro w'
             go_simp
             with_reducible rfl
            rotate_left
            ·simp only [Act.put,sx_,sy_,sz_,i64_w,i32_w]
             rfl
            refine pure_ (i:=8) (N:=some 24) (v:=?_) (a':=?_) #[true,true,true,true,true,true,true,false,true,false,false,false,false,false,false] rfl rfl (any_of HT_.out (by kernel_rfl)) (fun _ _ _ h => h) (Or.inl ⟨by rfl,?_⟩) ?_ ?_
            rotate_left
            ·intro w'
             go_simp
             with_reducible rfl
            rotate_left
            ·simp only [Act.put,sx_,sy_,sz_,i64_w,i32_w]
             rfl
            refine pure_ (i:=9) (N:=some 25) (v:=?_) (a':=?_) #[true,true,true,true,true,true,true,false,true,true,false,false,false,false,false] rfl rfl (any_of HT_.out (by kernel_rfl)) (fun _ _ _ h => h) (Or.inl ⟨by rfl,?_⟩) ?_ ?_
            rotate_left
            ·intro w'
             go_simp
             with_reducible rfl
            rotate_left
            ·simp only [Act.put,sx_,sy_,sz_,i64_w,i32_w]
             rfl
            refine pure_ (i:=10) (N:=some 26) (v:=?_) (a':=?_) #[true,true,true,true,true,true,true,false,true,true,true,false,false,false,false] rfl rfl (any_of HT_.out (by kernel_rfl)) (fun _ _ _ h => h) (Or.inl ⟨by rfl,?_⟩) ?_ ?_
            rotate_left
            ·intro w'
             go_simp
             with_reducible rfl
            rotate_left
            ·simp only [Act.put,sx_,sy_,sz_,i64_w,i32_w]
             rfl
            refine pure_ (i:=11) (N:=some 27) (v:=?_) (a':=?_) #[true,true,true,true,true,true,true,false,true,true,true,true,false,false,false] rfl rfl (any_of HT_.out (by kernel_rfl)) (fun _ _ _ h => h) (Or.inl ⟨by rfl,?_⟩) ?_ ?_
            rotate_left
            ·intro w'
             go_simp
             with_reducible rfl
            rotate_left
            ·simp only [Act.put,sx_,sy_,sz_,i64_w,i32_w]
             rfl
            refine take_ (i:=7) (N:=some 23) (v:=?_) (a':=?_) #[true,true,true,true,true,true,true,true,true,true,true,true,false,false,false] rfl rfl (take_ofW HT_.out HW_.out (by kernel_rfl)) (fun _ _ _ h => h) (Or.inl ⟨by rfl,?_⟩) hHeld ?_ ?_
            rotate_left
            ·rintro w' ⟨s0,s1⟩
             go_simp
             with_reducible rfl
            rotate_left
            ·simp only [Act.put,sx_,sy_,sz_,i64_w,i32_w]
             rfl
            refine take_ (i:=12) (N:=some 28) (v:=?_) (a':=?_) #[true,true,true,true,true,true,true,true,true,true,true,true,true,false,false] rfl rfl (take_ofW HT_.out HW_.out (by kernel_rfl)) (fun _ _ _ h => h) (Or.inl ⟨by rfl,?_⟩) hHeld ?_ ?_
            rotate_left
            ·rintro w' ⟨s0,s1⟩
             go_simp
             with_reducible rfl
            rotate_left
            ·simp only [Act.put,sx_,sy_,sz_,i64_w,i32_w]
             rfl
            refine one_ (i:=13) (N:=some 29) #[true,true,true,true,true,true,true,true,true,true,true,true,true,true,false] rfl rfl (one_of HT_.out (by kernel_rfl)) (by decide) (fun K hK => ?_)
            refine goes_ Try.func99 (by kernel_rfl) rfl #[.int .i64 (rd x0_2 x7_2),.int .i64 (rd x0_2 (ji8))] (by rfl) rfl rfl (by (try simp only [List.map_toArray,List.map_cons,List.map_nil]);first|done|(simp only [hji8];rfl)|rfl|(simp only [List.length_drop,List.length_take];rfl)) ?_
            with_reducible refine (cmp_Less_int.calls (rd x0_2 x7_2) (rd x0_2 (ji8)) false _ A11.out).mono ?_
            rintro e w' ⟨rfl,⟨nd,rfl⟩⟩
            refine ⟨_,rfl,?_⟩
            refine hK.out _ _ ⟨hHeld.1,hHeld.2⟩ (fun hHeld => ?_)
            clear hK K
            refine norm_ (a':=?_) ?_ ?_
            rotate_left
            ·show Act.put _ (some 29) _ = _
             simp only [Act.put,sx_,sy_,sz_,i64_w,i32_w]
             rfl
            refine pure_ (i:=14) (N:=some 30) (v:=?_) (a':=?_) #[true,true,true,true,true,true,true,true,true,true,true,true,true,true,true] rfl rfl (any_of HT_.out (by kernel_rfl)) (fun _ _ _ h => h) (Or.inl ⟨by rfl,?_⟩) ?_ ?_
            rotate_left
            ·intro w'
             go_simp
             with_reducible rfl
            rotate_left
            ·simp only [Act.put,sx_,sy_,sz_,i64_w,i32_w]
             rfl
            refine done_ (done_of HT_.out (by kernel_rfl)) ?_
            try go_wp2
            go_roundg k2
            case measure => have:=HK1.out;have:=HK2.out;omega
            case rel => exact ⟨(x0_2),(wrap64 (x6_1 + 1)),(by first|rfl|(simp;done)|(simp [*];done)),H',⟨by have:=HK1.out;have:=HK2.out;omega⟩,⟨by (with_reducible repeat (first|apply ra_|apply rn_|apply rd_));exact HO_0.out⟩,⟨by repeat (first|(with_reducible first|exact HK.out|apply Kept.alloc|apply Kept.drewN|apply Kept.drew)|exact HK.out)⟩,⟨by repeat (first|(with_reducible first|exact HB.out|apply ba_|apply bn_|apply bd_)|exact HB.out)⟩⟩
          ·rw [if_neg c10] at H
           exact absurd H (by simp)
         ·rw [if_neg c9] at H
          exact absurd H (by simp)
        ·rw [if_neg c7] at H
         exact absurd H (by simp)
       ·rw [if_neg c6] at H
        exact absurd H (by simp)
      ·rw [if_neg c5] at H
       have c5b0 : decide (a1 < x7_2) = false:=decide_eq_false c5
       clear c5
       have H':=mk_ H
       clear H
       try go_wp2
       have n0_:=mk_ (rd_ HO_0.out)
       have n1_:=mk_ (Kept.drew HK.out)
       have n2_:=mk_ (bd_ HB.out)
       clear HO_0
       clear HK
       clear HB
       have HO_0:=n0_
       have HK:=n1_
       have HB:=n2_
       clear n0_ n1_ n2_
       refine start_ (n:=15) (S:=fun w' => True) (ds:=[]) #[false,false,false,false,false,false,false,false,false,false,false,false,false,false,false] (by kernel_rfl) rfl rfl trivial (fun hHeld => ?_);refine with_tabW slices_insertionSortOrdered_int.tab4 slices_insertionSortOrdered_int.bits4 (fun HT_ HW_ => ?_)
       generalize wr.drew = w22 at HO_0 HK HB hHeld ⊢
       refine pure_ (i:=0) (N:=some 16) (v:=?_) (a':=?_) #[true,false,false,false,false,false,false,false,false,false,false,false,false,false,false] rfl rfl (any_of HT_.out (by kernel_rfl)) (fun _ _ _ h => h) (Or.inl ⟨by rfl,?_⟩) ?_ ?_
       rotate_left
       ·intro w'
        go_simp
        with_reducible rfl
       rotate_left
       ·simp only [Act.put,sx_,sy_,sz_,i64_w,i32_w]
        rfl
       refine pure_ (i:=1) (N:=some 17) (v:=?_) (a':=?_) #[true,true,false,false,false,false,false,false,false,false,false,false,false,false,false] rfl rfl (any_of HT_.out (by kernel_rfl)) (fun _ _ _ h => h) (Or.inl ⟨by rfl,?_⟩) ?_ ?_
       rotate_left
       ·intro w'
        go_simp
        with_reducible rfl
       rotate_left
       ·simp only [Act.put,sx_,sy_,sz_,i64_w,i32_w]
        rfl
       refine pure_ (i:=2) (N:=some 18) (v:=?_) (a':=?_) #[true,true,true,false,false,false,false,false,false,false,false,false,false,false,false] rfl rfl (any_of HT_.out (by kernel_rfl)) (fun _ _ _ h => h) (Or.inl ⟨by rfl,?_⟩) ?_ ?_
       rotate_left
       ·intro w'
        go_simp
        with_reducible rfl
       rotate_left
       ·simp only [Act.put,sx_,sy_,sz_,i64_w,i32_w]
        rfl
       refine pure_ (i:=3) (N:=some 19) (v:=?_) (a':=?_) #[true,true,true,true,false,false,false,false,false,false,false,false,false,false,false] rfl rfl (any_of HT_.out (by kernel_rfl)) (fun _ _ _ h => h) (Or.inl ⟨by rfl,?_⟩) ?_ ?_
       rotate_left
       ·intro w'
        go_simp
        with_reducible rfl
       rotate_left
       ·simp only [Act.put,sx_,sy_,sz_,i64_w,i32_w]
        rfl
       refine pure_ (i:=4) (N:=some 20) (v:=undef) (a':=?_) #[true,true,true,true,true,false,false,false,false,false,false,false,false,false,false] rfl rfl (any_of HT_.out (by kernel_rfl)) (fun _ _ _ h => h) (Or.inr ⟨by rfl,rfl⟩) ?_ ?_
       rotate_left
       ·simp only [Act.put,sx_,sy_,sz_,i64_w,i32_w]
        rfl
       refine pure_ (i:=5) (N:=some 21) (v:=undef) (a':=?_) #[true,true,true,true,true,true,false,false,false,false,false,false,false,false,false] rfl rfl (any_of HT_.out (by kernel_rfl)) (fun _ _ _ h => h) (Or.inr ⟨by rfl,rfl⟩) ?_ ?_
       rotate_left
       ·simp only [Act.put,sx_,sy_,sz_,i64_w,i32_w]
        rfl
       refine pure_ (i:=6) (N:=some 22) (v:=undef) (a':=?_) #[true,true,true,true,true,true,true,false,false,false,false,false,false,false,false] rfl rfl (any_of HT_.out (by kernel_rfl)) (fun _ _ _ h => h) (Or.inr ⟨by rfl,rfl⟩) ?_ ?_
       rotate_left
       ·simp only [Act.put,sx_,sy_,sz_,i64_w,i32_w]
        rfl
       refine pure_ (i:=7) (N:=some 23) (v:=undef) (a':=?_) #[true,true,true,true,true,true,true,true,false,false,false,false,false,false,false] rfl rfl (any_of HT_.out (by kernel_rfl)) (fun _ _ _ h => h) (Or.inr ⟨by rfl,rfl⟩) ?_ ?_
       rotate_left
       ·simp only [Act.put,sx_,sy_,sz_,i64_w,i32_w]
        rfl
       refine pure_ (i:=8) (N:=some 24) (v:=undef) (a':=?_) #[true,true,true,true,true,true,true,true,true,false,false,false,false,false,false] rfl rfl (any_of HT_.out (by kernel_rfl)) (fun _ _ _ h => h) (Or.inr ⟨by rfl,rfl⟩) ?_ ?_
       rotate_left
       ·simp only [Act.put,sx_,sy_,sz_,i64_w,i32_w]
        rfl
       refine pure_ (i:=9) (N:=some 25) (v:=undef) (a':=?_) #[true,true,true,true,true,true,true,true,true,true,false,false,false,false,false] rfl rfl (any_of HT_.out (by kernel_rfl)) (fun _ _ _ h => h) (Or.inr ⟨by rfl,rfl⟩) ?_ ?_
       rotate_left
       ·simp only [Act.put,sx_,sy_,sz_,i64_w,i32_w]
        rfl
       refine pure_ (i:=10) (N:=some 26) (v:=undef) (a':=?_) #[true,true,true,true,true,true,true,true,true,true,true,false,false,false,false] rfl rfl (any_of HT_.out (by kernel_rfl)) (fun _ _ _ h => h) (Or.inr ⟨by rfl,rfl⟩) ?_ ?_
       rotate_left
       ·simp only [Act.put,sx_,sy_,sz_,i64_w,i32_w]
        rfl
       refine pure_ (i:=11) (N:=some 27) (v:=undef) (a':=?_) #[true,true,true,true,true,true,true,true,true,true,true,true,false,false,false] rfl rfl (any_of HT_.out (by kernel_rfl)) (fun _ _ _ h => h) (Or.inr ⟨by rfl,rfl⟩) ?_ ?_
       rotate_left
       ·simp only [Act.put,sx_,sy_,sz_,i64_w,i32_w]
        rfl
       refine pure_ (i:=12) (N:=some 28) (v:=undef) (a':=?_) #[true,true,true,true,true,true,true,true,true,true,true,true,true,false,false] rfl rfl (any_of HT_.out (by kernel_rfl)) (fun _ _ _ h => h) (Or.inr ⟨by rfl,rfl⟩) ?_ ?_
       rotate_left
       ·simp only [Act.put,sx_,sy_,sz_,i64_w,i32_w]
        rfl
       refine pure_ (i:=13) (N:=some 29) (v:=undef) (a':=?_) #[true,true,true,true,true,true,true,true,true,true,true,true,true,true,false] rfl rfl (any_of HT_.out (by kernel_rfl)) (fun _ _ _ h => h) (Or.inr ⟨by rfl,rfl⟩) ?_ ?_
       rotate_left
       ·simp only [Act.put,sx_,sy_,sz_,i64_w,i32_w]
        rfl
       refine pure_ (i:=14) (N:=some 30) (v:=?_) (a':=?_) #[true,true,true,true,true,true,true,true,true,true,true,true,true,true,true] rfl rfl (any_of HT_.out (by kernel_rfl)) (fun _ _ _ h => h) (Or.inl ⟨by rfl,?_⟩) ?_ ?_
       rotate_left
       ·intro w'
        go_simp
        with_reducible rfl
       rotate_left
       ·simp only [Act.put,sx_,sy_,sz_,i64_w,i32_w]
        rfl
       refine done_ (done_of HT_.out (by kernel_rfl)) ?_
       try go_wp2
       go_roundg k2
       case measure => have:=HK1.out;have:=HK2.out;omega
       case rel => exact ⟨(x0_2),(wrap64 (x6_1 + 1)),(by first|rfl|(simp;done)|(simp [*];done)),H',⟨by have:=HK1.out;have:=HK2.out;omega⟩,⟨by (with_reducible repeat (first|apply ra_|apply rn_|apply rd_));exact HO_0.out⟩,⟨by repeat (first|(with_reducible first|exact HK.out|apply Kept.alloc|apply Kept.drewN|apply Kept.drew)|exact HK.out)⟩,⟨by repeat (first|(with_reducible first|exact HB.out|apply ba_|apply bn_|apply bd_)|exact HB.out)⟩⟩
   ·rw [if_neg c4] at H
    have c4b0 : decide (x6_1 < a2) = false:=decide_eq_false c4
    clear c4
    obtain rfl:=Option.some.inj H
    go_wp2
    first|go_end0|((try simp only [Exit.inBlock,Exit.then]);refine bodyPost_ret (results_none rfl _ _ _) rfl ?_)
    exact ⟨by first|rfl|(simp [errW_none,errW_some] <;> rfl)|(simp [*,errW_none,errW_some] <;> rfl),by (with_reducible repeat (first|apply ra_|apply rn_|apply rd_));exact HO_0.out,by repeat (first|(with_reducible first|exact HB.out|apply ba_|apply bn_|apply bd_)|exact HB.out),by repeat (first|(with_reducible first|exact HK.out|apply Kept.alloc|apply Kept.drewN|apply Kept.drew)|exact HK.out)⟩

/-! ### bits_Len64: function 103 (by hand) -/
def bits_Len64.f (a0 : Int) : Option (Int) :=
 if 0 ≤ a0 ∧ a0 ≤ 20 then some (([0,1,2,2,3,3,3,3,4,4,4,4,4,4,4,4,5,5,5,5,5] : List Int).getD a0.toNat 0) else none
theorem upto20 {a : Int} (h0 : 0 ≤ a) (h1 : a ≤ 20) : a = 0 ∨ a = 1 ∨ a = 2 ∨ a = 3 ∨ a = 4 ∨ a = 5 ∨ a = 6 ∨ a = 7 ∨ a = 8 ∨ a = 9 ∨ a = 10 ∨ a = 11 ∨ a = 12 ∨ a = 13 ∨ a = 14 ∨ a = 15 ∨ a = 16 ∨ a = 17 ∨ a = 18 ∨ a = 19 ∨ a = 20:=by omega
set_option maxHeartbeats 4000000 in
set_option maxRecDepth 100000 in
theorem bits_Len64.calls (a0 : Int) (r : Int) (w : World) (h : bits_Len64.f a0 = some r) :
  Calls Try.prog 103 #[.int .u64 a0] w fun e w' => e = .returned (.int .i64 r) ∧ Drawn0 w w':=by
 unfold bits_Len64.f at h
 by_cases hc : 0 ≤ a0 ∧ a0 ≤ 20
 ·rw [if_pos hc] at h
  obtain rfl:=Option.some.inj h
  clear h
  have hu:=upto20 hc.1 hc.2
  clear hc
  rcases hu with rfl|rfl|rfl|rfl|rfl|rfl|rfl|rfl|rfl|rfl|rfl|rfl|rfl|rfl|rfl|rfl|rfl|rfl|rfl|rfl|rfl
  all_goals
   go_enter Try.func103,Try.ntmps103
   go_wp2
   go_ret
   exact ⟨by first|kernel_rfl|rfl,Drawn0.refl _⟩
 ·rw [if_neg hc] at h
  cases h

/-! ### bits_Len: function 84 -/
def bits_Len.f (a0 : Int) : Option (Int):=(bits_Len64.f a0).bind fun t333 => (some t333)
set_option maxHeartbeats 8000000 in
set_option maxRecDepth 100000 in
theorem bits_Len.calls (a0 : Int) (r : Int) (w : World) (h : bits_Len.f a0 = some r) :
  Calls Try.prog 84 #[.int .u64 a0] w fun e w' => e = .returned (.int .i64 r) ∧ Drawn0 w w':=by
 have H : ((bits_Len64.f a0).bind fun t333 => (some t333)) = some r:=h
 clear h
 replace H:=Option.bind_eq_some_iff.mp H
 obtain ⟨t333,A20,H⟩:=H
 replace H : (some t333) = some r:=H
 have A2:=mk_ A20
 clear A20
 obtain rfl:=Option.some.inj H
 go_enter Try.func84,Try.ntmps84
 go_wp2_with (first|((with_reducible refine gate_callee (f:=103) rfl ?_);refine goesL_ (some 7) rfl rfl Try.func103 (by kernel_rfl) rfl #[.int .u64 a0] rfl qm_ ?_;(with_reducible refine (bits_Len64.calls a0 t333 _ A2.out).mono ?_);rintro e w' ⟨rfl,⟨nd,rfl⟩⟩;refine ⟨_,rfl,?_⟩))
 go_ret
 exact ⟨by first|rfl|(simp;done)|(simp [*];done),by repeat (first|exact Drawn0.refl _|apply Drawn0.step)⟩

/-! ### slices_pdqsortOrdered_int: function 83 (by hand) -/
def slices_pdqsortOrdered_int.f (k : Nat) (l0 : List Int) (a1 : Int) (a2 : Int) (a3 : Int) : Option (List Int) :=
 if wrap64 (a2 - a1) ≤ 12 then slices_insertionSortOrdered_int.f k l0 a1 a2 else none
theorem slices_pdqsortOrdered_int.mono : ∀ a0 a1 a2 a3 k,LeO (slices_pdqsortOrdered_int.f k a0 a1 a2 a3) (slices_pdqsortOrdered_int.f (k + 1) a0 a1 a2 a3):=by
 intro a0 a1 a2 a3 k
 unfold slices_pdqsortOrdered_int.f
 exact LeO.ite (slices_insertionSortOrdered_int.mono _ _ _ _) (LeO.refl _)
set_option maxHeartbeats 4000000 in
set_option maxRecDepth 100000 in
theorem slices_pdqsortOrdered_int.calls (k : Nat) (P0_ : Nat → Prop) (u9000_ : Value) (l0 : List Int) (a1 : Int) (a2 : Int) (a3 : Int) (r : List Int) (w0 w : World) (hB : Below w0.heap.size w0 w) (ho0 : Kd.R (Kd.int .i64) 3 w w0.heap.size P0_ u9000_ l0) (h : slices_pdqsortOrdered_int.f k l0 a1 a2 a3 = some r) :
  Calls Try.prog 83 #[u9000_,.int .i64 a1,.int .i64 a2,.int .i64 a3] w fun e w' => e = .returned (.tuple #[]) ∧ Kd.R (Kd.int .i64) 3 w' w0.heap.size (fun k_ => (P0_ k_ ∨ w.heap.size ≤ k_)) u9000_ r ∧ Below w0.heap.size w0 w' ∧ Kept w w' (fun k_ => P0_ k_):=by
 unfold slices_pdqsortOrdered_int.f at h
 by_cases hc : wrap64 (a2 - a1) ≤ 12
 ·rw [if_pos hc] at h
  have hcall:=slices_insertionSortOrdered_int.calls k P0_ u9000_ l0 a1 a2 r w0 w hB ho0 h
  have hc1 : (wrap64 (a2 - a1) ≤ 12) = True:=eq_true hc
  clear h hB ho0 hc
  go_enter Try.func83,Try.ntmps83
  go_wp2
  go_loopg [1,2,3,8,9,10,11,12,13,14,15,16,17,18] 1 (fun gg s1 s2 _ _ _ _ _ _ _ _ _ _ _ _ wr => s1 = .int .i64 a1 ∧ s2 = .int .i64 a2 ∧ wr = w)
  case atStart => exact ⟨rfl,rfl,rfl⟩
  case round =>
   obtain ⟨rfl,rfl,rfl⟩:=hrel
   go_wp2_with fail
   refine hcall.mono ?_
   rintro e w' ⟨rfl,h1,h2,h3⟩
   go_wp2_with fail
   first|go_end0|((try simp only [Exit.inBlock,Exit.then]);refine bodyPost_ret (results_none rfl _ _ _) rfl ?_)
   exact ⟨rfl,h1,h2,h3⟩
 ·rw [if_neg hc] at h
  cases h

/-! ### slices_Sort_int_int: function 64 -/
def slices_Sort_int_int.f (k : Nat) (l0 : List Int) : Option (List Int):=(bits_Len.f (IntKind.u64.wrap ((l0.length : Int)))).bind fun t418 => ((slices_pdqsortOrdered_int.f k l0 0 (l0.length : Int) t418).bind fun t419 => (some t419))
theorem slices_Sort_int_int.mono : ∀ a0 k,LeO (slices_Sort_int_int.f k a0) (slices_Sort_int_int.f (k + 1) a0):=by
 intro a0 k
 unfold slices_Sort_int_int.f
 repeat' first
   | (with_reducible exact slices_pdqsortOrdered_int.mono _ _ _ _ _)
   | (with_reducible exact LeO.refl _)
   | (with_reducible exact LeO.none _)
   | (with_reducible refine LeO.ite ?_ ?_)
   | (with_reducible refine LeO.bind ?_ (fun _ => ?_))
   | exact slices_pdqsortOrdered_int.mono _ _ _ _ _
   | exact LeO.none _
   | refine LeO.ite ?_ ?_
   | refine LeO.bind ?_ (fun _ => ?_)
set_option maxHeartbeats 8000000 in
set_option maxRecDepth 100000 in
theorem slices_Sort_int_int.calls (k : Nat) (P0_ : Nat → Prop) (u9000_ : Value) (l0 : List Int) (r : List Int) (w0 w : World) (hB : Below w0.heap.size w0 w) (ho0 : Kd.R (Kd.int .i64) 3 w w0.heap.size P0_ u9000_ l0) (h : slices_Sort_int_int.f k l0 = some r) :
  Calls Try.prog 64 #[u9000_] w fun e w' => e = .returned (.tuple #[]) ∧ Kd.R (Kd.int .i64) 3 w' w0.heap.size (fun k_ => (P0_ k_ ∨ w.heap.size ≤ k_)) u9000_ r ∧ Below w0.heap.size w0 w' ∧ Kept w w' (fun k_ => P0_ k_):=by
 have HO0:=mk_ (show Kd.R (Kd.int .i64) 3 w w0.heap.size (fun k_ => (P0_ k_ ∨ w.heap.size ≤ k_)) u9000_ l0 from rm_ ho0 (fun k_ hk => (.inl hk)))
 have HK:=mk_ (Kept.refl w (fun k_ => P0_ k_))
 have HW0:=mk_ hB.size
 have HB:=mk_ hB
 clear hB
 have H : ((bits_Len.f (IntKind.u64.wrap ((l0.length : Int)))).bind fun t418 => ((slices_pdqsortOrdered_int.f k l0 0 (l0.length : Int) t418).bind fun t419 => (some t419))) = some r:=h
 clear h
 replace H:=Option.bind_eq_some_iff.mp H
 obtain ⟨t418,A20,H⟩:=H
 replace H : ((slices_pdqsortOrdered_int.f k l0 0 (l0.length : Int) t418).bind fun t419 => (some t419)) = some r:=H
 have A2:=mk_ A20
 clear A20
 replace H:=Option.bind_eq_some_iff.mp H
 obtain ⟨t419,A30,H⟩:=H
 replace H : (some t419) = some r:=H
 have A3:=mk_ A30
 clear A30
 obtain rfl:=Option.some.inj H
 obtain ⟨Ao4,co4,eo4⟩:=Kd.R_slice HO0.out
 subst eo4
 go_enter Try.func64,Try.ntmps64
 go_wp2_with (first|((with_reducible refine gate_callee (f:=84) rfl ?_);refine goesL_ (some 9) rfl rfl Try.func84 (by kernel_rfl) rfl #[.int .u64 (IntKind.u64.wrap ((l0.length : Int)))] rfl qm_ ?_;(with_reducible refine (bits_Len.calls (IntKind.u64.wrap ((l0.length : Int))) t418 _ A2.out).mono ?_);rintro e w' ⟨rfl,⟨nd,rfl⟩⟩;refine ⟨_,rfl,?_⟩)|((with_reducible refine gate_callee (f:=83) rfl ?_);refine goesL_ (some 10) rfl rfl Try.func83 (by kernel_rfl) rfl #[.slice Ao4 l0.length co4,.int .i64 0,.int .i64 (l0.length : Int),.int .i64 t418] rfl qm_ ?_;(with_reducible refine (slices_pdqsortOrdered_int.calls k (fun k_ => some k_ = (.slice Ao4 l0.length co4 : Value).ownBlock) (.slice Ao4 l0.length co4) l0 0 (l0.length : Int) t418 t419 w0 _ ?side1 ?side2 A3.out).mono ?_);(case side1 => repeat (first|(with_reducible first|exact HB.out|apply ba_|apply bn_|apply bd_)|exact HB.out));(case side2 => exact Kd.R_tight rfl HO0.out);rintro e w5 ⟨rfl,hy0,hb,hkp⟩;refine ⟨_,rfl,?_⟩;have n0_:=mk_ (Kd.R_reok rfl hy0 (fun k_ e_ => HO0.out.1 k_ e_));have n1_:=mk_ (Kept.then_ (S:=(fun k_ => P0_ k_)) (by repeat (first|(with_reducible first|exact HK.out|apply Kept.alloc|apply Kept.drewN|apply Kept.drew)|exact HK.out)) hkp (fun k_ hs_ => (fun e_ => (HO0.out.1 k_ e_.symm)) hs_));have n2_:=mk_ (hb);clear HO0;clear HK;clear HB;have HO0:=n0_;have HK:=n1_;have HB:=n2_;clear n0_ n1_ n2_;(try clear hb);(try clear hkp);(try clear hy0)))
 first|go_end0|((try simp only [Exit.inBlock,Exit.then]);refine bodyPost_ret (results_none rfl _ _ _) rfl ?_)
 exact ⟨by first|rfl|(simp [errW_none,errW_some] <;> rfl)|(simp [*,errW_none,errW_some] <;> rfl),by (with_reducible repeat (first|apply ra_|apply rn_|apply rd_));exact HO0.out,by repeat (first|(with_reducible first|exact HB.out|apply ba_|apply bn_|apply bd_)|exact HB.out),by repeat (first|(with_reducible first|exact HK.out|apply Kept.alloc|apply Kept.drewN|apply Kept.drew)|exact HK.out)⟩

/-! ### impl_TreeOf: function 30 -/
def impl_TreeOf.l0 : Nat → List (S51) → List Int → List Int → Int → Int → Option (List Int)
 | 0,_,_,_,_,_ => none
 | k + 1,x1,x5,x6,x17,x18 => if x18 < x17 then ((impl_upOf.f k x1 x6 x18).bind fun bt424 => (if bt424.1 ≥ 0 then (if x5.length < 17592186044416 then (impl_TreeOf.l0 k x1 (x5 ++ [bt424.1]) x6 x17 (wrap64 (x18 + 1))) else (none)) else (impl_TreeOf.l0 k x1 x5 x6 x17 (wrap64 (x18 + 1))))) else ((slices_Sort_int_int.f k x5).bind fun t429 => (some t429))
def impl_TreeOf.f (k : Nat) (a0 : Int) (l1 : List (S51)) : Option (List Int):=(impl_CablesValid.f a0 l1).bind fun t420 => (if t420 = true then ((impl_costsOf.f k a0 l1).bind fun t421 => (impl_TreeOf.l0 k l1 ([] : List Int) t421 a0 0)) else (some ([] : List Int)))
theorem impl_TreeOf.mono_l : ∀ k,(∀ y0 y1 y2 y3 y4,LeO (impl_TreeOf.l0 k y0 y1 y2 y3 y4) (impl_TreeOf.l0 (k + 1) y0 y1 y2 y3 y4))
 | 0 => fun _ _ _ _ _ r h => by simp [impl_TreeOf.l0] at h
 | k + 1 => by
  have ih0:=impl_TreeOf.mono_l k
  ·intro y0 y1 y2 y3 y4
   unfold impl_TreeOf.l0
   repeat' first
   | (with_reducible exact ih0 _ _ _ _ _)
   | (with_reducible exact impl_costsOf.mono _ _ _)
   | (with_reducible exact impl_upOf.mono _ _ _ _)
   | (with_reducible exact slices_Sort_int_int.mono _ _)
   | (with_reducible exact LeO.refl _)
   | (with_reducible exact LeO.none _)
   | (with_reducible refine LeO.ite ?_ ?_)
   | (with_reducible refine LeO.bind ?_ (fun _ => ?_))
   | exact ih0 _ _ _ _ _
   | exact impl_costsOf.mono _ _ _
   | exact impl_upOf.mono _ _ _ _
   | exact slices_Sort_int_int.mono _ _
   | exact LeO.none _
   | refine LeO.ite ?_ ?_
   | refine LeO.bind ?_ (fun _ => ?_)
theorem impl_TreeOf.mono : ∀ a0 a1 k,LeO (impl_TreeOf.f k a0 a1) (impl_TreeOf.f (k + 1) a0 a1):=by
 intro a0 a1 k
 have ih0:=impl_TreeOf.mono_l k
 unfold impl_TreeOf.f
 repeat' first
   | (with_reducible exact ih0 _ _ _ _ _)
   | (with_reducible exact impl_costsOf.mono _ _ _)
   | (with_reducible exact impl_upOf.mono _ _ _ _)
   | (with_reducible exact slices_Sort_int_int.mono _ _)
   | (with_reducible exact LeO.refl _)
   | (with_reducible exact LeO.none _)
   | (with_reducible refine LeO.ite ?_ ?_)
   | (with_reducible refine LeO.bind ?_ (fun _ => ?_))
   | exact ih0 _ _ _ _ _
   | exact impl_costsOf.mono _ _ _
   | exact impl_upOf.mono _ _ _ _
   | exact slices_Sort_int_int.mono _ _
   | exact LeO.none _
   | refine LeO.ite ?_ ?_
   | refine LeO.bind ?_ (fun _ => ?_)
set_option maxHeartbeats 8000000 in
set_option maxRecDepth 100000 in
theorem impl_TreeOf.calls (k : Nat) (a0 : Int) (A1 : Option Addr) (c1 : Nat) (l1 : List (S51)) (r : List Int) (w : World) (hr1 : Kd.C k51 w A1 l1.length l1) (hc1 : l1.length ≤ c1) (h : impl_TreeOf.f k a0 l1 = some r) :
  Calls Try.prog 30 #[.int .i64 a0,.slice A1 l1.length c1] w fun e w' => ∃ v0_ : Value,e = .returned (v0_) ∧ Kd.R (Kd.int .i64) 3 w' w.heap.size (fun _ => True) v0_ r ∧ Below w.heap.size w w':=by
 have HR1:=mk_ hr1
 have HC1:=mk_ hc1
 clear hr1 hc1
 have HB:=mk_ (Below.refl w.heap.size w)
 have H : ((impl_CablesValid.f a0 l1).bind fun t420 => (if t420 = true then ((impl_costsOf.f k a0 l1).bind fun t421 => (impl_TreeOf.l0 k l1 ([] : List Int) t421 a0 0)) else (some ([] : List Int)))) = some r:=h
 clear h
 replace H:=Option.bind_eq_some_iff.mp H
 obtain ⟨t420,A30,H⟩:=H
 replace H : (if t420 = true then ((impl_costsOf.f k a0 l1).bind fun t421 => (impl_TreeOf.l0 k l1 ([] : List Int) t421 a0 0)) else (some ([] : List Int))) = some r:=H
 have A3:=mk_ A30
 clear A30
 by_cases c4 : t420 = true
 ·subst c4
  have H1 : ((impl_costsOf.f k a0 l1).bind fun t421 => (impl_TreeOf.l0 k l1 ([] : List Int) t421 a0 0)) = some r:=by rw [if_pos rfl] at H;exact H
  clear H
  have H:=H1
  clear H1
  replace H:=Option.bind_eq_some_iff.mp H
  obtain ⟨t421,A50,H⟩:=H
  replace H : (impl_TreeOf.l0 k l1 ([] : List Int) t421 a0 0) = some r:=H
  have A5:=mk_ A50
  clear A50
  have H':=mk_ H
  clear H
  go_enter Try.func30,Try.ntmps30
  go_wp2_with (first|((with_reducible refine gate_callee (f:=45) rfl ?_);refine goesL_ (some 12) rfl rfl Try.func45 (by kernel_rfl) rfl #[.int .i64 a0,.slice A1 l1.length c1] rfl qm_ ?_;(with_reducible refine (impl_CablesValid.calls a0 _ _ l1 true _ ?side1 ?side2 A3.out).mono ?_);(case side1 => repeat (first|exact HR1.out|(with_reducible refine ca_ ?_ _)|(with_reducible refine cn_ ?_ _)|(with_reducible refine cd_ ?_)));(case side2 => exact HC1.out);rintro e w6 ⟨rfl,hb⟩;refine ⟨_,rfl,?_⟩;have n0_:=mk_ (st_ (qb_ HB) hb);clear HB;have HB:=n0_;clear n0_;(try clear hb);(try clear hb2);(try clear hk);(try clear hi))|((with_reducible refine gate_callee (f:=62) rfl ?_);refine goesL_ (some 16) rfl rfl Try.func62 (by kernel_rfl) rfl #[.int .i64 a0,.slice A1 l1.length c1] rfl qm_ ?_;(with_reducible refine (impl_costsOf.calls k a0 _ _ l1 t421 _ ?side1 ?side2 A5.out).mono ?_);(case side1 => repeat (first|exact (cb_ HR1.out HB.out)|(with_reducible refine ca_ ?_ _)|(with_reducible refine cn_ ?_ _)|(with_reducible refine cd_ ?_)));(case side2 => exact HC1.out);rintro e w7 ⟨v422,rfl,ho0,hb⟩;refine ⟨_,rfl,?_⟩;have n0_:=mk_ (Kd.R_lower ho0 (bz_ (qb_ HB)));have n1_:=mk_ (st_ (qb_ HB) hb);clear HB;have HO423:=n0_;have HB:=n1_;clear n0_ n1_;(try clear hb);(try clear hb2);(try clear hk);(try clear hi);(try clear ho0)))
  go_loopg [5,18] k (fun kq v5 v18 w' => ∃ (x5_1 : List Int) (x18_1 : Int),v18 = .int .i64 x18_1 ∧ Aside0 (impl_TreeOf.l0 kq l1 x5_1 t421 a0 x18_1 = some r) ∧ Aside0 (kq ≤ k) ∧ Aside0 (Kd.R (Kd.int .i64) 3 w' w.heap.size (fun k_ => some k_ ≠ (v422 : Value).ownBlock) v5 x5_1) ∧ Aside0 (Kd.R (Kd.int .i64) 3 w' w.heap.size (fun k_ => some k_ ≠ (v5 : Value).ownBlock) v422 t421) ∧ Aside0 (Below w.heap.size w w'))
  case atStart => exact ⟨(([] : List Int)),(0),(by first|rfl|(simp;done)|(simp [*];done)),H',⟨Nat.le_refl _⟩,⟨by first|exact Kd.R_nil _ _ _ _ _|exact Kd.N_nil _ _ _ _ _|exact Kd.V_nil _ _ _ _ _|exact Kd.Q_nil _ _ _ _ _|exact Kd.S_nil _ _ _ _ _⟩,⟨by (with_reducible repeat (first|apply ra_|apply rn_|apply rd_));exact rm_ HO423.out (fun _ hk => (by simp [Value.ownBlock]))⟩,⟨by repeat (first|(with_reducible first|exact HB.out|apply ba_|apply bn_|apply bd_)|exact HB.out)⟩⟩
  case round =>
   clear H'
   try clear c1
   try clear p2
   try clear c3
   try clear c4
   try clear c6
   obtain ⟨x5_1,x18_1,rfl,HA,HK1,HO_5,HO_6,HB⟩:=hrel
   cases gk with
   | zero => exact absurd HA.out (by simp [impl_TreeOf.l0])
   | succ k1 =>
    have H:=HA.out
    clear HA
    simp only [impl_TreeOf.l0] at H
    by_cases c8 : x18_1 < a0
    ·rw [if_pos c8] at H
     have c8b0 : decide (x18_1 < a0) = true:=decide_eq_true c8
     clear c8
     replace H:=Option.bind_eq_some_iff.mp H
     obtain ⟨⟨t424,t425⟩,A90,H⟩:=H
     replace H : (if t424 ≥ 0 then (if x5_1.length < 17592186044416 then (impl_TreeOf.l0 k1 l1 (x5_1 ++ [t424]) t421 a0 (wrap64 (x18_1 + 1))) else (none)) else (impl_TreeOf.l0 k1 l1 x5_1 t421 a0 (wrap64 (x18_1 + 1)))) = some r:=H
     have A9:=mk_ A90
     clear A90
     by_cases c10 : t424 ≥ 0
     ·rw [if_pos c10] at H
      have c10b0 : decide (0 ≤ t424) = true:=decide_eq_true c10
      clear c10
      by_cases c11 : x5_1.length < 17592186044416
      ·rw [if_pos c11] at H
       have LMc11:=mk_ c11
       clear c11
       obtain ⟨y426,hy426⟩ : ∃ y_ : List Int,y_ = (x5_1 ++ [t424]):=⟨_,rfl⟩
       replace H : (impl_TreeOf.l0 k1 l1 y426 t421 a0 (wrap64 (x18_1 + 1))) = some r:=by first|(rw [hy426];with_reducible exact H)|(have H2_:=(Option.bind_some _ _).symm.trans H;rw [hy426];with_reducible exact H2_)|(have H2_:=(Option.bind_some _ _).symm.trans H;with_reducible exact H2_)|with_reducible exact H|(rw [hy426];exact H)|exact H
       have Ny426:=mk_ hy426
       clear hy426
       have H':=mk_ H
       clear H
       obtain ⟨Ao12,co12,eo12⟩:=Kd.R_slice HO_6.out
       subst eo12
       go_wp2_with (first|((with_reducible refine gate_callee (f:=63) rfl ?_);refine goesL_ (some 25) rfl rfl Try.func63 (by kernel_rfl) rfl #[.slice A1 l1.length c1,.slice Ao12 t421.length co12,.int .i64 x18_1] rfl qm_ ?_;(with_reducible refine (impl_upOf.calls k1 _ _ l1 _ _ t421 x18_1 t424 t425 _ ?side1 ?side2 ?side3 ?side4 A9.out).mono ?_);(case side1 => repeat (first|exact (cb_ HR1.out HB.out)|(with_reducible refine ca_ ?_ _)|(with_reducible refine cn_ ?_ _)|(with_reducible refine cd_ ?_)));(case side2 => exact HC1.out);(case side3 => repeat (first|exact (rr_ HO_6.out).2.2|(with_reducible refine ca_ ?_ _)|(with_reducible refine cn_ ?_ _)|(with_reducible refine cd_ ?_)));(case side4 => exact (rr_ HO_6.out).2.1);rintro e w13 ⟨rfl,hb⟩;refine ⟨_,rfl,?_⟩;have n0_:=mk_ (rb_ (qr_ HO_5) hb);have n1_:=mk_ (rb_ (qr_ HO_6) hb);have n2_:=mk_ (st_ (qb_ HB) hb);clear HO_5;clear HO_6;clear HB;have HO_5:=n0_;have HO_6:=n1_;have HB:=n2_;clear n0_ n1_ n2_;(try clear hb);(try clear hb2);(try clear hk);(try clear hi))|((with_reducible refine gate_builtin (b:=.append) (xs:=#[.tmp 30,.tmp 32]) rfl ?_);at_builtin;refine Kd.R_append (Kd.int .i64) (w0:=w) w.heap.size rfl (.tmp 30) (.tmp 32) 23 3 (.int .i64 0) 8 rfl Try.underlying23 info3 rfl (by decide) (by omega) u5 x5_1 t424 [.int .i64 t424] (fun k_ => some k_ ≠ (.slice Ao12 t421.length co12 : Value).ownBlock) (fun _ => False) rfl rfl ?aP (fun _ hk => hk.elim) ?aF ?aO ?aB ?aS ?aL ?_;(case aP => exact rfl);(case aB => exact (qb_ HB));(case aF => exact (fun k_ hk => Kd.fresh' (Kd.R_lt (qr_ HO_6)) k_ hk));(case aO => exact (qr_ HO_5));(case aS => exact (bz_ (qb_ HB)));(case aL => have:=LMc11.out;omega);intro v427 w14 ho hb hg hat;rw [← Ny426.out] at ho;have n0_:=mk_ (Kd.R_after (ok:=(fun _ => True)) (by (with_reducible repeat (first|apply ra_|apply rn_|apply rd_));exact rm_ HO_6.out (fun _ hk => ⟨trivial,hk⟩)) hg hat);have n1_:=mk_ (hb);have n2_:=mk_ (ho);clear HO_6;clear HB;clear HO_5;have HO_6:=n0_;have HB:=n1_;have HO428:=n2_;clear n0_ n1_ n2_;clear ho hb hg hat))
       go_roundg k1
       case measure => have:=HK1.out;omega
       case rel => exact ⟨(y426),(wrap64 (x18_1 + 1)),(by first|rfl|(simp;done)|(simp [*];done)),H',⟨by have:=HK1.out;omega⟩,⟨by (with_reducible repeat (first|apply ra_|apply rn_|apply rd_));exact HO428.out⟩,⟨by (with_reducible repeat (first|apply ra_|apply rn_|apply rd_));exact rm_ HO_6.out (fun _ hk => hk.2)⟩,⟨by repeat (first|(with_reducible first|exact HB.out|apply ba_|apply bn_|apply bd_)|exact HB.out)⟩⟩
      ·rw [if_neg c11] at H
       exact absurd H (by simp)
     ·rw [if_neg c10] at H
      have c10b0 : decide (0 ≤ t424) = false:=decide_eq_false c10
      clear c10
      have H':=mk_ H
      clear H
      obtain ⟨Ao15,co15,eo15⟩:=Kd.R_slice HO_6.out
      subst eo15
      go_wp2_with (first|((with_reducible refine gate_callee (f:=63) rfl ?_);refine goesL_ (some 25) rfl rfl Try.func63 (by kernel_rfl) rfl #[.slice A1 l1.length c1,.slice Ao15 t421.length co15,.int .i64 x18_1] rfl qm_ ?_;(with_reducible refine (impl_upOf.calls k1 _ _ l1 _ _ t421 x18_1 t424 t425 _ ?side1 ?side2 ?side3 ?side4 A9.out).mono ?_);(case side1 => repeat (first|exact (cb_ HR1.out HB.out)|(with_reducible refine ca_ ?_ _)|(with_reducible refine cn_ ?_ _)|(with_reducible refine cd_ ?_)));(case side2 => exact HC1.out);(case side3 => repeat (first|exact (rr_ HO_6.out).2.2|(with_reducible refine ca_ ?_ _)|(with_reducible refine cn_ ?_ _)|(with_reducible refine cd_ ?_)));(case side4 => exact (rr_ HO_6.out).2.1);rintro e w16 ⟨rfl,hb⟩;refine ⟨_,rfl,?_⟩;have n0_:=mk_ (rb_ (qr_ HO_5) hb);have n1_:=mk_ (rb_ (qr_ HO_6) hb);have n2_:=mk_ (st_ (qb_ HB) hb);clear HO_5;clear HO_6;clear HB;have HO_5:=n0_;have HO_6:=n1_;have HB:=n2_;clear n0_ n1_ n2_;(try clear hb);(try clear hb2);(try clear hk);(try clear hi)))
      go_roundg k1
      case measure => have:=HK1.out;omega
      case rel => exact ⟨(x5_1),(wrap64 (x18_1 + 1)),(by first|rfl|(simp;done)|(simp [*];done)),H',⟨by have:=HK1.out;omega⟩,⟨by (with_reducible repeat (first|apply ra_|apply rn_|apply rd_));exact HO_5.out⟩,⟨by (with_reducible repeat (first|apply ra_|apply rn_|apply rd_));exact HO_6.out⟩,⟨by repeat (first|(with_reducible first|exact HB.out|apply ba_|apply bn_|apply bd_)|exact HB.out)⟩⟩
    ·rw [if_neg c8] at H
     have c8b0 : decide (x18_1 < a0) = false:=decide_eq_false c8
     clear c8
     replace H:=Option.bind_eq_some_iff.mp H
     obtain ⟨t429,A170,H⟩:=H
     replace H : (some t429) = some r:=H
     have A17:=mk_ A170
     clear A170
     obtain rfl:=Option.some.inj H
     obtain ⟨Ao18,co18,eo18⟩:=Kd.R_slice HO_5.out
     subst eo18
     go_wp2_with (first|((with_reducible refine gate_callee (f:=64) rfl ?_);refine goesL_ (some 36) rfl rfl Try.func64 (by kernel_rfl) rfl #[.slice Ao18 x5_1.length co18] rfl qm_ ?_;(with_reducible refine (slices_Sort_int_int.calls k1 (fun k_ => some k_ = (.slice Ao18 x5_1.length co18 : Value).ownBlock) (.slice Ao18 x5_1.length co18) x5_1 t429 w _ ?side1 ?side2 A17.out).mono ?_);(case side1 => repeat (first|(with_reducible first|exact HB.out|apply ba_|apply bn_|apply bd_)|exact HB.out));(case side2 => exact Kd.R_tight rfl HO_5.out);rintro e w19 ⟨rfl,hy0,hb,hkp⟩;refine ⟨_,rfl,?_⟩;have n0_:=mk_ (Kd.R_reok rfl hy0 (fun k_ e_ => HO_5.out.1 k_ e_));have n1_:=mk_ (rm_ (ok':=fun k_ => some k_ ≠ (.slice Ao18 x5_1.length co18 : Value).ownBlock) (Kd.R_keptB (HO_6.out) hkp (fun k_ hk_ hs_ => (hk_) hs_)) (fun k_ hk_ => hk_.1));have n2_:=mk_ (hb);clear HO_5;clear HO_6;clear HB;have HO_5:=n0_;have HO_6:=n1_;have HB:=n2_;clear n0_ n1_ n2_;(try clear hb);(try clear hkp);(try clear hy0)))
     go_ret
     exact ⟨_,by first|rfl|(simp [errW_none,errW_some] <;> rfl)|(simp [*,errW_none,errW_some] <;> rfl),by (with_reducible repeat (first|apply ra_|apply rn_|apply rd_));exact rm_ HO_5.out (fun _ hk => trivial),by repeat (first|(with_reducible first|exact HB.out|apply ba_|apply bn_|apply bd_)|exact HB.out)⟩
 ·replace c4:=Bool.eq_false_iff.mpr c4
  subst c4
  have H1 : (some ([] : List Int)) = some r:=by rw [if_neg (show ¬ (false = true) by decide)] at H;exact H
  clear H
  have H:=H1
  clear H1
  obtain rfl:=Option.some.inj H
  go_enter Try.func30,Try.ntmps30
  go_wp2_with (first|((with_reducible refine gate_callee (f:=45) rfl ?_);refine goesL_ (some 12) rfl rfl Try.func45 (by kernel_rfl) rfl #[.int .i64 a0,.slice A1 l1.length c1] rfl qm_ ?_;(with_reducible refine (impl_CablesValid.calls a0 _ _ l1 false _ ?side1 ?side2 A3.out).mono ?_);(case side1 => repeat (first|exact HR1.out|(with_reducible refine ca_ ?_ _)|(with_reducible refine cn_ ?_ _)|(with_reducible refine cd_ ?_)));(case side2 => exact HC1.out);rintro e w20 ⟨rfl,hb⟩;refine ⟨_,rfl,?_⟩;have n0_:=mk_ (st_ (qb_ HB) hb);clear HB;have HB:=n0_;clear n0_;(try clear hb);(try clear hb2);(try clear hk);(try clear hi)))
  go_ret
  exact ⟨_,by first|rfl|(simp [errW_none,errW_some] <;> rfl)|(simp [*,errW_none,errW_some] <;> rfl),by first|exact Kd.R_nil _ _ _ _ _|exact Kd.N_nil _ _ _ _ _|exact Kd.V_nil _ _ _ _ _|exact Kd.Q_nil _ _ _ _ _|exact Kd.S_nil _ _ _ _ _,by repeat (first|(with_reducible first|exact HB.out|apply ba_|apply bn_|apply bd_)|exact HB.out)⟩

end Go.Proofs.Ytdamdcdjodmemaa.PAll
