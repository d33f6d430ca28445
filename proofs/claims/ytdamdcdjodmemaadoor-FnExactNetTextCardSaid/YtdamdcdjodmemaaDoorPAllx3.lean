/- Proved here: contracts of functions of the given program, or lemmas on them, for the laws of this seat. Written by xprint.py, a program of this session, on the ground of the kit's print; parts by hand: wip/x/ext. -/
import Derived.Test.YtdamdcdjodmemaaDoorPAllx0
import Derived.Test.YtdamdcdjodmemaaDoorPAllx1
import Derived.Test.YtdamdcdjodmemaaDoorPAllx2
namespace Go.Proofs.YtdamdcdjodmemaaDoor.PAll
open Go.RowKit Go.Proofs.YtdamdcdjodmemaaDoorW.PrintWords Go.Proofs.YtdamdcdjodmemaaDoorW.PrintLast Go.Proofs.YtdamdcdjodmemaaDoorW.PrintMore
attribute [local go_sem] max2_int min2_int max_two min_two max_three min_three max_four min_four   -- for this text's walks alone
set_option linter.unusedVariables false
set_option linter.unusedSimpArgs false

/-! ### laws_eqIntS: function 20 -/
def laws_eqIntS.l0 : Nat → List Int → List Int → Int → Option (Bool)
 | 0,_,_,_ => none
 | k + 1,x0,x1,x5 => if x5 < (x0.length : Int) then (if 0 ≤ x5 then (if x5 < (x1.length : Int) then (if (rd x0 x5) = (rd x1 x5) then (laws_eqIntS.l0 k x0 x1 (wrap64 (x5 + 1))) else (some false)) else (none)) else (none)) else (some true)
def laws_eqIntS.f (k : Nat) (l0 : List Int) (l1 : List Int) : Option (Bool):=if (l0.length : Int) = (l1.length : Int) then (laws_eqIntS.l0 k l0 l1 0) else (some false)
theorem laws_eqIntS.mono_l : ∀ k,(∀ y0 y1 y2,LeO (laws_eqIntS.l0 k y0 y1 y2) (laws_eqIntS.l0 (k + 1) y0 y1 y2))
 | 0 => fun _ _ _ r h => by simp [laws_eqIntS.l0] at h
 | k + 1 => by
  have ih0:=laws_eqIntS.mono_l k
  ·intro y0 y1 y2
   unfold laws_eqIntS.l0
   repeat' first
   | (with_reducible exact ih0 _ _ _)
   | (with_reducible exact LeO.refl _)
   | (with_reducible exact LeO.none _)
   | (with_reducible refine LeO.ite ?_ ?_)
   | (with_reducible refine LeO.bind ?_ (fun _ => ?_))
   | exact ih0 _ _ _
   | exact LeO.none _
   | refine LeO.ite ?_ ?_
   | refine LeO.bind ?_ (fun _ => ?_)
theorem laws_eqIntS.mono : ∀ a0 a1 k,LeO (laws_eqIntS.f k a0 a1) (laws_eqIntS.f (k + 1) a0 a1):=by
 intro a0 a1 k
 have ih0:=laws_eqIntS.mono_l k
 unfold laws_eqIntS.f
 repeat' first
   | (with_reducible exact ih0 _ _ _)
   | (with_reducible exact LeO.refl _)
   | (with_reducible exact LeO.none _)
   | (with_reducible refine LeO.ite ?_ ?_)
   | (with_reducible refine LeO.bind ?_ (fun _ => ?_))
   | exact ih0 _ _ _
   | exact LeO.none _
   | refine LeO.ite ?_ ?_
   | refine LeO.bind ?_ (fun _ => ?_)
set_option maxHeartbeats 8000000 in
set_option maxRecDepth 100000 in
theorem laws_eqIntS.calls (k : Nat) (A0 : Option Addr) (c0 : Nat) (l0 : List Int) (A1 : Option Addr) (c1 : Nat) (l1 : List Int) (r : Bool) (w : World) (hr0 : Kd.C (Kd.int .i64) w A0 l0.length l0) (hc0 : l0.length ≤ c0) (hr1 : Kd.C (Kd.int .i64) w A1 l1.length l1) (hc1 : l1.length ≤ c1) (h : laws_eqIntS.f k l0 l1 = some r) :
  Calls Tryd.prog 20 #[.slice A0 l0.length c0,.slice A1 l1.length c1] w fun e w' => e = .returned (.bool r) ∧ Drawn0 w w':=by
 have HR0:=mk_ hr0
 have HC0:=mk_ hc0
 clear hr0 hc0
 have HR1:=mk_ hr1
 have HC1:=mk_ hc1
 clear hr1 hc1
 have H : (if (l0.length : Int) = (l1.length : Int) then (laws_eqIntS.l0 k l0 l1 0) else (some false)) = some r:=h
 clear h
 by_cases c3 : (l0.length : Int) = (l1.length : Int)
 ·rw [if_pos c3] at H
  have c3b0 : ((l0.length : Int) == (l1.length : Int)) = true:=beq_iff_eq.mpr c3
  have c3b1 : ((l0.length : Int) != (l1.length : Int)) = false:=bne_eq_false_iff_eq.mpr c3
  have c3b2 : (l0.length == l1.length) = true:=by first|simpa using c3|(simp at c3 ⊢;omega)
  clear c3
  have H':=mk_ H
  clear H
  go_enter Tryd.func20,Tryd.ntmps20
  go_wp2
  repeat (go_quiet (fail);try go_wp2)
  go_loopg [5] k (fun kq v5 w' => ∃ (x5_1 : Int),v5 = .int .i64 x5_1 ∧ Aside0 (laws_eqIntS.l0 kq l0 l1 x5_1 = some r) ∧ Aside0 (kq ≤ k) ∧ Drawn0 w w')
  case atStart => exact ⟨(0),qf_,H',⟨Nat.le_refl _⟩,by repeat (first|exact Drawn0.refl _|apply Drawn0.step)⟩
  case round =>
   clear H'
   try clear c1
   try clear c2
   try clear p2
   try clear c3
   try clear c3b0
   try clear c3b1
   try clear c3b2
   obtain ⟨x5_1,rfl,HA,HK1,⟨m1,rfl⟩⟩:=hrel
   cases gk with
   | zero => exact absurd HA.out (by simp [laws_eqIntS.l0])
   | succ k1 =>
    have H:=HA.out
    clear HA
    simp only [laws_eqIntS.l0] at H
    by_cases c4 : x5_1 < (l0.length : Int)
    ·rw [if_pos c4] at H
     have c4b0 : decide (x5_1 < (l0.length : Int)) = true:=decide_eq_true c4
     clear c4
     by_cases c5 : 0 ≤ x5_1
     ·rw [if_pos c5] at H
      have c5b0 : decide (0 ≤ x5_1) = true:=decide_eq_true c5
      clear c5
      by_cases c6 : x5_1 < (l1.length : Int)
      ·rw [if_pos c6] at H
       have c6b0 : decide (x5_1 < (l1.length : Int)) = true:=decide_eq_true c6
       clear c6
       by_cases c7 : (rd l0 x5_1) = (rd l1 x5_1)
       ·rw [if_pos c7] at H
        have c7b0 : ((rd l0 x5_1) == (rd l1 x5_1)) = true:=beq_iff_eq.mpr c7
        have c7b1 : ((rd l0 x5_1) != (rd l1 x5_1)) = false:=bne_eq_false_iff_eq.mpr c7
        clear c7
        have H':=mk_ H
        clear H
        have p198 : 0 ≤ (x5_1 : Int):=od_ qa_
        have q198 : x5_1 < (l0.length : Int):=od_ qa_
        obtain ⟨ad198,e198,hx198_0⟩:=Kd.at_int HR0.out x5_1 p198 q198
        cases e198
        replace p198:=eq_true p198
        replace q198:=eq_true q198
        have p199 : 0 ≤ (x5_1 : Int):=od_ qa_
        have q199 : x5_1 < (l1.length : Int):=od_ qa_
        obtain ⟨ad199,e199,hx199_0⟩:=Kd.at_int HR1.out x5_1 p199 q199
        cases e199
        replace p199:=eq_true p199
        replace q199:=eq_true q199
        go_wp2
        repeat (go_quiet (fail);try go_wp2)
        go_roundg k1
        case measure => have:=HK1.out;omega
        case rel => exact ⟨(wrap64 (x5_1 + 1)),qf_,H',⟨by have:=HK1.out;omega⟩,by repeat (first|exact Drawn0.refl _|apply Drawn0.step)⟩
       ·rw [if_neg c7] at H
        have c7b0 : ((rd l0 x5_1) == (rd l1 x5_1)) = false:=beq_eq_false_iff_ne.mpr c7
        have c7b1 : ((rd l0 x5_1) != (rd l1 x5_1)) = true:=bne_iff_ne.mpr c7
        obtain rfl:=Option.some.inj H
        have p198 : 0 ≤ (x5_1 : Int):=od_ qa_
        have q198 : x5_1 < (l0.length : Int):=od_ qa_
        obtain ⟨ad198,e198,hx198_0⟩:=Kd.at_int HR0.out x5_1 p198 q198
        cases e198
        replace p198:=eq_true p198
        replace q198:=eq_true q198
        have p199 : 0 ≤ (x5_1 : Int):=od_ qa_
        have q199 : x5_1 < (l1.length : Int):=od_ qa_
        obtain ⟨ad199,e199,hx199_0⟩:=Kd.at_int HR1.out x5_1 p199 q199
        cases e199
        replace p199:=eq_true p199
        replace q199:=eq_true q199
        go_wp2
        repeat (go_quiet (fail);try go_wp2)
        go_ret
        exact ⟨by first|rfl|(simp;done)|(simp [*];done),by repeat (first|exact Drawn0.refl _|apply Drawn0.step)⟩
      ·rw [if_neg c6] at H
       exact absurd H (by simp)
     ·rw [if_neg c5] at H
      exact absurd H (by simp)
    ·rw [if_neg c4] at H
     have c4b0 : decide (x5_1 < (l0.length : Int)) = false:=decide_eq_false c4
     clear c4
     obtain rfl:=Option.some.inj H
     go_wp2
     repeat (go_quiet (fail);try go_wp2)
     go_ret
     exact ⟨by first|rfl|(simp;done)|(simp [*];done),by repeat (first|exact Drawn0.refl _|apply Drawn0.step)⟩
 ·rw [if_neg c3] at H
  have c3b0 : ((l0.length : Int) == (l1.length : Int)) = false:=beq_eq_false_iff_ne.mpr c3
  have c3b1 : ((l0.length : Int) != (l1.length : Int)) = true:=bne_iff_ne.mpr c3
  have c3b2 : (l0.length == l1.length) = false:=by first|simpa using c3|(simp at c3 ⊢;omega)
  obtain rfl:=Option.some.inj H
  go_enter Tryd.func20,Tryd.ntmps20
  go_wp2
  repeat (go_quiet (fail);try go_wp2)
  go_ret
  exact ⟨by first|rfl|(simp;done)|(simp [*];done),by repeat (first|exact Drawn0.refl _|apply Drawn0.step)⟩

/-! ### laws_eqNet: function 8 -/
def laws_eqNet.f (k : Nat) (a0_0 : Int) (l0_1 : List (S39)) (l0_2 : List Int) (l0_3 : List Int) (a1_0 : Int) (l1_1 : List (S39)) (l1_2 : List Int) (l1_3 : List Int) : Option (Bool):=if a0_0 = a1_0 then ((laws_eqCableS.f k l0_1 l1_1).bind fun t202 => (if t202 = true then ((laws_eqIntS.f k l0_2 l1_2).bind fun t203 => (if t203 = true then ((laws_eqIntS.f k l0_3 l1_3).bind fun t204 => (if t204 = true then (some true) else (some false))) else (some false))) else (some false))) else (some false)
theorem laws_eqNet.mono : ∀ a0 a1 a2 a3 a4 a5 a6 a7 k,LeO (laws_eqNet.f k a0 a1 a2 a3 a4 a5 a6 a7) (laws_eqNet.f (k + 1) a0 a1 a2 a3 a4 a5 a6 a7):=by
 intro a0 a1 a2 a3 a4 a5 a6 a7 k
 unfold laws_eqNet.f
 repeat' first
   | (with_reducible exact laws_eqCableS.mono _ _ _)
   | (with_reducible exact laws_eqIntS.mono _ _ _)
   | (with_reducible exact LeO.refl _)
   | (with_reducible exact LeO.none _)
   | (with_reducible refine LeO.ite ?_ ?_)
   | (with_reducible refine LeO.bind ?_ (fun _ => ?_))
   | exact laws_eqCableS.mono _ _ _
   | exact laws_eqIntS.mono _ _ _
   | exact LeO.none _
   | refine LeO.ite ?_ ?_
   | refine LeO.bind ?_ (fun _ => ?_)
set_option maxHeartbeats 8000000 in
set_option maxRecDepth 100000 in
theorem laws_eqNet.calls (k : Nat) (a0_0 : Int) (A0_1 : Option Addr) (c0_1 : Nat) (l0_1 : List (S39)) (A0_2 : Option Addr) (c0_2 : Nat) (l0_2 : List Int) (A0_3 : Option Addr) (c0_3 : Nat) (l0_3 : List Int) (a1_0 : Int) (A1_1 : Option Addr) (c1_1 : Nat) (l1_1 : List (S39)) (A1_2 : Option Addr) (c1_2 : Nat) (l1_2 : List Int) (A1_3 : Option Addr) (c1_3 : Nat) (l1_3 : List Int) (r : Bool) (w : World) (hr0_1 : Kd.C k39 w A0_1 l0_1.length l0_1) (hc0_1 : l0_1.length ≤ c0_1) (hr0_2 : Kd.C (Kd.int .i64) w A0_2 l0_2.length l0_2) (hc0_2 : l0_2.length ≤ c0_2) (hr0_3 : Kd.C (Kd.int .i64) w A0_3 l0_3.length l0_3) (hc0_3 : l0_3.length ≤ c0_3) (hr1_1 : Kd.C k39 w A1_1 l1_1.length l1_1) (hc1_1 : l1_1.length ≤ c1_1) (hr1_2 : Kd.C (Kd.int .i64) w A1_2 l1_2.length l1_2) (hc1_2 : l1_2.length ≤ c1_2) (hr1_3 : Kd.C (Kd.int .i64) w A1_3 l1_3.length l1_3) (hc1_3 : l1_3.length ≤ c1_3) (h : laws_eqNet.f k a0_0 l0_1 l0_2 l0_3 a1_0 l1_1 l1_2 l1_3 = some r) :
  Calls Tryd.prog 8 #[.agg #[.int .i64 a0_0,.slice A0_1 l0_1.length c0_1,.slice A0_2 l0_2.length c0_2,.slice A0_3 l0_3.length c0_3],.agg #[.int .i64 a1_0,.slice A1_1 l1_1.length c1_1,.slice A1_2 l1_2.length c1_2,.slice A1_3 l1_3.length c1_3]] w fun e w' => e = .returned (.bool r) ∧ Below w.heap.size w w':=by
 have hu30:=Tryd.underlying30
 have HR0_1:=mk_ hr0_1
 have HC0_1:=mk_ hc0_1
 clear hr0_1 hc0_1
 have HR0_2:=mk_ hr0_2
 have HC0_2:=mk_ hc0_2
 clear hr0_2 hc0_2
 have HR0_3:=mk_ hr0_3
 have HC0_3:=mk_ hc0_3
 clear hr0_3 hc0_3
 have HR1_1:=mk_ hr1_1
 have HC1_1:=mk_ hc1_1
 clear hr1_1 hc1_1
 have HR1_2:=mk_ hr1_2
 have HC1_2:=mk_ hc1_2
 clear hr1_2 hc1_2
 have HR1_3:=mk_ hr1_3
 have HC1_3:=mk_ hc1_3
 clear hr1_3 hc1_3
 have HB:=mk_ (Below.refl w.heap.size w)
 have H : (if a0_0 = a1_0 then ((laws_eqCableS.f k l0_1 l1_1).bind fun t202 => (if t202 = true then ((laws_eqIntS.f k l0_2 l1_2).bind fun t203 => (if t203 = true then ((laws_eqIntS.f k l0_3 l1_3).bind fun t204 => (if t204 = true then (some true) else (some false))) else (some false))) else (some false))) else (some false)) = some r:=h
 clear h
 by_cases c3 : a0_0 = a1_0
 ·rw [if_pos c3] at H
  have c3b0 : (a0_0 == a1_0) = true:=beq_iff_eq.mpr c3
  have c3b1 : (a0_0 != a1_0) = false:=bne_eq_false_iff_eq.mpr c3
  clear c3
  replace H:=Option.bind_eq_some_iff.mp H
  obtain ⟨t202,A40,H⟩:=H
  replace H : (if t202 = true then ((laws_eqIntS.f k l0_2 l1_2).bind fun t203 => (if t203 = true then ((laws_eqIntS.f k l0_3 l1_3).bind fun t204 => (if t204 = true then (some true) else (some false))) else (some false))) else (some false)) = some r:=H
  have A4:=mk_ A40
  clear A40
  by_cases c5 : t202 = true
  ·subst c5
   have H1 : ((laws_eqIntS.f k l0_2 l1_2).bind fun t203 => (if t203 = true then ((laws_eqIntS.f k l0_3 l1_3).bind fun t204 => (if t204 = true then (some true) else (some false))) else (some false))) = some r:=by rw [if_pos rfl] at H;exact H
   clear H
   have H:=H1
   clear H1
   replace H:=Option.bind_eq_some_iff.mp H
   obtain ⟨t203,A60,H⟩:=H
   replace H : (if t203 = true then ((laws_eqIntS.f k l0_3 l1_3).bind fun t204 => (if t204 = true then (some true) else (some false))) else (some false)) = some r:=H
   have A6:=mk_ A60
   clear A60
   by_cases c7 : t203 = true
   ·subst c7
    have H1 : ((laws_eqIntS.f k l0_3 l1_3).bind fun t204 => (if t204 = true then (some true) else (some false))) = some r:=by rw [if_pos rfl] at H;exact H
    clear H
    have H:=H1
    clear H1
    replace H:=Option.bind_eq_some_iff.mp H
    obtain ⟨t204,A80,H⟩:=H
    replace H : (if t204 = true then (some true) else (some false)) = some r:=H
    have A8:=mk_ A80
    clear A80
    by_cases c9 : t204 = true
    ·subst c9
     have H1 : (some true) = some r:=by rw [if_pos rfl] at H;exact H
     clear H
     have H:=H1
     clear H1
     obtain rfl:=Option.some.inj H
     go_enter Tryd.func8,Tryd.ntmps8
     go_wp2_with (first|((with_reducible refine gate_dst (N:=2) rfl ?_);refine box_event ?hg (N:=2) ?hd (cs:=#[.int .i64 a0_0,.slice A0_1 l0_1.length c0_1,.slice A0_2 l0_2.length c0_2,.slice A0_3 l0_3.length c0_3]) (t:=30) ?hr ?_;(case hd => rfl);(case hg => rfl);(case hr => first|(go_simp;done)|(go_simp;rfl));intro gb200 hg w10 hbox hb;have n0_:=mk_ (st_ (qb_ HB) hb);have n1_:=mk_ (hbox);have n2_:=mk_ ((by rw [hg];exact (bz_ (qb_ HB)) : w.heap.size ≤ gb200));have n3_:=mk_ ((by rw [hg];exact (bz_ (qb_ HB)) : w.heap.size ≤ gb200));clear HB;have HB:=n0_;have BK200:=n1_;have GW200:=n2_;have GE200:=n3_;clear n0_ n1_ n2_ n3_ hb hbox hg)|((with_reducible refine gate_dst (N:=3) rfl ?_);refine box_event ?hg (N:=3) ?hd (cs:=#[.int .i64 a1_0,.slice A1_1 l1_1.length c1_1,.slice A1_2 l1_2.length c1_2,.slice A1_3 l1_3.length c1_3]) (t:=30) ?hr ?_;(case hd => rfl);(case hg => rfl);(case hr => first|(go_simp;done)|(go_simp;rfl));intro gb201 hg w11 hbox hb;have n0_:=mk_ (blk_below (g:=gb200) (o:=.cells #[.int .i64 a0_0,.slice A0_1 l0_1.length c0_1,.slice A0_2 l0_2.length c0_2,.slice A0_3 l0_3.length c0_3] 30 (0,0)) (qk_ BK200) hb);have n1_:=mk_ (st_ (qc_ HB GE200) hb);have n2_:=mk_ (hbox);have n3_:=mk_ ((by rw [hg];exact (bz_ (qc_ HB GE200)) : w.heap.size ≤ gb201));have n4_:=mk_ ((by rw [hg];exact (bz_ (qc_ HB GE200)) : w.heap.size ≤ gb201));have n5_:=mk_ ((by rw [hg];exact Nat.ne_of_lt (blk_lt (g:=gb200) (o:=.cells #[.int .i64 a0_0,.slice A0_1 l0_1.length c0_1,.slice A0_2 l0_2.length c0_2,.slice A0_3 l0_3.length c0_3] 30 (0,0)) (qk_ BK200)) : gb200 ≠ gb201));have n6_:=mk_ ((by rw [hg];exact Nat.ne_of_gt (blk_lt (g:=gb200) (o:=.cells #[.int .i64 a0_0,.slice A0_1 l0_1.length c0_1,.slice A0_2 l0_2.length c0_2,.slice A0_3 l0_3.length c0_3] 30 (0,0)) (qk_ BK200)) : gb201 ≠ gb200));clear BK200 HB;have BK200:=n0_;have HB:=n1_;have BK201:=n2_;have GW201:=n3_;have GE201:=n4_;have NB200_201:=n5_;have NB201_200:=n6_;clear n0_ n1_ n2_ n3_ n4_ n5_ n6_ hb hbox hg;have hnb12:=NB200_201.out;have hnc12:=NB201_200.out;have hcz13_0 : w11.cell? ⟨gb200,0,none⟩ = some (.int .i64 a0_0):=(bc_ BK200.out 0).trans rfl;have hcz13_1 : w11.cell? ⟨gb200,1,none⟩ = some (.slice A0_1 l0_1.length c0_1):=(bc_ BK200.out 1).trans rfl;have hcz13_2 : w11.cell? ⟨gb200,2,none⟩ = some (.slice A0_2 l0_2.length c0_2):=(bc_ BK200.out 2).trans rfl;have hcz13_3 : w11.cell? ⟨gb200,3,none⟩ = some (.slice A0_3 l0_3.length c0_3):=(bc_ BK200.out 3).trans rfl;have hfz13_0:=bf_ BK200.out 0;have hfz13_1:=bf_ BK200.out 1;have hfz13_2:=bf_ BK200.out 2;have hfz13_3:=bf_ BK200.out 3;have hcz14_0 : w11.cell? ⟨gb201,0,none⟩ = some (.int .i64 a1_0):=(bc_ BK201.out 0).trans rfl;have hcz14_1 : w11.cell? ⟨gb201,1,none⟩ = some (.slice A1_1 l1_1.length c1_1):=(bc_ BK201.out 1).trans rfl;have hcz14_2 : w11.cell? ⟨gb201,2,none⟩ = some (.slice A1_2 l1_2.length c1_2):=(bc_ BK201.out 2).trans rfl;have hcz14_3 : w11.cell? ⟨gb201,3,none⟩ = some (.slice A1_3 l1_3.length c1_3):=(bc_ BK201.out 3).trans rfl;have hfz14_0:=bf_ BK201.out 0;have hfz14_1:=bf_ BK201.out 1;have hfz14_2:=bf_ BK201.out 2;have hfz14_3:=bf_ BK201.out 3)|((with_reducible refine gate_callee (f:=19) rfl ?_);refine goesL_ (some 14) rfl rfl Tryd.func19 (by kernel_rfl) rfl #[.slice A0_1 l0_1.length c0_1,.slice A1_1 l1_1.length c1_1] rfl qm_ ?_;(with_reducible refine (laws_eqCableS.calls k _ _ l0_1 _ _ l1_1 true _ ?side1 ?side2 ?side3 ?side4 A4.out).mono ?_);(case side1 => exact qn_ HR0_1 HB);(case side2 => exact HC0_1.out);(case side3 => exact qn_ HR1_1 HB);(case side4 => exact HC1_1.out);rintro e w15 ⟨rfl,hb⟩;refine ⟨_,rfl,?_⟩;have n0_:=mk_ (blk_below (g:=gb200) (o:=.cells #[.int .i64 a0_0,.slice A0_1 l0_1.length c0_1,.slice A0_2 l0_2.length c0_2,.slice A0_3 l0_3.length c0_3] 30 (0,0)) (qk_ BK200) hb);have n1_:=mk_ (blk_below (g:=gb201) (o:=.cells #[.int .i64 a1_0,.slice A1_1 l1_1.length c1_1,.slice A1_2 l1_2.length c1_2,.slice A1_3 l1_3.length c1_3] 30 (0,0)) (qk_ BK201) hb);have n2_:=mk_ (st_ (qd_ HB GE200 GE201) hb);clear BK200 BK201 HB;have BK200:=n0_;have BK201:=n1_;have HB:=n2_;clear n0_ n1_ n2_;(try clear hb);(try clear hb2);(try clear hk);(try clear hi);have hcz16_0 : w15.cell? ⟨gb200,0,none⟩ = some (.int .i64 a0_0):=(bc_ BK200.out 0).trans rfl;have hcz16_1 : w15.cell? ⟨gb200,1,none⟩ = some (.slice A0_1 l0_1.length c0_1):=(bc_ BK200.out 1).trans rfl;have hcz16_2 : w15.cell? ⟨gb200,2,none⟩ = some (.slice A0_2 l0_2.length c0_2):=(bc_ BK200.out 2).trans rfl;have hcz16_3 : w15.cell? ⟨gb200,3,none⟩ = some (.slice A0_3 l0_3.length c0_3):=(bc_ BK200.out 3).trans rfl;have hfz16_0:=bf_ BK200.out 0;have hfz16_1:=bf_ BK200.out 1;have hfz16_2:=bf_ BK200.out 2;have hfz16_3:=bf_ BK200.out 3;have hcz17_0 : w15.cell? ⟨gb201,0,none⟩ = some (.int .i64 a1_0):=(bc_ BK201.out 0).trans rfl;have hcz17_1 : w15.cell? ⟨gb201,1,none⟩ = some (.slice A1_1 l1_1.length c1_1):=(bc_ BK201.out 1).trans rfl;have hcz17_2 : w15.cell? ⟨gb201,2,none⟩ = some (.slice A1_2 l1_2.length c1_2):=(bc_ BK201.out 2).trans rfl;have hcz17_3 : w15.cell? ⟨gb201,3,none⟩ = some (.slice A1_3 l1_3.length c1_3):=(bc_ BK201.out 3).trans rfl;have hfz17_0:=bf_ BK201.out 0;have hfz17_1:=bf_ BK201.out 1;have hfz17_2:=bf_ BK201.out 2;have hfz17_3:=bf_ BK201.out 3)|((with_reducible refine gate_callee (f:=20) rfl ?_);refine goesL_ (some 20) rfl rfl Tryd.func20 (by kernel_rfl) rfl #[.slice A0_2 l0_2.length c0_2,.slice A1_2 l1_2.length c1_2] rfl qm_ ?_;(with_reducible refine (laws_eqIntS.calls k _ _ l0_2 _ _ l1_2 true _ ?side1 ?side2 ?side3 ?side4 A6.out).mono ?_);(case side1 => exact qn_ HR0_2 HB);(case side2 => exact HC0_2.out);(case side3 => exact qn_ HR1_2 HB);(case side4 => exact HC1_2.out);rintro e w' ⟨rfl,⟨nd,rfl⟩⟩;refine ⟨_,rfl,?_⟩)|((with_reducible refine gate_callee (f:=20) rfl ?_);refine goesL_ (some 26) rfl rfl Tryd.func20 (by kernel_rfl) rfl #[.slice A0_3 l0_3.length c0_3,.slice A1_3 l1_3.length c1_3] rfl qm_ ?_;(with_reducible refine (laws_eqIntS.calls k _ _ l0_3 _ _ l1_3 true _ ?side1 ?side2 ?side3 ?side4 A8.out).mono ?_);(case side1 => repeat (first|exact (cb_ HR0_3.out (qd_ HB GE200 GE201))|(with_reducible refine ca_ ?_ _)|(with_reducible refine cn_ ?_ _)|(with_reducible refine cd_ ?_)));(case side2 => exact HC0_3.out);(case side3 => repeat (first|exact (cb_ HR1_3.out (qd_ HB GE200 GE201))|(with_reducible refine ca_ ?_ _)|(with_reducible refine cn_ ?_ _)|(with_reducible refine cd_ ?_)));(case side4 => exact HC1_3.out);rintro e w' ⟨rfl,⟨nd,rfl⟩⟩;refine ⟨_,rfl,?_⟩))
     go_ret
     exact ⟨qe_,u2_ HB GE200 GE201⟩
    ·replace c9:=Bool.eq_false_iff.mpr c9
     subst c9
     have H1 : (some false) = some r:=by rw [if_neg (show ¬ (false = true) by decide)] at H;exact H
     clear H
     have H:=H1
     clear H1
     obtain rfl:=Option.some.inj H
     go_enter Tryd.func8,Tryd.ntmps8
     go_wp2_with (first|((with_reducible refine gate_dst (N:=2) rfl ?_);refine box_event ?hg (N:=2) ?hd (cs:=#[.int .i64 a0_0,.slice A0_1 l0_1.length c0_1,.slice A0_2 l0_2.length c0_2,.slice A0_3 l0_3.length c0_3]) (t:=30) ?hr ?_;(case hd => rfl);(case hg => rfl);(case hr => first|(go_simp;done)|(go_simp;rfl));intro gb200 hg w18 hbox hb;have n0_:=mk_ (st_ (qb_ HB) hb);have n1_:=mk_ (hbox);have n2_:=mk_ ((by rw [hg];exact (bz_ (qb_ HB)) : w.heap.size ≤ gb200));have n3_:=mk_ ((by rw [hg];exact (bz_ (qb_ HB)) : w.heap.size ≤ gb200));clear HB;have HB:=n0_;have BK200:=n1_;have GW200:=n2_;have GE200:=n3_;clear n0_ n1_ n2_ n3_ hb hbox hg)|((with_reducible refine gate_dst (N:=3) rfl ?_);refine box_event ?hg (N:=3) ?hd (cs:=#[.int .i64 a1_0,.slice A1_1 l1_1.length c1_1,.slice A1_2 l1_2.length c1_2,.slice A1_3 l1_3.length c1_3]) (t:=30) ?hr ?_;(case hd => rfl);(case hg => rfl);(case hr => first|(go_simp;done)|(go_simp;rfl));intro gb201 hg w19 hbox hb;have n0_:=mk_ (blk_below (g:=gb200) (o:=.cells #[.int .i64 a0_0,.slice A0_1 l0_1.length c0_1,.slice A0_2 l0_2.length c0_2,.slice A0_3 l0_3.length c0_3] 30 (0,0)) (qk_ BK200) hb);have n1_:=mk_ (st_ (qc_ HB GE200) hb);have n2_:=mk_ (hbox);have n3_:=mk_ ((by rw [hg];exact (bz_ (qc_ HB GE200)) : w.heap.size ≤ gb201));have n4_:=mk_ ((by rw [hg];exact (bz_ (qc_ HB GE200)) : w.heap.size ≤ gb201));have n5_:=mk_ ((by rw [hg];exact Nat.ne_of_lt (blk_lt (g:=gb200) (o:=.cells #[.int .i64 a0_0,.slice A0_1 l0_1.length c0_1,.slice A0_2 l0_2.length c0_2,.slice A0_3 l0_3.length c0_3] 30 (0,0)) (qk_ BK200)) : gb200 ≠ gb201));have n6_:=mk_ ((by rw [hg];exact Nat.ne_of_gt (blk_lt (g:=gb200) (o:=.cells #[.int .i64 a0_0,.slice A0_1 l0_1.length c0_1,.slice A0_2 l0_2.length c0_2,.slice A0_3 l0_3.length c0_3] 30 (0,0)) (qk_ BK200)) : gb201 ≠ gb200));clear BK200 HB;have BK200:=n0_;have HB:=n1_;have BK201:=n2_;have GW201:=n3_;have GE201:=n4_;have NB200_201:=n5_;have NB201_200:=n6_;clear n0_ n1_ n2_ n3_ n4_ n5_ n6_ hb hbox hg;have hnb20:=NB200_201.out;have hnc20:=NB201_200.out;have hcz21_0 : w19.cell? ⟨gb200,0,none⟩ = some (.int .i64 a0_0):=(bc_ BK200.out 0).trans rfl;have hcz21_1 : w19.cell? ⟨gb200,1,none⟩ = some (.slice A0_1 l0_1.length c0_1):=(bc_ BK200.out 1).trans rfl;have hcz21_2 : w19.cell? ⟨gb200,2,none⟩ = some (.slice A0_2 l0_2.length c0_2):=(bc_ BK200.out 2).trans rfl;have hcz21_3 : w19.cell? ⟨gb200,3,none⟩ = some (.slice A0_3 l0_3.length c0_3):=(bc_ BK200.out 3).trans rfl;have hfz21_0:=bf_ BK200.out 0;have hfz21_1:=bf_ BK200.out 1;have hfz21_2:=bf_ BK200.out 2;have hfz21_3:=bf_ BK200.out 3;have hcz22_0 : w19.cell? ⟨gb201,0,none⟩ = some (.int .i64 a1_0):=(bc_ BK201.out 0).trans rfl;have hcz22_1 : w19.cell? ⟨gb201,1,none⟩ = some (.slice A1_1 l1_1.length c1_1):=(bc_ BK201.out 1).trans rfl;have hcz22_2 : w19.cell? ⟨gb201,2,none⟩ = some (.slice A1_2 l1_2.length c1_2):=(bc_ BK201.out 2).trans rfl;have hcz22_3 : w19.cell? ⟨gb201,3,none⟩ = some (.slice A1_3 l1_3.length c1_3):=(bc_ BK201.out 3).trans rfl;have hfz22_0:=bf_ BK201.out 0;have hfz22_1:=bf_ BK201.out 1;have hfz22_2:=bf_ BK201.out 2;have hfz22_3:=bf_ BK201.out 3)|((with_reducible refine gate_callee (f:=19) rfl ?_);refine goesL_ (some 14) rfl rfl Tryd.func19 (by kernel_rfl) rfl #[.slice A0_1 l0_1.length c0_1,.slice A1_1 l1_1.length c1_1] rfl qm_ ?_;(with_reducible refine (laws_eqCableS.calls k _ _ l0_1 _ _ l1_1 true _ ?side1 ?side2 ?side3 ?side4 A4.out).mono ?_);(case side1 => exact qn_ HR0_1 HB);(case side2 => exact HC0_1.out);(case side3 => exact qn_ HR1_1 HB);(case side4 => exact HC1_1.out);rintro e w23 ⟨rfl,hb⟩;refine ⟨_,rfl,?_⟩;have n0_:=mk_ (blk_below (g:=gb200) (o:=.cells #[.int .i64 a0_0,.slice A0_1 l0_1.length c0_1,.slice A0_2 l0_2.length c0_2,.slice A0_3 l0_3.length c0_3] 30 (0,0)) (qk_ BK200) hb);have n1_:=mk_ (blk_below (g:=gb201) (o:=.cells #[.int .i64 a1_0,.slice A1_1 l1_1.length c1_1,.slice A1_2 l1_2.length c1_2,.slice A1_3 l1_3.length c1_3] 30 (0,0)) (qk_ BK201) hb);have n2_:=mk_ (st_ (qd_ HB GE200 GE201) hb);clear BK200 BK201 HB;have BK200:=n0_;have BK201:=n1_;have HB:=n2_;clear n0_ n1_ n2_;(try clear hb);(try clear hb2);(try clear hk);(try clear hi);have hcz24_0 : w23.cell? ⟨gb200,0,none⟩ = some (.int .i64 a0_0):=(bc_ BK200.out 0).trans rfl;have hcz24_1 : w23.cell? ⟨gb200,1,none⟩ = some (.slice A0_1 l0_1.length c0_1):=(bc_ BK200.out 1).trans rfl;have hcz24_2 : w23.cell? ⟨gb200,2,none⟩ = some (.slice A0_2 l0_2.length c0_2):=(bc_ BK200.out 2).trans rfl;have hcz24_3 : w23.cell? ⟨gb200,3,none⟩ = some (.slice A0_3 l0_3.length c0_3):=(bc_ BK200.out 3).trans rfl;have hfz24_0:=bf_ BK200.out 0;have hfz24_1:=bf_ BK200.out 1;have hfz24_2:=bf_ BK200.out 2;have hfz24_3:=bf_ BK200.out 3;have hcz25_0 : w23.cell? ⟨gb201,0,none⟩ = some (.int .i64 a1_0):=(bc_ BK201.out 0).trans rfl;have hcz25_1 : w23.cell? ⟨gb201,1,none⟩ = some (.slice A1_1 l1_1.length c1_1):=(bc_ BK201.out 1).trans rfl;have hcz25_2 : w23.cell? ⟨gb201,2,none⟩ = some (.slice A1_2 l1_2.length c1_2):=(bc_ BK201.out 2).trans rfl;have hcz25_3 : w23.cell? ⟨gb201,3,none⟩ = some (.slice A1_3 l1_3.length c1_3):=(bc_ BK201.out 3).trans rfl;have hfz25_0:=bf_ BK201.out 0;have hfz25_1:=bf_ BK201.out 1;have hfz25_2:=bf_ BK201.out 2;have hfz25_3:=bf_ BK201.out 3)|((with_reducible refine gate_callee (f:=20) rfl ?_);refine goesL_ (some 20) rfl rfl Tryd.func20 (by kernel_rfl) rfl #[.slice A0_2 l0_2.length c0_2,.slice A1_2 l1_2.length c1_2] rfl qm_ ?_;(with_reducible refine (laws_eqIntS.calls k _ _ l0_2 _ _ l1_2 true _ ?side1 ?side2 ?side3 ?side4 A6.out).mono ?_);(case side1 => exact qn_ HR0_2 HB);(case side2 => exact HC0_2.out);(case side3 => exact qn_ HR1_2 HB);(case side4 => exact HC1_2.out);rintro e w' ⟨rfl,⟨nd,rfl⟩⟩;refine ⟨_,rfl,?_⟩)|((with_reducible refine gate_callee (f:=20) rfl ?_);refine goesL_ (some 26) rfl rfl Tryd.func20 (by kernel_rfl) rfl #[.slice A0_3 l0_3.length c0_3,.slice A1_3 l1_3.length c1_3] rfl qm_ ?_;(with_reducible refine (laws_eqIntS.calls k _ _ l0_3 _ _ l1_3 false _ ?side1 ?side2 ?side3 ?side4 A8.out).mono ?_);(case side1 => repeat (first|exact (cb_ HR0_3.out (qd_ HB GE200 GE201))|(with_reducible refine ca_ ?_ _)|(with_reducible refine cn_ ?_ _)|(with_reducible refine cd_ ?_)));(case side2 => exact HC0_3.out);(case side3 => repeat (first|exact (cb_ HR1_3.out (qd_ HB GE200 GE201))|(with_reducible refine ca_ ?_ _)|(with_reducible refine cn_ ?_ _)|(with_reducible refine cd_ ?_)));(case side4 => exact HC1_3.out);rintro e w' ⟨rfl,⟨nd,rfl⟩⟩;refine ⟨_,rfl,?_⟩))
     go_ret
     exact ⟨qe_,u2_ HB GE200 GE201⟩
   ·replace c7:=Bool.eq_false_iff.mpr c7
    subst c7
    have H1 : (some false) = some r:=by rw [if_neg (show ¬ (false = true) by decide)] at H;exact H
    clear H
    have H:=H1
    clear H1
    obtain rfl:=Option.some.inj H
    go_enter Tryd.func8,Tryd.ntmps8
    go_wp2_with (first|((with_reducible refine gate_dst (N:=2) rfl ?_);refine box_event ?hg (N:=2) ?hd (cs:=#[.int .i64 a0_0,.slice A0_1 l0_1.length c0_1,.slice A0_2 l0_2.length c0_2,.slice A0_3 l0_3.length c0_3]) (t:=30) ?hr ?_;(case hd => rfl);(case hg => rfl);(case hr => first|(go_simp;done)|(go_simp;rfl));intro gb200 hg w26 hbox hb;have n0_:=mk_ (st_ (qb_ HB) hb);have n1_:=mk_ (hbox);have n2_:=mk_ ((by rw [hg];exact (bz_ (qb_ HB)) : w.heap.size ≤ gb200));have n3_:=mk_ ((by rw [hg];exact (bz_ (qb_ HB)) : w.heap.size ≤ gb200));clear HB;have HB:=n0_;have BK200:=n1_;have GW200:=n2_;have GE200:=n3_;clear n0_ n1_ n2_ n3_ hb hbox hg)|((with_reducible refine gate_dst (N:=3) rfl ?_);refine box_event ?hg (N:=3) ?hd (cs:=#[.int .i64 a1_0,.slice A1_1 l1_1.length c1_1,.slice A1_2 l1_2.length c1_2,.slice A1_3 l1_3.length c1_3]) (t:=30) ?hr ?_;(case hd => rfl);(case hg => rfl);(case hr => first|(go_simp;done)|(go_simp;rfl));intro gb201 hg w27 hbox hb;have n0_:=mk_ (blk_below (g:=gb200) (o:=.cells #[.int .i64 a0_0,.slice A0_1 l0_1.length c0_1,.slice A0_2 l0_2.length c0_2,.slice A0_3 l0_3.length c0_3] 30 (0,0)) (qk_ BK200) hb);have n1_:=mk_ (st_ (qc_ HB GE200) hb);have n2_:=mk_ (hbox);have n3_:=mk_ ((by rw [hg];exact (bz_ (qc_ HB GE200)) : w.heap.size ≤ gb201));have n4_:=mk_ ((by rw [hg];exact (bz_ (qc_ HB GE200)) : w.heap.size ≤ gb201));have n5_:=mk_ ((by rw [hg];exact Nat.ne_of_lt (blk_lt (g:=gb200) (o:=.cells #[.int .i64 a0_0,.slice A0_1 l0_1.length c0_1,.slice A0_2 l0_2.length c0_2,.slice A0_3 l0_3.length c0_3] 30 (0,0)) (qk_ BK200)) : gb200 ≠ gb201));have n6_:=mk_ ((by rw [hg];exact Nat.ne_of_gt (blk_lt (g:=gb200) (o:=.cells #[.int .i64 a0_0,.slice A0_1 l0_1.length c0_1,.slice A0_2 l0_2.length c0_2,.slice A0_3 l0_3.length c0_3] 30 (0,0)) (qk_ BK200)) : gb201 ≠ gb200));clear BK200 HB;have BK200:=n0_;have HB:=n1_;have BK201:=n2_;have GW201:=n3_;have GE201:=n4_;have NB200_201:=n5_;have NB201_200:=n6_;clear n0_ n1_ n2_ n3_ n4_ n5_ n6_ hb hbox hg;have hnb28:=NB200_201.out;have hnc28:=NB201_200.out;have hcz29_0 : w27.cell? ⟨gb200,0,none⟩ = some (.int .i64 a0_0):=(bc_ BK200.out 0).trans rfl;have hcz29_1 : w27.cell? ⟨gb200,1,none⟩ = some (.slice A0_1 l0_1.length c0_1):=(bc_ BK200.out 1).trans rfl;have hcz29_2 : w27.cell? ⟨gb200,2,none⟩ = some (.slice A0_2 l0_2.length c0_2):=(bc_ BK200.out 2).trans rfl;have hcz29_3 : w27.cell? ⟨gb200,3,none⟩ = some (.slice A0_3 l0_3.length c0_3):=(bc_ BK200.out 3).trans rfl;have hfz29_0:=bf_ BK200.out 0;have hfz29_1:=bf_ BK200.out 1;have hfz29_2:=bf_ BK200.out 2;have hfz29_3:=bf_ BK200.out 3;have hcz30_0 : w27.cell? ⟨gb201,0,none⟩ = some (.int .i64 a1_0):=(bc_ BK201.out 0).trans rfl;have hcz30_1 : w27.cell? ⟨gb201,1,none⟩ = some (.slice A1_1 l1_1.length c1_1):=(bc_ BK201.out 1).trans rfl;have hcz30_2 : w27.cell? ⟨gb201,2,none⟩ = some (.slice A1_2 l1_2.length c1_2):=(bc_ BK201.out 2).trans rfl;have hcz30_3 : w27.cell? ⟨gb201,3,none⟩ = some (.slice A1_3 l1_3.length c1_3):=(bc_ BK201.out 3).trans rfl;have hfz30_0:=bf_ BK201.out 0;have hfz30_1:=bf_ BK201.out 1;have hfz30_2:=bf_ BK201.out 2;have hfz30_3:=bf_ BK201.out 3)|((with_reducible refine gate_callee (f:=19) rfl ?_);refine goesL_ (some 14) rfl rfl Tryd.func19 (by kernel_rfl) rfl #[.slice A0_1 l0_1.length c0_1,.slice A1_1 l1_1.length c1_1] rfl qm_ ?_;(with_reducible refine (laws_eqCableS.calls k _ _ l0_1 _ _ l1_1 true _ ?side1 ?side2 ?side3 ?side4 A4.out).mono ?_);(case side1 => exact qn_ HR0_1 HB);(case side2 => exact HC0_1.out);(case side3 => exact qn_ HR1_1 HB);(case side4 => exact HC1_1.out);rintro e w31 ⟨rfl,hb⟩;refine ⟨_,rfl,?_⟩;have n0_:=mk_ (blk_below (g:=gb200) (o:=.cells #[.int .i64 a0_0,.slice A0_1 l0_1.length c0_1,.slice A0_2 l0_2.length c0_2,.slice A0_3 l0_3.length c0_3] 30 (0,0)) (qk_ BK200) hb);have n1_:=mk_ (blk_below (g:=gb201) (o:=.cells #[.int .i64 a1_0,.slice A1_1 l1_1.length c1_1,.slice A1_2 l1_2.length c1_2,.slice A1_3 l1_3.length c1_3] 30 (0,0)) (qk_ BK201) hb);have n2_:=mk_ (st_ (qd_ HB GE200 GE201) hb);clear BK200 BK201 HB;have BK200:=n0_;have BK201:=n1_;have HB:=n2_;clear n0_ n1_ n2_;(try clear hb);(try clear hb2);(try clear hk);(try clear hi);have hcz32_0 : w31.cell? ⟨gb200,0,none⟩ = some (.int .i64 a0_0):=(bc_ BK200.out 0).trans rfl;have hcz32_1 : w31.cell? ⟨gb200,1,none⟩ = some (.slice A0_1 l0_1.length c0_1):=(bc_ BK200.out 1).trans rfl;have hcz32_2 : w31.cell? ⟨gb200,2,none⟩ = some (.slice A0_2 l0_2.length c0_2):=(bc_ BK200.out 2).trans rfl;have hcz32_3 : w31.cell? ⟨gb200,3,none⟩ = some (.slice A0_3 l0_3.length c0_3):=(bc_ BK200.out 3).trans rfl;have hfz32_0:=bf_ BK200.out 0;have hfz32_1:=bf_ BK200.out 1;have hfz32_2:=bf_ BK200.out 2;have hfz32_3:=bf_ BK200.out 3;have hcz33_0 : w31.cell? ⟨gb201,0,none⟩ = some (.int .i64 a1_0):=(bc_ BK201.out 0).trans rfl;have hcz33_1 : w31.cell? ⟨gb201,1,none⟩ = some (.slice A1_1 l1_1.length c1_1):=(bc_ BK201.out 1).trans rfl;have hcz33_2 : w31.cell? ⟨gb201,2,none⟩ = some (.slice A1_2 l1_2.length c1_2):=(bc_ BK201.out 2).trans rfl;have hcz33_3 : w31.cell? ⟨gb201,3,none⟩ = some (.slice A1_3 l1_3.length c1_3):=(bc_ BK201.out 3).trans rfl;have hfz33_0:=bf_ BK201.out 0;have hfz33_1:=bf_ BK201.out 1;have hfz33_2:=bf_ BK201.out 2;have hfz33_3:=bf_ BK201.out 3)|((with_reducible refine gate_callee (f:=20) rfl ?_);refine goesL_ (some 20) rfl rfl Tryd.func20 (by kernel_rfl) rfl #[.slice A0_2 l0_2.length c0_2,.slice A1_2 l1_2.length c1_2] rfl qm_ ?_;(with_reducible refine (laws_eqIntS.calls k _ _ l0_2 _ _ l1_2 false _ ?side1 ?side2 ?side3 ?side4 A6.out).mono ?_);(case side1 => exact qn_ HR0_2 HB);(case side2 => exact HC0_2.out);(case side3 => exact qn_ HR1_2 HB);(case side4 => exact HC1_2.out);rintro e w' ⟨rfl,⟨nd,rfl⟩⟩;refine ⟨_,rfl,?_⟩))
    go_ret
    exact ⟨qe_,u2_ HB GE200 GE201⟩
  ·replace c5:=Bool.eq_false_iff.mpr c5
   subst c5
   have H1 : (some false) = some r:=by rw [if_neg (show ¬ (false = true) by decide)] at H;exact H
   clear H
   have H:=H1
   clear H1
   obtain rfl:=Option.some.inj H
   go_enter Tryd.func8,Tryd.ntmps8
   go_wp2_with (first|((with_reducible refine gate_dst (N:=2) rfl ?_);refine box_event ?hg (N:=2) ?hd (cs:=#[.int .i64 a0_0,.slice A0_1 l0_1.length c0_1,.slice A0_2 l0_2.length c0_2,.slice A0_3 l0_3.length c0_3]) (t:=30) ?hr ?_;(case hd => rfl);(case hg => rfl);(case hr => first|(go_simp;done)|(go_simp;rfl));intro gb200 hg w34 hbox hb;have n0_:=mk_ (st_ (qb_ HB) hb);have n1_:=mk_ (hbox);have n2_:=mk_ ((by rw [hg];exact (bz_ (qb_ HB)) : w.heap.size ≤ gb200));have n3_:=mk_ ((by rw [hg];exact (bz_ (qb_ HB)) : w.heap.size ≤ gb200));clear HB;have HB:=n0_;have BK200:=n1_;have GW200:=n2_;have GE200:=n3_;clear n0_ n1_ n2_ n3_ hb hbox hg)|((with_reducible refine gate_dst (N:=3) rfl ?_);refine box_event ?hg (N:=3) ?hd (cs:=#[.int .i64 a1_0,.slice A1_1 l1_1.length c1_1,.slice A1_2 l1_2.length c1_2,.slice A1_3 l1_3.length c1_3]) (t:=30) ?hr ?_;(case hd => rfl);(case hg => rfl);(case hr => first|(go_simp;done)|(go_simp;rfl));intro gb201 hg w35 hbox hb;have n0_:=mk_ (blk_below (g:=gb200) (o:=.cells #[.int .i64 a0_0,.slice A0_1 l0_1.length c0_1,.slice A0_2 l0_2.length c0_2,.slice A0_3 l0_3.length c0_3] 30 (0,0)) (qk_ BK200) hb);have n1_:=mk_ (st_ (qc_ HB GE200) hb);have n2_:=mk_ (hbox);have n3_:=mk_ ((by rw [hg];exact (bz_ (qc_ HB GE200)) : w.heap.size ≤ gb201));have n4_:=mk_ ((by rw [hg];exact (bz_ (qc_ HB GE200)) : w.heap.size ≤ gb201));have n5_:=mk_ ((by rw [hg];exact Nat.ne_of_lt (blk_lt (g:=gb200) (o:=.cells #[.int .i64 a0_0,.slice A0_1 l0_1.length c0_1,.slice A0_2 l0_2.length c0_2,.slice A0_3 l0_3.length c0_3] 30 (0,0)) (qk_ BK200)) : gb200 ≠ gb201));have n6_:=mk_ ((by rw [hg];exact Nat.ne_of_gt (blk_lt (g:=gb200) (o:=.cells #[.int .i64 a0_0,.slice A0_1 l0_1.length c0_1,.slice A0_2 l0_2.length c0_2,.slice A0_3 l0_3.length c0_3] 30 (0,0)) (qk_ BK200)) : gb201 ≠ gb200));clear BK200 HB;have BK200:=n0_;have HB:=n1_;have BK201:=n2_;have GW201:=n3_;have GE201:=n4_;have NB200_201:=n5_;have NB201_200:=n6_;clear n0_ n1_ n2_ n3_ n4_ n5_ n6_ hb hbox hg;have hnb36:=NB200_201.out;have hnc36:=NB201_200.out;have hcz37_0 : w35.cell? ⟨gb200,0,none⟩ = some (.int .i64 a0_0):=(bc_ BK200.out 0).trans rfl;have hcz37_1 : w35.cell? ⟨gb200,1,none⟩ = some (.slice A0_1 l0_1.length c0_1):=(bc_ BK200.out 1).trans rfl;have hcz37_2 : w35.cell? ⟨gb200,2,none⟩ = some (.slice A0_2 l0_2.length c0_2):=(bc_ BK200.out 2).trans rfl;have hcz37_3 : w35.cell? ⟨gb200,3,none⟩ = some (.slice A0_3 l0_3.length c0_3):=(bc_ BK200.out 3).trans rfl;have hfz37_0:=bf_ BK200.out 0;have hfz37_1:=bf_ BK200.out 1;have hfz37_2:=bf_ BK200.out 2;have hfz37_3:=bf_ BK200.out 3;have hcz38_0 : w35.cell? ⟨gb201,0,none⟩ = some (.int .i64 a1_0):=(bc_ BK201.out 0).trans rfl;have hcz38_1 : w35.cell? ⟨gb201,1,none⟩ = some (.slice A1_1 l1_1.length c1_1):=(bc_ BK201.out 1).trans rfl;have hcz38_2 : w35.cell? ⟨gb201,2,none⟩ = some (.slice A1_2 l1_2.length c1_2):=(bc_ BK201.out 2).trans rfl;have hcz38_3 : w35.cell? ⟨gb201,3,none⟩ = some (.slice A1_3 l1_3.length c1_3):=(bc_ BK201.out 3).trans rfl;have hfz38_0:=bf_ BK201.out 0;have hfz38_1:=bf_ BK201.out 1;have hfz38_2:=bf_ BK201.out 2;have hfz38_3:=bf_ BK201.out 3)|((with_reducible refine gate_callee (f:=19) rfl ?_);refine goesL_ (some 14) rfl rfl Tryd.func19 (by kernel_rfl) rfl #[.slice A0_1 l0_1.length c0_1,.slice A1_1 l1_1.length c1_1] rfl qm_ ?_;(with_reducible refine (laws_eqCableS.calls k _ _ l0_1 _ _ l1_1 false _ ?side1 ?side2 ?side3 ?side4 A4.out).mono ?_);(case side1 => exact qn_ HR0_1 HB);(case side2 => exact HC0_1.out);(case side3 => exact qn_ HR1_1 HB);(case side4 => exact HC1_1.out);rintro e w39 ⟨rfl,hb⟩;refine ⟨_,rfl,?_⟩;have n0_:=mk_ (blk_below (g:=gb200) (o:=.cells #[.int .i64 a0_0,.slice A0_1 l0_1.length c0_1,.slice A0_2 l0_2.length c0_2,.slice A0_3 l0_3.length c0_3] 30 (0,0)) (qk_ BK200) hb);have n1_:=mk_ (blk_below (g:=gb201) (o:=.cells #[.int .i64 a1_0,.slice A1_1 l1_1.length c1_1,.slice A1_2 l1_2.length c1_2,.slice A1_3 l1_3.length c1_3] 30 (0,0)) (qk_ BK201) hb);have n2_:=mk_ (st_ (qd_ HB GE200 GE201) hb);clear BK200 BK201 HB;have BK200:=n0_;have BK201:=n1_;have HB:=n2_;clear n0_ n1_ n2_;(try clear hb);(try clear hb2);(try clear hk);(try clear hi)))
   go_ret
   exact ⟨qe_,u2_ HB GE200 GE201⟩
 ·rw [if_neg c3] at H
  have c3b0 : (a0_0 == a1_0) = false:=beq_eq_false_iff_ne.mpr c3
  have c3b1 : (a0_0 != a1_0) = true:=bne_iff_ne.mpr c3
  obtain rfl:=Option.some.inj H
  go_enter Tryd.func8,Tryd.ntmps8
  go_wp2_with (first|((with_reducible refine gate_dst (N:=2) rfl ?_);refine box_event ?hg (N:=2) ?hd (cs:=#[.int .i64 a0_0,.slice A0_1 l0_1.length c0_1,.slice A0_2 l0_2.length c0_2,.slice A0_3 l0_3.length c0_3]) (t:=30) ?hr ?_;(case hd => rfl);(case hg => rfl);(case hr => first|(go_simp;done)|(go_simp;rfl));intro gb200 hg w40 hbox hb;have n0_:=mk_ (st_ (qb_ HB) hb);have n1_:=mk_ (hbox);have n2_:=mk_ ((by rw [hg];exact (bz_ (qb_ HB)) : w.heap.size ≤ gb200));have n3_:=mk_ ((by rw [hg];exact (bz_ (qb_ HB)) : w.heap.size ≤ gb200));clear HB;have HB:=n0_;have BK200:=n1_;have GW200:=n2_;have GE200:=n3_;clear n0_ n1_ n2_ n3_ hb hbox hg)|((with_reducible refine gate_dst (N:=3) rfl ?_);refine box_event ?hg (N:=3) ?hd (cs:=#[.int .i64 a1_0,.slice A1_1 l1_1.length c1_1,.slice A1_2 l1_2.length c1_2,.slice A1_3 l1_3.length c1_3]) (t:=30) ?hr ?_;(case hd => rfl);(case hg => rfl);(case hr => first|(go_simp;done)|(go_simp;rfl));intro gb201 hg w41 hbox hb;have n0_:=mk_ (blk_below (g:=gb200) (o:=.cells #[.int .i64 a0_0,.slice A0_1 l0_1.length c0_1,.slice A0_2 l0_2.length c0_2,.slice A0_3 l0_3.length c0_3] 30 (0,0)) (qk_ BK200) hb);have n1_:=mk_ (st_ (qc_ HB GE200) hb);have n2_:=mk_ (hbox);have n3_:=mk_ ((by rw [hg];exact (bz_ (qc_ HB GE200)) : w.heap.size ≤ gb201));have n4_:=mk_ ((by rw [hg];exact (bz_ (qc_ HB GE200)) : w.heap.size ≤ gb201));have n5_:=mk_ ((by rw [hg];exact Nat.ne_of_lt (blk_lt (g:=gb200) (o:=.cells #[.int .i64 a0_0,.slice A0_1 l0_1.length c0_1,.slice A0_2 l0_2.length c0_2,.slice A0_3 l0_3.length c0_3] 30 (0,0)) (qk_ BK200)) : gb200 ≠ gb201));have n6_:=mk_ ((by rw [hg];exact Nat.ne_of_gt (blk_lt (g:=gb200) (o:=.cells #[.int .i64 a0_0,.slice A0_1 l0_1.length c0_1,.slice A0_2 l0_2.length c0_2,.slice A0_3 l0_3.length c0_3] 30 (0,0)) (qk_ BK200)) : gb201 ≠ gb200));clear BK200 HB;have BK200:=n0_;have HB:=n1_;have BK201:=n2_;have GW201:=n3_;have GE201:=n4_;have NB200_201:=n5_;have NB201_200:=n6_;clear n0_ n1_ n2_ n3_ n4_ n5_ n6_ hb hbox hg;have hnb42:=NB200_201.out;have hnc42:=NB201_200.out;have hcz43_0 : w41.cell? ⟨gb200,0,none⟩ = some (.int .i64 a0_0):=(bc_ BK200.out 0).trans rfl;have hcz43_1 : w41.cell? ⟨gb200,1,none⟩ = some (.slice A0_1 l0_1.length c0_1):=(bc_ BK200.out 1).trans rfl;have hcz43_2 : w41.cell? ⟨gb200,2,none⟩ = some (.slice A0_2 l0_2.length c0_2):=(bc_ BK200.out 2).trans rfl;have hcz43_3 : w41.cell? ⟨gb200,3,none⟩ = some (.slice A0_3 l0_3.length c0_3):=(bc_ BK200.out 3).trans rfl;have hfz43_0:=bf_ BK200.out 0;have hfz43_1:=bf_ BK200.out 1;have hfz43_2:=bf_ BK200.out 2;have hfz43_3:=bf_ BK200.out 3;have hcz44_0 : w41.cell? ⟨gb201,0,none⟩ = some (.int .i64 a1_0):=(bc_ BK201.out 0).trans rfl;have hcz44_1 : w41.cell? ⟨gb201,1,none⟩ = some (.slice A1_1 l1_1.length c1_1):=(bc_ BK201.out 1).trans rfl;have hcz44_2 : w41.cell? ⟨gb201,2,none⟩ = some (.slice A1_2 l1_2.length c1_2):=(bc_ BK201.out 2).trans rfl;have hcz44_3 : w41.cell? ⟨gb201,3,none⟩ = some (.slice A1_3 l1_3.length c1_3):=(bc_ BK201.out 3).trans rfl;have hfz44_0:=bf_ BK201.out 0;have hfz44_1:=bf_ BK201.out 1;have hfz44_2:=bf_ BK201.out 2;have hfz44_3:=bf_ BK201.out 3))
  go_ret
  exact ⟨qe_,u2_ HB GE200 GE201⟩

-- LIB rowopen
/-- What reads as data of a type is of a kind; its lengths are a slice's, its numbers are of their kinds. -/
structure Opn {α : Type} (P : Program) (d : Kd α) (t : TypeId) (wf : α → Prop) : Prop where
  out : ∀ {H : Type} (enc : TypeId × Value → H) (w : World) (fuel : Nat) (cs : List Value) (x : DataW H × List MemPlace),DataW.trod enc P w 0 (fun _ => true) true fuel t cs = some x → ∃ a,d.K w a cs ∧ wf a
/-- The same of a struct's field, or of some fields in line, from a cell on. -/
structure OpnF {α : Type} (P : Program) (d : Kd α) (fs : Array Field) (off : Nat) (wf : α → Prop) : Prop where
  out : ∀ {H : Type} (enc : TypeId × Value → H) (w : World) (n : Nat) (cs : List Value) (xs : List (DataW H × List MemPlace)),xs.length = fs.size →
    (∀ (i : Nat) (f : Field),fs[i]? = some f → DataW.trod enc P w 0 (fun _ => true) true n f.type ((cs.drop f.offset).take (P.cellsOf f.type)) = xs[i]?) → ∃ a,d.K w a ((cs.drop off).take d.sz) ∧ wf a
theorem opn_int {P : Program} {t : TypeId} {k : IntKind} (ht : P.underlying t = some (.int k)) : Opn P (Kd.int k) t (fun n => (Lit.int k n).wf = true):=by
  constructor
  intro H enc w fuel cs x h
  obtain ⟨n,rfl,_,hw⟩:=DataW.trod_int ht h
  exact ⟨n,rfl,hw⟩
theorem opn_slice {α : Type} {P : Program} {d : Kd α} {t e : TypeId} {wf : α → Prop} (ht : P.underlying t = some (.slice e)) (hc : P.cellsOf e = d.sz) (h : Opn P d e wf) : Opn P (Kd.slice e d) t (fun l => l.length ≤ maxLen ∧ ∀ x ∈ l,wf x):=by
  constructor
  intro H enc w fuel cs x hx
  rcases Go.Deep.open_slice ht hx with ⟨rfl,_⟩ | ⟨a,len,cap,m,n,D,Pl,rfl,_,hl,hm,hmm,_,hel⟩
  · exact ⟨[],⟨none,0,rfl,Nat.le_refl _,Kd.C_nil d w⟩,by simp,by simp⟩
  · have hlm : len ≤ m:=by rw [hmm];simp;exact hl
    have hch : ∀ i : Fin len,∃ p : α,∃ c,w.cells? 0 (a.add (i.1 * d.sz)) d.sz = some c ∧ d.K w p c ∧ wf p:=by
      intro i
      obtain ⟨c,h1,h2⟩:=hel i.1 (by omega)
      obtain ⟨p,h3,h4⟩:=h.out enc w n c _ h2
      rw [hc] at h1
      exact ⟨p,c,h1,h3,h4⟩
    obtain ⟨f,hf⟩ : ∃ f : Fin len → α,∀ i : Fin len,∃ c,w.cells? 0 (a.add (i.1 * d.sz)) d.sz = some c ∧ d.K w (f i) c ∧ wf (f i):=⟨fun i => Classical.choose (hch i),fun i => Classical.choose_spec (hch i)⟩
    have hlen : (List.ofFn f).length = len:=List.length_ofFn
    refine ⟨List.ofFn f,⟨some a,cap,by rw [hlen],by omega,hlen.symm ▸ rfl,?_,fun hn => ⟨a,rfl,?_⟩⟩,by rw [hlen];omega,?_⟩
    · rw [hlen];unfold maxLen at hm;omega
    · intro j p hj
      have hjl : j < len:=by rw [← hlen];exact (List.getElem?_eq_some_iff.1 hj).1
      obtain ⟨c,h1,h2,_⟩:=hf ⟨j,hjl⟩
      obtain ⟨_,h3,h4⟩:=World.cells?_some h1
      rw [List.getElem?_ofFn,dif_pos hjl] at hj
      injection hj with hj
      rw [← hj]
      refine ⟨c,h3,h2,fun i u hu => ?_⟩
      have hi : i < d.sz:=by rw [← h3];exact (List.getElem?_eq_some_iff.1 hu).1
      have:=h4 i hi
      rw [hu] at this
      rw [← this,Addr.add_add]
    · intro p hp
      obtain ⟨i,rfl⟩:=(List.mem_ofFn).1 hp
      obtain ⟨_,_,_,hw⟩:=hf i
      exact hw
theorem opnF_field {α : Type} {P : Program} {d : Kd α} {fs : Array Field} {wf : α → Prop} {off : Nat} (j : Nat) (f : Field) (hf : fs[j]? = some f) (ho : f.offset = off) (hc : P.cellsOf f.type = d.sz) (h : Opn P d f.type wf) : OpnF P d fs off wf:=by
  subst ho
  constructor
  intro H enc w n cs xs hl hx
  have hj : j < fs.size:=(Array.getElem?_eq_some_iff.1 hf).1
  have h1:=hx j f hf
  rw [List.getElem?_eq_getElem (by omega),hc] at h1
  exact h.out enc w n _ _ h1
theorem opnF_pair {α β : Type} {P : Program} {a : Kd α} {b : Kd β} {fs : Array Field} {off : Nat} {wa : α → Prop} {wb : β → Prop} (ha : OpnF P a fs off wa) (hb : OpnF P b fs (off + a.sz) wb) : OpnF P (Kd.pair a b) fs off (fun p => wa p.1 ∧ wb p.2):=by
  constructor
  intro H enc w n cs xs hl hx
  obtain ⟨p,h1,h2⟩:=ha.out enc w n cs xs hl hx
  obtain ⟨q,h3,h4⟩:=hb.out enc w n cs xs hl hx
  refine ⟨(p,q),⟨_,_,?_,h1,h3⟩,h2,h4⟩
  show (cs.drop off).take (a.sz + b.sz) = _
  rw [List.take_add,List.drop_drop]
theorem opn_struct {α β : Type} {P : Program} {d : Kd α} {t : TypeId} {fs : Array Field} {wf : α → Prop} (f : β → α) (g : α → β) (hg : ∀ a,f (g a) = a) (ht : P.underlying t = some (.struct fs)) (hc : P.cellsOf t = d.sz) (h : OpnF P d fs 0 wf) : Opn P (Kd.iso d f) t (fun x => wf (f x)):=by
  constructor
  intro H enc w fuel cs x hx
  obtain ⟨xs,n,_,_,hl,hlen,hf⟩:=DataW.trod_struct ht hx
  obtain ⟨a,h1,h2⟩:=h.out enc w n cs xs hlen hf
  rw [List.drop_zero,List.take_of_length_le (by omega)] at h1
  refine ⟨g a,?_,?_⟩
  · show d.K w (f (g a)) cs
    rw [hg];exact h1
  · show wf (f (g a))
    rw [hg];exact h2
/-- A parameter that is a struct. -/
theorem open_aggK {α : Type} {P : Program} {d : Kd α} {t : TypeId} {wf : α → Prop} {H : Type} {enc : TypeId × Value → H} {w : World} {cs : Array Value} {dd : DataW H} {p : List MemPlace} (h : Opn P d t wf) (hx : DataW.Trod enc P w 0 (fun _ => true) true t (.agg cs) dd p) : ∃ x : α,d.K w x cs.toList ∧ wf x:=by
  obtain ⟨fuel,hf⟩:=hx
  exact h.out enc w fuel _ _ hf

-- LIB opnT58
theorem opnT58 : Opn Tryd.prog k58 58 (fun x => ((Lit.int .i64 x.f0).wf = true ∧ ((Lit.int .i64 x.f1).wf = true ∧ (Lit.int .i64 x.f2).wf = true))):=by
  have h:=opn_struct (P:=Tryd.prog) (d:=(Kd.pair (Kd.int .i64) (Kd.pair (Kd.int .i64) (Kd.int .i64)))) (t:=58) (fun x : S58 => (x.f0,x.f1,x.f2)) (fun p => ⟨p.1,p.2.1,p.2.2⟩) (fun _ => rfl) Tryd.underlying58 (by kernel_rfl) (opnF_pair (opnF_field 0 _ rfl rfl (by kernel_rfl) (opn_int (P:=Tryd.prog) (t:=3) (k:=.i64) (by kernel_rfl))) (opnF_pair (opnF_field 1 _ rfl rfl (by kernel_rfl) (opn_int (P:=Tryd.prog) (t:=3) (k:=.i64) (by kernel_rfl))) (opnF_field 2 _ rfl rfl (by kernel_rfl) (opn_int (P:=Tryd.prog) (t:=3) (k:=.i64) (by kernel_rfl)))))
  exact h

-- LIB opnT25
theorem opnT25 : Opn Tryd.prog k25 25 (fun x => ((Lit.int .i64 x.f0).wf = true ∧ ((x.f1.length ≤ maxLen ∧ ∀ y0 ∈ x.f1,((Lit.int .i64 y0.f0).wf = true ∧ ((Lit.int .i64 y0.f1).wf = true ∧ (Lit.int .i64 y0.f2).wf = true))) ∧ ((x.f2.length ≤ maxLen ∧ ∀ y0 ∈ x.f2,(Lit.int .i64 y0).wf = true) ∧ (x.f3.length ≤ maxLen ∧ ∀ y0 ∈ x.f3,(Lit.int .i64 y0).wf = true))))):=by
  have h:=opn_struct (P:=Tryd.prog) (d:=(Kd.pair (Kd.int .i64) (Kd.pair (Kd.slice 58 k58) (Kd.pair (Kd.slice 3 (Kd.int .i64)) (Kd.slice 3 (Kd.int .i64)))))) (t:=25) (fun x : S25 => (x.f0,x.f1,x.f2,x.f3)) (fun p => ⟨p.1,p.2.1,p.2.2.1,p.2.2.2⟩) (fun _ => rfl) Tryd.underlying25 (by kernel_rfl) (opnF_pair (opnF_field 0 _ rfl rfl (by kernel_rfl) (opn_int (P:=Tryd.prog) (t:=3) (k:=.i64) (by kernel_rfl))) (opnF_pair (opnF_field 1 _ rfl rfl (by kernel_rfl) (opn_slice (P:=Tryd.prog) (t:=22) (e:=58) (by kernel_rfl) (by kernel_rfl) opnT58)) (opnF_pair (opnF_field 2 _ rfl rfl (by kernel_rfl) (opn_slice (P:=Tryd.prog) (t:=23) (e:=3) (by kernel_rfl) (by kernel_rfl) (opn_int (P:=Tryd.prog) (t:=3) (k:=.i64) (by kernel_rfl)))) (opnF_field 3 _ rfl rfl (by kernel_rfl) (opn_slice (P:=Tryd.prog) (t:=23) (e:=3) (by kernel_rfl) (by kernel_rfl) (opn_int (P:=Tryd.prog) (t:=3) (k:=.i64) (by kernel_rfl)))))))
  exact h

/-! ### laws_FnExactNetText: function 3 -/
def laws_FnExactNetText.f (k : Nat) (a0_0 : Int) (l0_1 : List (S58)) (l0_2 : List Int) (l0_3 : List Int) : Option (Bool):=(laws_szNet.f a0_0 l0_1 l0_2 l0_3 1048576).bind fun t206 => (if t206 < 0 then (some true) else ((laws_toNet.f k a0_0 l0_1 l0_2 l0_3).bind fun bt207 => ((spec_NetText.f k bt207.1 bt207.2.1 bt207.2.2.1 bt207.2.2.2).bind fun t217 => ((laws_toNet.f k a0_0 l0_1 l0_2 l0_3).bind fun bt218 => ((impl_NetText.f bt218.1 bt218.2.1 bt218.2.2.1 bt218.2.2.2).bind fun t229 => (if t229.toList = t217.toList then ((laws_toNet.f k a0_0 l0_1 l0_2 l0_3).bind fun bt230 => ((laws_eqNet.f k bt218.1 bt218.2.1 bt218.2.2.1 bt218.2.2.2 bt230.1 bt230.2.1 bt230.2.2.1 bt230.2.2.2).bind fun t240 => (if t240 = true then (some true) else (some false)))) else (some false)))))))
theorem laws_FnExactNetText.mono : ∀ a0 a1 a2 a3 k,LeO (laws_FnExactNetText.f k a0 a1 a2 a3) (laws_FnExactNetText.f (k + 1) a0 a1 a2 a3):=by
 intro a0 a1 a2 a3 k
 unfold laws_FnExactNetText.f
 repeat' first
   | (with_reducible exact laws_eqNet.mono _ _ _ _ _ _ _ _ _)
   | (with_reducible exact laws_toNet.mono _ _ _ _ _)
   | (with_reducible exact spec_NetText.mono _ _ _ _ _)
   | (with_reducible exact LeO.refl _)
   | (with_reducible exact LeO.none _)
   | (with_reducible refine LeO.ite ?_ ?_)
   | (with_reducible refine LeO.bind ?_ (fun _ => ?_))
   | exact laws_eqNet.mono _ _ _ _ _ _ _ _ _
   | exact laws_toNet.mono _ _ _ _ _
   | exact spec_NetText.mono _ _ _ _ _
   | exact LeO.none _
   | refine LeO.ite ?_ ?_
   | refine LeO.bind ?_ (fun _ => ?_)
set_option maxHeartbeats 8000000 in
set_option maxRecDepth 100000 in
theorem laws_FnExactNetText.calls (k : Nat) (a0_0 : Int) (A0_1 : Option Addr) (c0_1 : Nat) (l0_1 : List (S58)) (A0_2 : Option Addr) (c0_2 : Nat) (l0_2 : List Int) (A0_3 : Option Addr) (c0_3 : Nat) (l0_3 : List Int) (r : Bool) (w : World) (hr0_1 : Kd.C k58 w A0_1 l0_1.length l0_1) (hc0_1 : l0_1.length ≤ c0_1) (hr0_2 : Kd.C (Kd.int .i64) w A0_2 l0_2.length l0_2) (hc0_2 : l0_2.length ≤ c0_2) (hr0_3 : Kd.C (Kd.int .i64) w A0_3 l0_3.length l0_3) (hc0_3 : l0_3.length ≤ c0_3) (h : laws_FnExactNetText.f k a0_0 l0_1 l0_2 l0_3 = some r) :
  Calls Tryd.prog 3 #[.agg #[.int .i64 a0_0,.slice A0_1 l0_1.length c0_1,.slice A0_2 l0_2.length c0_2,.slice A0_3 l0_3.length c0_3]] w fun e w' => e = .returned (.bool r) ∧ Below w.heap.size w w':=by
 have hu25:=Tryd.underlying25
 have hu30:=Tryd.underlying30
 have HR0_1:=mk_ hr0_1
 have HC0_1:=mk_ hc0_1
 clear hr0_1 hc0_1
 have HR0_2:=mk_ hr0_2
 have HC0_2:=mk_ hc0_2
 clear hr0_2 hc0_2
 have HR0_3:=mk_ hr0_3
 have HC0_3:=mk_ hc0_3
 clear hr0_3 hc0_3
 have HB:=mk_ (Below.refl w.heap.size w)
 have H : ((laws_szNet.f a0_0 l0_1 l0_2 l0_3 1048576).bind fun t206 => (if t206 < 0 then (some true) else ((laws_toNet.f k a0_0 l0_1 l0_2 l0_3).bind fun bt207 => ((spec_NetText.f k bt207.1 bt207.2.1 bt207.2.2.1 bt207.2.2.2).bind fun t217 => ((laws_toNet.f k a0_0 l0_1 l0_2 l0_3).bind fun bt218 => ((impl_NetText.f bt218.1 bt218.2.1 bt218.2.2.1 bt218.2.2.2).bind fun t229 => (if t229.toList = t217.toList then ((laws_toNet.f k a0_0 l0_1 l0_2 l0_3).bind fun bt230 => ((laws_eqNet.f k bt218.1 bt218.2.1 bt218.2.2.1 bt218.2.2.2 bt230.1 bt230.2.1 bt230.2.2.1 bt230.2.2.2).bind fun t240 => (if t240 = true then (some true) else (some false)))) else (some false)))))))) = some r:=h
 clear h
 replace H:=Option.bind_eq_some_iff.mp H
 obtain ⟨t206,A20,H⟩:=H
 replace H : (if t206 < 0 then (some true) else ((laws_toNet.f k a0_0 l0_1 l0_2 l0_3).bind fun bt207 => ((spec_NetText.f k bt207.1 bt207.2.1 bt207.2.2.1 bt207.2.2.2).bind fun t217 => ((laws_toNet.f k a0_0 l0_1 l0_2 l0_3).bind fun bt218 => ((impl_NetText.f bt218.1 bt218.2.1 bt218.2.2.1 bt218.2.2.2).bind fun t229 => (if t229.toList = t217.toList then ((laws_toNet.f k a0_0 l0_1 l0_2 l0_3).bind fun bt230 => ((laws_eqNet.f k bt218.1 bt218.2.1 bt218.2.2.1 bt218.2.2.2 bt230.1 bt230.2.1 bt230.2.2.1 bt230.2.2.2).bind fun t240 => (if t240 = true then (some true) else (some false)))) else (some false))))))) = some r:=H
 have A2:=mk_ A20
 clear A20
 by_cases c3 : t206 < 0
 ·rw [if_pos c3] at H
  have c3b0 : decide (t206 < 0) = true:=decide_eq_true c3
  clear c3
  obtain rfl:=Option.some.inj H
  go_enter Tryd.func3,Tryd.ntmps3
  go_wp2_with (first|((with_reducible refine gate_dst (N:=1) rfl ?_);refine box_event ?hg (N:=1) ?hd (cs:=#[.int .i64 a0_0,.slice A0_1 l0_1.length c0_1,.slice A0_2 l0_2.length c0_2,.slice A0_3 l0_3.length c0_3]) (t:=25) ?hr ?_;(case hd => rfl);(case hg => rfl);(case hr => first|(go_simp;done)|(go_simp;rfl));intro gb205 hg w4 hbox hb;have n0_:=mk_ (st_ (qb_ HB) hb);have n1_:=mk_ (hbox);have n2_:=mk_ ((by rw [hg];exact (bz_ (qb_ HB)) : w.heap.size ≤ gb205));have n3_:=mk_ ((by rw [hg];exact (bz_ (qb_ HB)) : w.heap.size ≤ gb205));clear HB;have HB:=n0_;have BK205:=n1_;have GW205:=n2_;have GE205:=n3_;clear n0_ n1_ n2_ n3_ hb hbox hg;have hcz5_0 : w4.cell? ⟨gb205,0,none⟩ = some (.int .i64 a0_0):=(bc_ BK205.out 0).trans rfl;have hcz5_1 : w4.cell? ⟨gb205,1,none⟩ = some (.slice A0_1 l0_1.length c0_1):=(bc_ BK205.out 1).trans rfl;have hcz5_2 : w4.cell? ⟨gb205,2,none⟩ = some (.slice A0_2 l0_2.length c0_2):=(bc_ BK205.out 2).trans rfl;have hcz5_3 : w4.cell? ⟨gb205,3,none⟩ = some (.slice A0_3 l0_3.length c0_3):=(bc_ BK205.out 3).trans rfl;have hfz5_0:=bf_ BK205.out 0;have hfz5_1:=bf_ BK205.out 1;have hfz5_2:=bf_ BK205.out 2;have hfz5_3:=bf_ BK205.out 3)|((with_reducible refine gate_callee (f:=4) rfl ?_);refine goesL_ (some 9) rfl rfl Tryd.func4 (by kernel_rfl) rfl #[.agg #[.int .i64 a0_0,.slice A0_1 l0_1.length c0_1,.slice A0_2 l0_2.length c0_2,.slice A0_3 l0_3.length c0_3],.int .i64 1048576] rfl qm_ ?_;(with_reducible refine (laws_szNet.calls a0_0 _ _ l0_1 _ _ l0_2 _ _ l0_3 1048576 t206 _ ?side1 ?side2 ?side3 ?side4 ?side5 ?side6 A2.out).mono ?_);(case side1 => exact qn_ HR0_1 HB);(case side2 => exact HC0_1.out);(case side3 => exact qn_ HR0_2 HB);(case side4 => exact HC0_2.out);(case side5 => exact qn_ HR0_3 HB);(case side6 => exact HC0_3.out);rintro e w6 ⟨rfl,hb⟩;refine ⟨_,rfl,?_⟩;have n0_:=mk_ (blk_below (g:=gb205) (o:=.cells #[.int .i64 a0_0,.slice A0_1 l0_1.length c0_1,.slice A0_2 l0_2.length c0_2,.slice A0_3 l0_3.length c0_3] 25 (0,0)) (qk_ BK205) hb);have n1_:=mk_ (st_ (qc_ HB GE205) hb);clear BK205 HB;have BK205:=n0_;have HB:=n1_;clear n0_ n1_;(try clear hb);(try clear hb2);(try clear hk);(try clear hi)))
  go_ret
  exact ⟨qe_,u0_ HB GE205⟩
 ·rw [if_neg c3] at H
  have c3b0 : decide (t206 < 0) = false:=decide_eq_false c3
  clear c3
  replace H:=Option.bind_eq_some_iff.mp H
  obtain ⟨⟨t207,t208,t211,t214⟩,A70,H⟩:=H
  replace H : ((spec_NetText.f k t207 t208 t211 t214).bind fun t217 => ((laws_toNet.f k a0_0 l0_1 l0_2 l0_3).bind fun bt218 => ((impl_NetText.f bt218.1 bt218.2.1 bt218.2.2.1 bt218.2.2.2).bind fun t229 => (if t229.toList = t217.toList then ((laws_toNet.f k a0_0 l0_1 l0_2 l0_3).bind fun bt230 => ((laws_eqNet.f k bt218.1 bt218.2.1 bt218.2.2.1 bt218.2.2.2 bt230.1 bt230.2.1 bt230.2.2.1 bt230.2.2.2).bind fun t240 => (if t240 = true then (some true) else (some false)))) else (some false))))) = some r:=H
  have A7:=mk_ A70
  clear A70
  replace H:=Option.bind_eq_some_iff.mp H
  obtain ⟨t217,A80,H⟩:=H
  replace H : ((laws_toNet.f k a0_0 l0_1 l0_2 l0_3).bind fun bt218 => ((impl_NetText.f bt218.1 bt218.2.1 bt218.2.2.1 bt218.2.2.2).bind fun t229 => (if t229.toList = t217.toList then ((laws_toNet.f k a0_0 l0_1 l0_2 l0_3).bind fun bt230 => ((laws_eqNet.f k bt218.1 bt218.2.1 bt218.2.2.1 bt218.2.2.2 bt230.1 bt230.2.1 bt230.2.2.1 bt230.2.2.2).bind fun t240 => (if t240 = true then (some true) else (some false)))) else (some false)))) = some r:=H
  have A8:=mk_ A80
  clear A80
  replace H:=Option.bind_eq_some_iff.mp H
  obtain ⟨⟨t218,t219,t222,t225⟩,A90,H⟩:=H
  replace H : ((impl_NetText.f t218 t219 t222 t225).bind fun t229 => (if t229.toList = t217.toList then ((laws_toNet.f k a0_0 l0_1 l0_2 l0_3).bind fun bt230 => ((laws_eqNet.f k t218 t219 t222 t225 bt230.1 bt230.2.1 bt230.2.2.1 bt230.2.2.2).bind fun t240 => (if t240 = true then (some true) else (some false)))) else (some false))) = some r:=H
  have A9:=mk_ A90
  clear A90
  replace H:=Option.bind_eq_some_iff.mp H
  obtain ⟨t229,A100,H⟩:=H
  replace H : (if t229.toList = t217.toList then ((laws_toNet.f k a0_0 l0_1 l0_2 l0_3).bind fun bt230 => ((laws_eqNet.f k t218 t219 t222 t225 bt230.1 bt230.2.1 bt230.2.2.1 bt230.2.2.2).bind fun t240 => (if t240 = true then (some true) else (some false)))) else (some false)) = some r:=H
  have A10:=mk_ A100
  clear A100
  by_cases c11 : t229.toList = t217.toList
  ·rw [if_pos c11] at H
   have c11b0 : (t229.toList == t217.toList) = true:=beq_iff_eq.mpr c11
   have c11b1 : (t229.toList != t217.toList) = false:=bne_eq_false_iff_eq.mpr c11
   clear c11
   replace H:=Option.bind_eq_some_iff.mp H
   obtain ⟨⟨t230,t231,t234,t237⟩,A120,H⟩:=H
   replace H : ((laws_eqNet.f k t218 t219 t222 t225 t230 t231 t234 t237).bind fun t240 => (if t240 = true then (some true) else (some false))) = some r:=H
   have A12:=mk_ A120
   clear A120
   replace H:=Option.bind_eq_some_iff.mp H
   obtain ⟨t240,A130,H⟩:=H
   replace H : (if t240 = true then (some true) else (some false)) = some r:=H
   have A13:=mk_ A130
   clear A130
   by_cases c14 : t240 = true
   ·subst c14
    have H1 : (some true) = some r:=by rw [if_pos rfl] at H;exact H
    clear H
    have H:=H1
    clear H1
    obtain rfl:=Option.some.inj H
    go_enter Tryd.func3,Tryd.ntmps3
    try go_wp2_with (first|((with_reducible refine gate_dst (N:=1) rfl ?_);refine box_event ?hg (N:=1) ?hd (cs:=#[.int .i64 a0_0,.slice A0_1 l0_1.length c0_1,.slice A0_2 l0_2.length c0_2,.slice A0_3 l0_3.length c0_3]) (t:=25) ?hr ?_;(case hd => rfl);(case hg => rfl);(case hr => first|(go_simp;done)|(go_simp;rfl));intro gb205 hg w15 hbox hb;have n0_:=mk_ (st_ (qb_ HB) hb);have n1_:=mk_ (hbox);have n2_:=mk_ ((by rw [hg];exact (bz_ (qb_ HB)) : w.heap.size ≤ gb205));have n3_:=mk_ ((by rw [hg];exact (bz_ (qb_ HB)) : w.heap.size ≤ gb205));clear HB;have HB:=n0_;have BK205:=n1_;have GW205:=n2_;have GE205:=n3_;clear n0_ n1_ n2_ n3_ hb hbox hg;have hcz16_0 : w15.cell? ⟨gb205,0,none⟩ = some (.int .i64 a0_0):=(bc_ BK205.out 0).trans rfl;have hcz16_1 : w15.cell? ⟨gb205,1,none⟩ = some (.slice A0_1 l0_1.length c0_1):=(bc_ BK205.out 1).trans rfl;have hcz16_2 : w15.cell? ⟨gb205,2,none⟩ = some (.slice A0_2 l0_2.length c0_2):=(bc_ BK205.out 2).trans rfl;have hcz16_3 : w15.cell? ⟨gb205,3,none⟩ = some (.slice A0_3 l0_3.length c0_3):=(bc_ BK205.out 3).trans rfl;have hfz16_0:=bf_ BK205.out 0;have hfz16_1:=bf_ BK205.out 1;have hfz16_2:=bf_ BK205.out 2;have hfz16_3:=bf_ BK205.out 3)|((with_reducible refine gate_callee (f:=4) rfl ?_);refine goesL_ (some 9) rfl rfl Tryd.func4 (by kernel_rfl) rfl #[.agg #[.int .i64 a0_0,.slice A0_1 l0_1.length c0_1,.slice A0_2 l0_2.length c0_2,.slice A0_3 l0_3.length c0_3],.int .i64 1048576] rfl qm_ ?_;(with_reducible refine (laws_szNet.calls a0_0 _ _ l0_1 _ _ l0_2 _ _ l0_3 1048576 t206 _ ?side1 ?side2 ?side3 ?side4 ?side5 ?side6 A2.out).mono ?_);(case side1 => exact qn_ HR0_1 HB);(case side2 => exact HC0_1.out);(case side3 => exact qn_ HR0_2 HB);(case side4 => exact HC0_2.out);(case side5 => exact qn_ HR0_3 HB);(case side6 => exact HC0_3.out);rintro e w17 ⟨rfl,hb⟩;refine ⟨_,rfl,?_⟩;have n0_:=mk_ (blk_below (g:=gb205) (o:=.cells #[.int .i64 a0_0,.slice A0_1 l0_1.length c0_1,.slice A0_2 l0_2.length c0_2,.slice A0_3 l0_3.length c0_3] 25 (0,0)) (qk_ BK205) hb);have n1_:=mk_ (st_ (qc_ HB GE205) hb);clear BK205 HB;have BK205:=n0_;have HB:=n1_;clear n0_ n1_;(try clear hb);(try clear hb2);(try clear hk);(try clear hi);have hcz18_0 : w17.cell? ⟨gb205,0,none⟩ = some (.int .i64 a0_0):=(bc_ BK205.out 0).trans rfl;have hcz18_1 : w17.cell? ⟨gb205,1,none⟩ = some (.slice A0_1 l0_1.length c0_1):=(bc_ BK205.out 1).trans rfl;have hcz18_2 : w17.cell? ⟨gb205,2,none⟩ = some (.slice A0_2 l0_2.length c0_2):=(bc_ BK205.out 2).trans rfl;have hcz18_3 : w17.cell? ⟨gb205,3,none⟩ = some (.slice A0_3 l0_3.length c0_3):=(bc_ BK205.out 3).trans rfl;have hfz18_0:=bf_ BK205.out 0;have hfz18_1:=bf_ BK205.out 1;have hfz18_2:=bf_ BK205.out 2;have hfz18_3:=bf_ BK205.out 3)|((with_reducible refine gate_callee (f:=6) rfl ?_);refine goesL_ (some 13) rfl rfl Tryd.func6 (by kernel_rfl) rfl #[.agg #[.int .i64 a0_0,.slice A0_1 l0_1.length c0_1,.slice A0_2 l0_2.length c0_2,.slice A0_3 l0_3.length c0_3]] rfl qm_ ?_;(with_reducible refine (laws_toNet.calls k a0_0 _ _ l0_1 _ _ l0_2 _ _ l0_3 t207 t208 t211 t214 _ ?side1 ?side2 ?side3 ?side4 ?side5 ?side6 A7.out).mono ?_);(case side1 => exact qn_ HR0_1 HB);(case side2 => exact HC0_1.out);(case side3 => exact qn_ HR0_2 HB);(case side4 => exact HC0_2.out);(case side5 => exact qn_ HR0_3 HB);(case side6 => exact HC0_3.out);rintro e w19 ⟨v209,v212,v215,rfl,ho0,ho1,ho2,hb⟩;refine ⟨_,rfl,?_⟩;have n0_:=mk_ (Kd.R_lower ho0 (bz_ (qc_ HB GE205)));have n1_:=mk_ (Kd.R_lower ho1 (bz_ (qc_ HB GE205)));have n2_:=mk_ (Kd.R_lower ho2 (bz_ (qc_ HB GE205)));have n3_:=mk_ (blk_below (g:=gb205) (o:=.cells #[.int .i64 a0_0,.slice A0_1 l0_1.length c0_1,.slice A0_2 l0_2.length c0_2,.slice A0_3 l0_3.length c0_3] 25 (0,0)) (qk_ BK205) hb);have n4_:=mk_ (st_ (qc_ HB GE205) hb);clear BK205 HB;have HO210:=n0_;have HO213:=n1_;have HO216:=n2_;have BK205:=n3_;have HB:=n4_;clear n0_ n1_ n2_ n3_ n4_;(try clear hb);(try clear hb2);(try clear hk);(try clear hi);(try clear ho0);(try clear ho1);(try clear ho2);obtain ⟨Ao20,co20,eo20⟩:=Kd.R_slice HO210.out;subst eo20;obtain ⟨Ao21,co21,eo21⟩:=Kd.R_slice HO213.out;subst eo21;obtain ⟨Ao22,co22,eo22⟩:=Kd.R_slice HO216.out;subst eo22)|((with_reducible refine gate_callee (f:=5) rfl ?_);refine goesL_ (some 14) rfl rfl Tryd.func5 (by kernel_rfl) rfl #[.agg #[.int .i64 t207,.slice Ao20 t208.length co20,.slice Ao21 t211.length co21,.slice Ao22 t214.length co22]] rfl qm_ ?_;(with_reducible refine (spec_NetText.calls k t207 _ _ t208 _ _ t211 _ _ t214 t217 _ ?side1 ?side2 ?side3 ?side4 ?side5 ?side6 A8.out).mono ?_);(case side1 => repeat (first|exact (rr_ HO210.out).2.2|(with_reducible refine ca_ ?_ _)|(with_reducible refine cn_ ?_ _)|(with_reducible refine cd_ ?_)));(case side2 => exact (rr_ HO210.out).2.1);(case side3 => repeat (first|exact (rr_ HO213.out).2.2|(with_reducible refine ca_ ?_ _)|(with_reducible refine cn_ ?_ _)|(with_reducible refine cd_ ?_)));(case side4 => exact (rr_ HO213.out).2.1);(case side5 => repeat (first|exact (rr_ HO216.out).2.2|(with_reducible refine ca_ ?_ _)|(with_reducible refine cn_ ?_ _)|(with_reducible refine cd_ ?_)));(case side6 => exact (rr_ HO216.out).2.1);rintro e w23 ⟨rfl,hb⟩;refine ⟨_,rfl,?_⟩;have n0_:=mk_ (rb_ (qr_ HO210) hb);have n1_:=mk_ (rb_ (qr_ HO213) hb);have n2_:=mk_ (rb_ (qr_ HO216) hb);have n3_:=mk_ (blk_below (g:=gb205) (o:=.cells #[.int .i64 a0_0,.slice A0_1 l0_1.length c0_1,.slice A0_2 l0_2.length c0_2,.slice A0_3 l0_3.length c0_3] 25 (0,0)) (qk_ BK205) hb);have n4_:=mk_ (st_ (qc_ HB GE205) hb);clear HO210 HO213 HO216 BK205 HB;have HO210:=n0_;have HO213:=n1_;have HO216:=n2_;have BK205:=n3_;have HB:=n4_;clear n0_ n1_ n2_ n3_ n4_;(try clear hb);(try clear hb2);(try clear hk);(try clear hi);have hcz24_0 : w23.cell? ⟨gb205,0,none⟩ = some (.int .i64 a0_0):=(bc_ BK205.out 0).trans rfl;have hcz24_1 : w23.cell? ⟨gb205,1,none⟩ = some (.slice A0_1 l0_1.length c0_1):=(bc_ BK205.out 1).trans rfl;have hcz24_2 : w23.cell? ⟨gb205,2,none⟩ = some (.slice A0_2 l0_2.length c0_2):=(bc_ BK205.out 2).trans rfl;have hcz24_3 : w23.cell? ⟨gb205,3,none⟩ = some (.slice A0_3 l0_3.length c0_3):=(bc_ BK205.out 3).trans rfl;have hfz24_0:=bf_ BK205.out 0;have hfz24_1:=bf_ BK205.out 1;have hfz24_2:=bf_ BK205.out 2;have hfz24_3:=bf_ BK205.out 3)|((with_reducible refine gate_callee (f:=6) rfl ?_);refine goesL_ (some 16) rfl rfl Tryd.func6 (by kernel_rfl) rfl #[.agg #[.int .i64 a0_0,.slice A0_1 l0_1.length c0_1,.slice A0_2 l0_2.length c0_2,.slice A0_3 l0_3.length c0_3]] rfl qm_ ?_;(with_reducible refine (laws_toNet.calls k a0_0 _ _ l0_1 _ _ l0_2 _ _ l0_3 t218 t219 t222 t225 _ ?side1 ?side2 ?side3 ?side4 ?side5 ?side6 A9.out).mono ?_);(case side1 => exact qn_ HR0_1 HB);(case side2 => exact HC0_1.out);(case side3 => exact qn_ HR0_2 HB);(case side4 => exact HC0_2.out);(case side5 => exact qn_ HR0_3 HB);(case side6 => exact HC0_3.out);rintro e w25 ⟨v220,v223,v226,rfl,ho0,ho1,ho2,hb⟩;refine ⟨_,rfl,?_⟩;have n0_:=mk_ (re_ (qr_ HO210) (Kd.R_base ho0) hb);have n1_:=mk_ (rm_ (Kd.R_told (Kd.R_told (Kd.R_old (qr_ HO213) hb) (Kd.R_base ho1)) (Kd.R_base ho2)) (λ_ h=>h.1));have n2_:=mk_ (rm_ (Kd.R_told (Kd.R_told (Kd.R_old (qr_ HO216) hb) (Kd.R_base ho1)) (Kd.R_base ho2)) (λ_ h=>h.1));have n3_:=mk_ (Kd.R_lower (Kd.R_new' ho0 (Kd.R_lt (qr_ HO210))) (bz_ (qc_ HB GE205)));have n4_:=mk_ (Kd.R_lower (Kd.R_new' (Kd.R_new' ho1 (Kd.R_lt (qr_ HO213))) (Kd.R_lt (qr_ HO216))) (bz_ (qc_ HB GE205)));have n5_:=mk_ (Kd.R_lower (Kd.R_new' (Kd.R_new' ho2 (Kd.R_lt (qr_ HO213))) (Kd.R_lt (qr_ HO216))) (bz_ (qc_ HB GE205)));have n6_:=mk_ (blk_below (g:=gb205) (o:=.cells #[.int .i64 a0_0,.slice A0_1 l0_1.length c0_1,.slice A0_2 l0_2.length c0_2,.slice A0_3 l0_3.length c0_3] 25 (0,0)) (qk_ BK205) hb);have n7_:=mk_ (st_ (qc_ HB GE205) hb);clear HO210 HO213 HO216 BK205 HB;have HO210:=n0_;have HO213:=n1_;have HO216:=n2_;have HO221:=n3_;have HO224:=n4_;have HO227:=n5_;have BK205:=n6_;have HB:=n7_;clear n0_ n1_ n2_ n3_ n4_ n5_ n6_ n7_;(try clear hb);(try clear hb2);(try clear hk);(try clear hi);(try clear ho0);(try clear ho1);(try clear ho2))|((with_reducible refine gate_dst (N:=5) rfl ?_);refine box_event ?hg (N:=5) ?hd (cs:=#[.int .i64 0,.slice none 0 0,.slice none 0 0,.slice none 0 0]) (t:=30) ?hr ?_;(case hd => rfl);(case hg => rfl);(case hr => first|(go_simp;done)|(go_simp;rfl));intro gb228 hg w26 hbox hb;have n0_:=mk_ (rb_ (qr_ HO210) hb);have n1_:=mk_ (rb_ (qr_ HO213) hb);have n2_:=mk_ (rb_ (qr_ HO216) hb);have n3_:=mk_ (rb_ (qr_ HO221) hb);have n4_:=mk_ (rb_ (qr_ HO224) hb);have n5_:=mk_ (rb_ (qr_ HO227) hb);have n6_:=mk_ (blk_below (g:=gb205) (o:=.cells #[.int .i64 a0_0,.slice A0_1 l0_1.length c0_1,.slice A0_2 l0_2.length c0_2,.slice A0_3 l0_3.length c0_3] 25 (0,0)) (qk_ BK205) hb);have n7_:=mk_ (st_ (qc_ HB GE205) hb);have n8_:=mk_ (hbox);have n9_:=mk_ ((by rw [hg];exact (bz_ (qc_ HB GE205)) : w.heap.size ≤ gb228));have n10_:=mk_ ((by rw [hg];exact (bz_ (qc_ HB GE205)) : w.heap.size ≤ gb228));have n11_:=mk_ ((by rw [hg];exact Nat.ne_of_lt (blk_lt (g:=gb205) (o:=.cells #[.int .i64 a0_0,.slice A0_1 l0_1.length c0_1,.slice A0_2 l0_2.length c0_2,.slice A0_3 l0_3.length c0_3] 25 (0,0)) (qk_ BK205)) : gb205 ≠ gb228));have n12_:=mk_ ((by rw [hg];exact Nat.ne_of_gt (blk_lt (g:=gb205) (o:=.cells #[.int .i64 a0_0,.slice A0_1 l0_1.length c0_1,.slice A0_2 l0_2.length c0_2,.slice A0_3 l0_3.length c0_3] 25 (0,0)) (qk_ BK205)) : gb228 ≠ gb205));clear HO210 HO213 HO216 HO221 HO224 HO227 BK205 HB;have HO210:=n0_;have HO213:=n1_;have HO216:=n2_;have HO221:=n3_;have HO224:=n4_;have HO227:=n5_;have BK205:=n6_;have HB:=n7_;have BK228:=n8_;have GW228:=n9_;have GE228:=n10_;have NB205_228:=n11_;have NB228_205:=n12_;clear n0_ n1_ n2_ n3_ n4_ n5_ n6_ n7_ n8_ n9_ n10_ n11_ n12_ hb hbox hg;have hnb27:=NB228_205.out;have hnc27:=NB205_228.out;have hcz28_0 : w26.cell? ⟨gb228,0,none⟩ = some (.int .i64 0):=(bc_ BK228.out 0).trans rfl;have hcz28_1 : w26.cell? ⟨gb228,1,none⟩ = some (.slice none 0 0):=(bc_ BK228.out 1).trans rfl;have hcz28_2 : w26.cell? ⟨gb228,2,none⟩ = some (.slice none 0 0):=(bc_ BK228.out 2).trans rfl;have hcz28_3 : w26.cell? ⟨gb228,3,none⟩ = some (.slice none 0 0):=(bc_ BK228.out 3).trans rfl;have hfz28_0:=bf_ BK228.out 0;have hfz28_1:=bf_ BK228.out 1;have hfz28_2:=bf_ BK228.out 2;have hfz28_3:=bf_ BK228.out 3;obtain ⟨Ao29,co29,eo29⟩:=Kd.R_slice HO221.out;subst eo29;obtain ⟨Ao30,co30,eo30⟩:=Kd.R_slice HO224.out;subst eo30;obtain ⟨Ao31,co31,eo31⟩:=Kd.R_slice HO227.out;subst eo31)|((with_reducible refine gate_callee (f:=7) rfl ?_);refine goesL_ (some 18) rfl rfl Tryd.func7 (by kernel_rfl) rfl #[.agg #[.int .i64 t218,.slice Ao29 t219.length co29,.slice Ao30 t222.length co30,.slice Ao31 t225.length co31]] rfl qm_ ?_;(with_reducible refine (impl_NetText.calls t218 _ _ t219 _ _ t222 _ _ t225 t229 _ ?side1 ?side2 ?side3 ?side4 ?side5 ?side6 A10.out).mono ?_);(case side1 => refine (rr_ (e:=39) (base:=w.heap.size) (ok:=fun k_ => (True ∧ some k_ ≠ (.slice Ao20 t208.length co20 : Value).ownBlock)) (n:=t219.length) (c:=co29) ?_).2.2;exact (by (with_reducible repeat (first|apply ra_|apply rn_|apply rd_));exact (rm_ (rf_ (p:=⟨gb228,3,none⟩) (rf_ (p:=⟨gb228,2,none⟩) (rf_ (p:=⟨gb228,1,none⟩) (rf_ (p:=⟨gb228,0,none⟩) (rt_ HO221.out BK228.out (by decide)) (λ_ h=>h.2) (.int .i64 t218)) (λ_ h=>h.2) (.slice Ao29 t219.length co29)) (λ_ h=>h.2) (.slice Ao30 t222.length co30)) (λ_ h=>h.2) (.slice Ao31 t225.length co31)) (λ_ h=>h.1))));(case side2 => exact (rr_ HO221.out).2.1);(case side3 => refine (rr_ (e:=3) (base:=w.heap.size) (ok:=fun k_ => ((some k_ ≠ (.slice Ao31 t225.length co31 : Value).ownBlock ∧ some k_ ≠ (.slice Ao21 t211.length co21 : Value).ownBlock) ∧ some k_ ≠ (.slice Ao22 t214.length co22 : Value).ownBlock)) (n:=t222.length) (c:=co30) ?_).2.2;exact (by (with_reducible repeat (first|apply ra_|apply rn_|apply rd_));exact (rm_ (rf_ (p:=⟨gb228,3,none⟩) (rf_ (p:=⟨gb228,2,none⟩) (rf_ (p:=⟨gb228,1,none⟩) (rf_ (p:=⟨gb228,0,none⟩) (rt_ HO224.out BK228.out (by decide)) (λ_ h=>h.2) (.int .i64 t218)) (λ_ h=>h.2) (.slice Ao29 t219.length co29)) (λ_ h=>h.2) (.slice Ao30 t222.length co30)) (λ_ h=>h.2) (.slice Ao31 t225.length co31)) (λ_ h=>h.1))));(case side4 => exact (rr_ HO224.out).2.1);(case side5 => refine (rr_ (e:=3) (base:=w.heap.size) (ok:=fun k_ => ((some k_ ≠ (.slice Ao30 t222.length co30 : Value).ownBlock ∧ some k_ ≠ (.slice Ao21 t211.length co21 : Value).ownBlock) ∧ some k_ ≠ (.slice Ao22 t214.length co22 : Value).ownBlock)) (n:=t225.length) (c:=co31) ?_).2.2;exact (by (with_reducible repeat (first|apply ra_|apply rn_|apply rd_));exact (rm_ (rf_ (p:=⟨gb228,3,none⟩) (rf_ (p:=⟨gb228,2,none⟩) (rf_ (p:=⟨gb228,1,none⟩) (rf_ (p:=⟨gb228,0,none⟩) (rt_ HO227.out BK228.out (by decide)) (λ_ h=>h.2) (.int .i64 t218)) (λ_ h=>h.2) (.slice Ao29 t219.length co29)) (λ_ h=>h.2) (.slice Ao30 t222.length co30)) (λ_ h=>h.2) (.slice Ao31 t225.length co31)) (λ_ h=>h.1))));(case side6 => exact (rr_ HO227.out).2.1);rintro e w32 ⟨rfl,hb⟩;refine ⟨_,rfl,?_⟩;have n0_:=mk_ (rb_ (by (with_reducible repeat (first|apply ra_|apply rn_|apply rd_));exact (rm_ (rf_ (p:=⟨gb228,3,none⟩) (rf_ (p:=⟨gb228,2,none⟩) (rf_ (p:=⟨gb228,1,none⟩) (rf_ (p:=⟨gb228,0,none⟩) (rt_ HO210.out BK228.out (by decide)) (λ_ h=>h.2) (.int .i64 t218)) (λ_ h=>h.2) (.slice Ao29 t219.length co29)) (λ_ h=>h.2) (.slice Ao30 t222.length co30)) (λ_ h=>h.2) (.slice Ao31 t225.length co31)) (λ_ h=>h.1))) hb);have n1_:=mk_ (rb_ (by (with_reducible repeat (first|apply ra_|apply rn_|apply rd_));exact (rm_ (rf_ (p:=⟨gb228,3,none⟩) (rf_ (p:=⟨gb228,2,none⟩) (rf_ (p:=⟨gb228,1,none⟩) (rf_ (p:=⟨gb228,0,none⟩) (rt_ HO213.out BK228.out (by decide)) (λ_ h=>h.2) (.int .i64 t218)) (λ_ h=>h.2) (.slice Ao29 t219.length co29)) (λ_ h=>h.2) (.slice Ao30 t222.length co30)) (λ_ h=>h.2) (.slice Ao31 t225.length co31)) (λ_ h=>h.1))) hb);have n2_:=mk_ (rb_ (by (with_reducible repeat (first|apply ra_|apply rn_|apply rd_));exact (rm_ (rf_ (p:=⟨gb228,3,none⟩) (rf_ (p:=⟨gb228,2,none⟩) (rf_ (p:=⟨gb228,1,none⟩) (rf_ (p:=⟨gb228,0,none⟩) (rt_ HO216.out BK228.out (by decide)) (λ_ h=>h.2) (.int .i64 t218)) (λ_ h=>h.2) (.slice Ao29 t219.length co29)) (λ_ h=>h.2) (.slice Ao30 t222.length co30)) (λ_ h=>h.2) (.slice Ao31 t225.length co31)) (λ_ h=>h.1))) hb);have n3_:=mk_ (rb_ (by (with_reducible repeat (first|apply ra_|apply rn_|apply rd_));exact (rm_ (rf_ (p:=⟨gb228,3,none⟩) (rf_ (p:=⟨gb228,2,none⟩) (rf_ (p:=⟨gb228,1,none⟩) (rf_ (p:=⟨gb228,0,none⟩) (rt_ HO221.out BK228.out (by decide)) (λ_ h=>h.2) (.int .i64 t218)) (λ_ h=>h.2) (.slice Ao29 t219.length co29)) (λ_ h=>h.2) (.slice Ao30 t222.length co30)) (λ_ h=>h.2) (.slice Ao31 t225.length co31)) (λ_ h=>h.1))) hb);have n4_:=mk_ (rb_ (by (with_reducible repeat (first|apply ra_|apply rn_|apply rd_));exact (rm_ (rf_ (p:=⟨gb228,3,none⟩) (rf_ (p:=⟨gb228,2,none⟩) (rf_ (p:=⟨gb228,1,none⟩) (rf_ (p:=⟨gb228,0,none⟩) (rt_ HO224.out BK228.out (by decide)) (λ_ h=>h.2) (.int .i64 t218)) (λ_ h=>h.2) (.slice Ao29 t219.length co29)) (λ_ h=>h.2) (.slice Ao30 t222.length co30)) (λ_ h=>h.2) (.slice Ao31 t225.length co31)) (λ_ h=>h.1))) hb);have n5_:=mk_ (rb_ (by (with_reducible repeat (first|apply ra_|apply rn_|apply rd_));exact (rm_ (rf_ (p:=⟨gb228,3,none⟩) (rf_ (p:=⟨gb228,2,none⟩) (rf_ (p:=⟨gb228,1,none⟩) (rf_ (p:=⟨gb228,0,none⟩) (rt_ HO227.out BK228.out (by decide)) (λ_ h=>h.2) (.int .i64 t218)) (λ_ h=>h.2) (.slice Ao29 t219.length co29)) (λ_ h=>h.2) (.slice Ao30 t222.length co30)) (λ_ h=>h.2) (.slice Ao31 t225.length co31)) (λ_ h=>h.1))) hb);have n6_:=mk_ (blk_below (g:=gb205) (o:=.cells #[.int .i64 a0_0,.slice A0_1 l0_1.length c0_1,.slice A0_2 l0_2.length c0_2,.slice A0_3 l0_3.length c0_3] 25 (0,0)) (by (with_reducible repeat (first|apply kn_|apply kd_|apply ka_));refine blk_far ?_ NB205_228.out _;(with_reducible repeat (first|apply kn_|apply kd_|apply ka_));refine blk_far ?_ NB205_228.out _;(with_reducible repeat (first|apply kn_|apply kd_|apply ka_));refine blk_far ?_ NB205_228.out _;(with_reducible repeat (first|apply kn_|apply kd_|apply ka_));refine blk_far ?_ NB205_228.out _;(with_reducible repeat (first|apply kn_|apply kd_|apply ka_));exact BK205.out) hb);have n7_:=mk_ (blk_below (g:=gb228) (o:=.cells #[.int .i64 t218,.slice Ao29 t219.length co29,.slice Ao30 t222.length co30,.slice Ao31 t225.length co31] 30 (0,0)) (by (with_reducible repeat (first|apply kn_|apply kd_|apply ka_));refine blk_put (cs:=#[.int .i64 t218,.slice Ao29 t219.length co29,.slice Ao30 t222.length co30,.slice none 0 0]) ?_ 3 _ rfl;(with_reducible repeat (first|apply kn_|apply kd_|apply ka_));refine blk_put (cs:=#[.int .i64 t218,.slice Ao29 t219.length co29,.slice none 0 0,.slice none 0 0]) ?_ 2 _ rfl;(with_reducible repeat (first|apply kn_|apply kd_|apply ka_));refine blk_put (cs:=#[.int .i64 t218,.slice none 0 0,.slice none 0 0,.slice none 0 0]) ?_ 1 _ rfl;(with_reducible repeat (first|apply kn_|apply kd_|apply ka_));refine blk_put (cs:=#[.int .i64 0,.slice none 0 0,.slice none 0 0,.slice none 0 0]) ?_ 0 _ rfl;(with_reducible repeat (first|apply kn_|apply kd_|apply ka_));exact BK228.out) hb);have n8_:=mk_ (st_ (qd_ HB GE205 GE228) hb);clear HO210 HO213 HO216 HO221 HO224 HO227 BK205 BK228 HB;have HO210:=n0_;have HO213:=n1_;have HO216:=n2_;have HO221:=n3_;have HO224:=n4_;have HO227:=n5_;have BK205:=n6_;have BK228:=n7_;have HB:=n8_;clear n0_ n1_ n2_ n3_ n4_ n5_ n6_ n7_ n8_;(try clear hb);(try clear hb2);(try clear hk);(try clear hi)))
    have n0_:=mk_ (rd_ HO210.out)
    have n1_:=mk_ (rd_ HO213.out)
    have n2_:=mk_ (rd_ HO216.out)
    have n3_:=mk_ (rd_ HO221.out)
    have n4_:=mk_ (rd_ HO224.out)
    have n5_:=mk_ (rd_ HO227.out)
    have n6_:=mk_ (kd_ BK205.out)
    have n7_:=mk_ (kd_ BK228.out)
    have n8_:=mk_ (bd_ HB.out)
    clear HO210
    clear HO213
    clear HO216
    clear HO221
    clear HO224
    clear HO227
    clear BK205
    clear BK228
    clear HB
    have HO210:=n0_
    have HO213:=n1_
    have HO216:=n2_
    have HO221:=n3_
    have HO224:=n4_
    have HO227:=n5_
    have BK205:=n6_
    have BK228:=n7_
    have HB:=n8_
    clear n0_ n1_ n2_ n3_ n4_ n5_ n6_ n7_ n8_
    refine start_ (n:=5) (S:=fun w' => w'.cell? ⟨gb228,0,none⟩ = some (.int .i64 t218) ∧ w'.cell? ⟨gb228,1,none⟩ = some (.slice Ao29 t219.length co29) ∧ w'.cell? ⟨gb228,2,none⟩ = some (.slice Ao30 t222.length co30) ∧ w'.cell? ⟨gb228,3,none⟩ = some (.slice Ao31 t225.length co31) ∧ w'.cell? ⟨gb205,0,none⟩ = some (.int .i64 a0_0) ∧ w'.cell? ⟨gb205,1,none⟩ = some (.slice A0_1 l0_1.length c0_1) ∧ w'.cell? ⟨gb205,2,none⟩ = some (.slice A0_2 l0_2.length c0_2) ∧ w'.cell? ⟨gb205,3,none⟩ = some (.slice A0_3 l0_3.length c0_3)) (ds:=[]) #[false,false,false,false,false] (by kernel_rfl) rfl rfl ⟨(bc_ BK228.out 0).trans rfl,(bc_ BK228.out 1).trans rfl,(bc_ BK228.out 2).trans rfl,(bc_ BK228.out 3).trans rfl,(bc_ BK205.out 0).trans rfl,(bc_ BK205.out 1).trans rfl,(bc_ BK205.out 2).trans rfl,(bc_ BK205.out 3).trans rfl⟩ (fun hHeld => ?_)
    generalize w32.drew = w33 at HO210 HO213 HO216 HO221 HO224 HO227 BK205 BK228 HB hHeld ⊢
    refine take_ (i:=0) (N:=some 22) (v:=?_) (a':=?_) #[true,false,false,false,false] rfl rfl (by kernel_rfl) (fun _ _ _ h => h) (Or.inl ⟨by rfl,?_⟩) hHeld ?_ ?_
    rotate_left
    ·rintro w' ⟨s0,s1,s2,s3,s4,s5,s6,s7⟩
     go_simp
     with_reducible rfl
    rotate_left
    ·simp only [Act.put,sx_,sy_,sz_,i64_w,i32_w]
     rfl
    refine take_ (i:=1) (N:=some 23) (v:=?_) (a':=?_) #[true,true,false,false,false] rfl rfl (by kernel_rfl) (fun _ _ _ h => h) (Or.inl ⟨by rfl,?_⟩) hHeld ?_ ?_
    rotate_left
    ·rintro w' ⟨s0,s1,s2,s3,s4,s5,s6,s7⟩
     go_simp
     with_reducible rfl
    rotate_left
    ·simp only [Act.put,sx_,sy_,sz_,i64_w,i32_w]
     rfl
    refine one_ (i:=2) (N:=some 24) #[true,true,true,false,false] rfl rfl (by kernel_rfl) (by decide) (fun K hK => ?_)
    refine goes_ Tryd.func6 (by kernel_rfl) rfl #[.agg #[.int .i64 a0_0,.slice A0_1 l0_1.length c0_1,.slice A0_2 l0_2.length c0_2,.slice A0_3 l0_3.length c0_3]] (by rfl) rfl rfl qm_ ?_
    with_reducible refine (laws_toNet.calls k a0_0 _ _ l0_1 _ _ l0_2 _ _ l0_3 t230 t231 t234 t237 _ ?side1 ?side2 ?side3 ?side4 ?side5 ?side6 A12.out).mono ?_
    (case side1 => exact qn_ HR0_1 HB)
    (case side2 => exact HC0_1.out)
    (case side3 => exact qn_ HR0_2 HB)
    (case side4 => exact HC0_2.out)
    (case side5 => exact qn_ HR0_3 HB)
    (case side6 => exact HC0_3.out)
    rintro e w34 ⟨v232,v235,v238,rfl,ho0,ho1,ho2,hb⟩
    refine ⟨_,rfl,?_⟩
    have n0_:=mk_ (re_ (qr_ HO210) (Kd.R_base ho0) hb)
    have n1_:=mk_ (rm_ (Kd.R_told (Kd.R_told (Kd.R_old (qr_ HO213) hb) (Kd.R_base ho1)) (Kd.R_base ho2)) (λ_ h=>h.1))
    have n2_:=mk_ (rm_ (Kd.R_told (Kd.R_told (Kd.R_old (qr_ HO216) hb) (Kd.R_base ho1)) (Kd.R_base ho2)) (λ_ h=>h.1))
    have n3_:=mk_ (re_ (qr_ HO221) (Kd.R_base ho0) hb)
    have n4_:=mk_ (rm_ (Kd.R_told (Kd.R_told (Kd.R_old (qr_ HO224) hb) (Kd.R_base ho1)) (Kd.R_base ho2)) (λ_ h=>h.1))
    have n5_:=mk_ (rm_ (Kd.R_told (Kd.R_told (Kd.R_old (qr_ HO227) hb) (Kd.R_base ho1)) (Kd.R_base ho2)) (λ_ h=>h.1))
    have n6_:=mk_ (Kd.R_lower (Kd.R_new' (Kd.R_new' ho0 (Kd.R_lt (qr_ HO210))) (Kd.R_lt (qr_ HO221))) (bz_ (qd_ HB GE205 GE228)))
    have n7_:=mk_ (Kd.R_lower (Kd.R_new' (Kd.R_new' (Kd.R_new' (Kd.R_new' ho1 (Kd.R_lt (qr_ HO213))) (Kd.R_lt (qr_ HO216))) (Kd.R_lt (qr_ HO224))) (Kd.R_lt (qr_ HO227))) (bz_ (qd_ HB GE205 GE228)))
    have n8_:=mk_ (Kd.R_lower (Kd.R_new' (Kd.R_new' (Kd.R_new' (Kd.R_new' ho2 (Kd.R_lt (qr_ HO213))) (Kd.R_lt (qr_ HO216))) (Kd.R_lt (qr_ HO224))) (Kd.R_lt (qr_ HO227))) (bz_ (qd_ HB GE205 GE228)))
    have n9_:=mk_ (blk_below (g:=gb205) (o:=.cells #[.int .i64 a0_0,.slice A0_1 l0_1.length c0_1,.slice A0_2 l0_2.length c0_2,.slice A0_3 l0_3.length c0_3] 25 (0,0)) (qk_ BK205) hb)
    have n10_:=mk_ (blk_below (g:=gb228) (o:=.cells #[.int .i64 t218,.slice Ao29 t219.length co29,.slice Ao30 t222.length co30,.slice Ao31 t225.length co31] 30 (0,0)) (qk_ BK228) hb)
    have n11_:=mk_ (st_ (qd_ HB GE205 GE228) hb)
    clear HO210
    clear HO213
    clear HO216
    clear HO221
    clear HO224
    clear HO227
    clear BK205
    clear BK228
    clear HB
    have HO210:=n0_
    have HO213:=n1_
    have HO216:=n2_
    have HO221:=n3_
    have HO224:=n4_
    have HO227:=n5_
    have HO233:=n6_
    have HO236:=n7_
    have HO239:=n8_
    have BK205:=n9_
    have BK228:=n10_
    have HB:=n11_
    clear n0_ n1_ n2_ n3_ n4_ n5_ n6_ n7_ n8_ n9_ n10_ n11_
    (try clear hb)
    (try clear hb2)
    (try clear hk)
    (try clear hi)
    (try clear ho0)
    (try clear ho1)
    (try clear ho2)
    obtain ⟨Ao35,co35,eo35⟩:=Kd.R_slice HO233.out
    (first|subst eo35|(injection eo35 with f1_ f2_ f3_;have f4_:=f1_.symm;have f5_:=f3_.symm;clear f1_ f2_ f3_;subst f4_;subst f5_))
    obtain ⟨Ao36,co36,eo36⟩:=Kd.R_slice HO236.out
    (first|subst eo36|(injection eo36 with f1_ f2_ f3_;have f4_:=f1_.symm;have f5_:=f3_.symm;clear f1_ f2_ f3_;subst f4_;subst f5_))
    obtain ⟨Ao37,co37,eo37⟩:=Kd.R_slice HO239.out
    (first|subst eo37|(injection eo37 with f1_ f2_ f3_;have f4_:=f1_.symm;have f5_:=f3_.symm;clear f1_ f2_ f3_;subst f4_;subst f5_))
    refine hK.out _ _ ⟨(bc_ BK228.out 0).trans rfl,(bc_ BK228.out 1).trans rfl,(bc_ BK228.out 2).trans rfl,(bc_ BK228.out 3).trans rfl,(bc_ BK205.out 0).trans rfl,(bc_ BK205.out 1).trans rfl,(bc_ BK205.out 2).trans rfl,(bc_ BK205.out 3).trans rfl⟩ (fun hHeld => ?_)
    clear hK K
    refine norm_ (a':=?_) ?_ ?_
    rotate_left
    ·show Act.put _ (some 24) _ = _
     simp only [Act.put,sx_,sy_,sz_,i64_w,i32_w]
     rfl
    refine one_ (i:=3) (N:=some 25) #[true,true,true,true,false] rfl rfl (by kernel_rfl) (by decide) (fun K hK => ?_)
    refine goes_ Tryd.func8 (by kernel_rfl) rfl #[.agg #[.int .i64 t218,.slice Ao29 t219.length co29,.slice Ao30 t222.length co30,.slice Ao31 t225.length co31],.agg #[.int .i64 t230,.slice Ao35 t231.length co35,.slice Ao36 t234.length co36,.slice Ao37 t237.length co37]] (by rfl) rfl rfl qm_ ?_
    with_reducible refine (laws_eqNet.calls k t218 _ _ t219 _ _ t222 _ _ t225 t230 _ _ t231 _ _ t234 _ _ t237 true _ ?side1 ?side2 ?side3 ?side4 ?side5 ?side6 ?side7 ?side8 ?side9 ?side10 ?side11 ?side12 A13.out).mono ?_
    (case side1 => repeat (first|exact (rr_ HO221.out).2.2|(with_reducible refine ca_ ?_ _)|(with_reducible refine cn_ ?_ _)|(with_reducible refine cd_ ?_)))
    (case side2 => exact (rr_ HO221.out).2.1)
    (case side3 => repeat (first|exact (rr_ HO224.out).2.2|(with_reducible refine ca_ ?_ _)|(with_reducible refine cn_ ?_ _)|(with_reducible refine cd_ ?_)))
    (case side4 => exact (rr_ HO224.out).2.1)
    (case side5 => repeat (first|exact (rr_ HO227.out).2.2|(with_reducible refine ca_ ?_ _)|(with_reducible refine cn_ ?_ _)|(with_reducible refine cd_ ?_)))
    (case side6 => exact (rr_ HO227.out).2.1)
    (case side7 => repeat (first|exact (rr_ HO233.out).2.2|(with_reducible refine ca_ ?_ _)|(with_reducible refine cn_ ?_ _)|(with_reducible refine cd_ ?_)))
    (case side8 => exact (rr_ HO233.out).2.1)
    (case side9 => repeat (first|exact (rr_ HO236.out).2.2|(with_reducible refine ca_ ?_ _)|(with_reducible refine cn_ ?_ _)|(with_reducible refine cd_ ?_)))
    (case side10 => exact (rr_ HO236.out).2.1)
    (case side11 => repeat (first|exact (rr_ HO239.out).2.2|(with_reducible refine ca_ ?_ _)|(with_reducible refine cn_ ?_ _)|(with_reducible refine cd_ ?_)))
    (case side12 => exact (rr_ HO239.out).2.1)
    rintro e w38 ⟨rfl,hb⟩
    refine ⟨_,rfl,?_⟩
    have n0_:=mk_ (rb_ (qr_ HO210) hb)
    have n1_:=mk_ (rb_ (qr_ HO213) hb)
    have n2_:=mk_ (rb_ (qr_ HO216) hb)
    have n3_:=mk_ (rb_ (qr_ HO221) hb)
    have n4_:=mk_ (rb_ (qr_ HO224) hb)
    have n5_:=mk_ (rb_ (qr_ HO227) hb)
    have n6_:=mk_ (rb_ (qr_ HO233) hb)
    have n7_:=mk_ (rb_ (qr_ HO236) hb)
    have n8_:=mk_ (rb_ (qr_ HO239) hb)
    have n9_:=mk_ (blk_below (g:=gb205) (o:=.cells #[.int .i64 a0_0,.slice A0_1 l0_1.length c0_1,.slice A0_2 l0_2.length c0_2,.slice A0_3 l0_3.length c0_3] 25 (0,0)) (qk_ BK205) hb)
    have n10_:=mk_ (blk_below (g:=gb228) (o:=.cells #[.int .i64 t218,.slice Ao29 t219.length co29,.slice Ao30 t222.length co30,.slice Ao31 t225.length co31] 30 (0,0)) (qk_ BK228) hb)
    have n11_:=mk_ (st_ (qd_ HB GE205 GE228) hb)
    clear HO210
    clear HO213
    clear HO216
    clear HO221
    clear HO224
    clear HO227
    clear HO233
    clear HO236
    clear HO239
    clear BK205
    clear BK228
    clear HB
    have HO210:=n0_
    have HO213:=n1_
    have HO216:=n2_
    have HO221:=n3_
    have HO224:=n4_
    have HO227:=n5_
    have HO233:=n6_
    have HO236:=n7_
    have HO239:=n8_
    have BK205:=n9_
    have BK228:=n10_
    have HB:=n11_
    clear n0_ n1_ n2_ n3_ n4_ n5_ n6_ n7_ n8_ n9_ n10_ n11_
    (try clear hb)
    (try clear hb2)
    (try clear hk)
    (try clear hi)
    refine hK.out _ _ ⟨(bc_ BK228.out 0).trans rfl,(bc_ BK228.out 1).trans rfl,(bc_ BK228.out 2).trans rfl,(bc_ BK228.out 3).trans rfl,(bc_ BK205.out 0).trans rfl,(bc_ BK205.out 1).trans rfl,(bc_ BK205.out 2).trans rfl,(bc_ BK205.out 3).trans rfl⟩ (fun hHeld => ?_)
    clear hK K
    refine norm_ (a':=?_) ?_ ?_
    rotate_left
    ·show Act.put _ (some 25) _ = _
     simp only [Act.put,sx_,sy_,sz_,i64_w,i32_w]
     rfl
    refine pure_ (i:=4) (N:=some 26) (v:=?_) (a':=?_) #[true,true,true,true,true] rfl rfl (by kernel_rfl) (fun _ _ _ h => h) (Or.inl ⟨by rfl,?_⟩) ?_ ?_
    rotate_left
    ·intro w'
     go_simp
     with_reducible rfl
    rotate_left
    ·simp only [Act.put,sx_,sy_,sz_,i64_w,i32_w]
     rfl
    refine done_ (by kernel_rfl) ?_
    try go_wp2
    go_ret
    exact ⟨qe_,u2_ HB GE205 GE228⟩
   ·replace c14:=Bool.eq_false_iff.mpr c14
    subst c14
    have H1 : (some false) = some r:=by rw [if_neg (show ¬ (false = true) by decide)] at H;exact H
    clear H
    have H:=H1
    clear H1
    obtain rfl:=Option.some.inj H
    go_enter Tryd.func3,Tryd.ntmps3
    try go_wp2_with (first|((with_reducible refine gate_dst (N:=1) rfl ?_);refine box_event ?hg (N:=1) ?hd (cs:=#[.int .i64 a0_0,.slice A0_1 l0_1.length c0_1,.slice A0_2 l0_2.length c0_2,.slice A0_3 l0_3.length c0_3]) (t:=25) ?hr ?_;(case hd => rfl);(case hg => rfl);(case hr => first|(go_simp;done)|(go_simp;rfl));intro gb205 hg w39 hbox hb;have n0_:=mk_ (st_ (qb_ HB) hb);have n1_:=mk_ (hbox);have n2_:=mk_ ((by rw [hg];exact (bz_ (qb_ HB)) : w.heap.size ≤ gb205));have n3_:=mk_ ((by rw [hg];exact (bz_ (qb_ HB)) : w.heap.size ≤ gb205));clear HB;have HB:=n0_;have BK205:=n1_;have GW205:=n2_;have GE205:=n3_;clear n0_ n1_ n2_ n3_ hb hbox hg;have hcz40_0 : w39.cell? ⟨gb205,0,none⟩ = some (.int .i64 a0_0):=(bc_ BK205.out 0).trans rfl;have hcz40_1 : w39.cell? ⟨gb205,1,none⟩ = some (.slice A0_1 l0_1.length c0_1):=(bc_ BK205.out 1).trans rfl;have hcz40_2 : w39.cell? ⟨gb205,2,none⟩ = some (.slice A0_2 l0_2.length c0_2):=(bc_ BK205.out 2).trans rfl;have hcz40_3 : w39.cell? ⟨gb205,3,none⟩ = some (.slice A0_3 l0_3.length c0_3):=(bc_ BK205.out 3).trans rfl;have hfz40_0:=bf_ BK205.out 0;have hfz40_1:=bf_ BK205.out 1;have hfz40_2:=bf_ BK205.out 2;have hfz40_3:=bf_ BK205.out 3)|((with_reducible refine gate_callee (f:=4) rfl ?_);refine goesL_ (some 9) rfl rfl Tryd.func4 (by kernel_rfl) rfl #[.agg #[.int .i64 a0_0,.slice A0_1 l0_1.length c0_1,.slice A0_2 l0_2.length c0_2,.slice A0_3 l0_3.length c0_3],.int .i64 1048576] rfl qm_ ?_;(with_reducible refine (laws_szNet.calls a0_0 _ _ l0_1 _ _ l0_2 _ _ l0_3 1048576 t206 _ ?side1 ?side2 ?side3 ?side4 ?side5 ?side6 A2.out).mono ?_);(case side1 => exact qn_ HR0_1 HB);(case side2 => exact HC0_1.out);(case side3 => exact qn_ HR0_2 HB);(case side4 => exact HC0_2.out);(case side5 => exact qn_ HR0_3 HB);(case side6 => exact HC0_3.out);rintro e w41 ⟨rfl,hb⟩;refine ⟨_,rfl,?_⟩;have n0_:=mk_ (blk_below (g:=gb205) (o:=.cells #[.int .i64 a0_0,.slice A0_1 l0_1.length c0_1,.slice A0_2 l0_2.length c0_2,.slice A0_3 l0_3.length c0_3] 25 (0,0)) (qk_ BK205) hb);have n1_:=mk_ (st_ (qc_ HB GE205) hb);clear BK205 HB;have BK205:=n0_;have HB:=n1_;clear n0_ n1_;(try clear hb);(try clear hb2);(try clear hk);(try clear hi);have hcz42_0 : w41.cell? ⟨gb205,0,none⟩ = some (.int .i64 a0_0):=(bc_ BK205.out 0).trans rfl;have hcz42_1 : w41.cell? ⟨gb205,1,none⟩ = some (.slice A0_1 l0_1.length c0_1):=(bc_ BK205.out 1).trans rfl;have hcz42_2 : w41.cell? ⟨gb205,2,none⟩ = some (.slice A0_2 l0_2.length c0_2):=(bc_ BK205.out 2).trans rfl;have hcz42_3 : w41.cell? ⟨gb205,3,none⟩ = some (.slice A0_3 l0_3.length c0_3):=(bc_ BK205.out 3).trans rfl;have hfz42_0:=bf_ BK205.out 0;have hfz42_1:=bf_ BK205.out 1;have hfz42_2:=bf_ BK205.out 2;have hfz42_3:=bf_ BK205.out 3)|((with_reducible refine gate_callee (f:=6) rfl ?_);refine goesL_ (some 13) rfl rfl Tryd.func6 (by kernel_rfl) rfl #[.agg #[.int .i64 a0_0,.slice A0_1 l0_1.length c0_1,.slice A0_2 l0_2.length c0_2,.slice A0_3 l0_3.length c0_3]] rfl qm_ ?_;(with_reducible refine (laws_toNet.calls k a0_0 _ _ l0_1 _ _ l0_2 _ _ l0_3 t207 t208 t211 t214 _ ?side1 ?side2 ?side3 ?side4 ?side5 ?side6 A7.out).mono ?_);(case side1 => exact qn_ HR0_1 HB);(case side2 => exact HC0_1.out);(case side3 => exact qn_ HR0_2 HB);(case side4 => exact HC0_2.out);(case side5 => exact qn_ HR0_3 HB);(case side6 => exact HC0_3.out);rintro e w43 ⟨v209,v212,v215,rfl,ho0,ho1,ho2,hb⟩;refine ⟨_,rfl,?_⟩;have n0_:=mk_ (Kd.R_lower ho0 (bz_ (qc_ HB GE205)));have n1_:=mk_ (Kd.R_lower ho1 (bz_ (qc_ HB GE205)));have n2_:=mk_ (Kd.R_lower ho2 (bz_ (qc_ HB GE205)));have n3_:=mk_ (blk_below (g:=gb205) (o:=.cells #[.int .i64 a0_0,.slice A0_1 l0_1.length c0_1,.slice A0_2 l0_2.length c0_2,.slice A0_3 l0_3.length c0_3] 25 (0,0)) (qk_ BK205) hb);have n4_:=mk_ (st_ (qc_ HB GE205) hb);clear BK205 HB;have HO210:=n0_;have HO213:=n1_;have HO216:=n2_;have BK205:=n3_;have HB:=n4_;clear n0_ n1_ n2_ n3_ n4_;(try clear hb);(try clear hb2);(try clear hk);(try clear hi);(try clear ho0);(try clear ho1);(try clear ho2);obtain ⟨Ao44,co44,eo44⟩:=Kd.R_slice HO210.out;subst eo44;obtain ⟨Ao45,co45,eo45⟩:=Kd.R_slice HO213.out;subst eo45;obtain ⟨Ao46,co46,eo46⟩:=Kd.R_slice HO216.out;subst eo46)|((with_reducible refine gate_callee (f:=5) rfl ?_);refine goesL_ (some 14) rfl rfl Tryd.func5 (by kernel_rfl) rfl #[.agg #[.int .i64 t207,.slice Ao44 t208.length co44,.slice Ao45 t211.length co45,.slice Ao46 t214.length co46]] rfl qm_ ?_;(with_reducible refine (spec_NetText.calls k t207 _ _ t208 _ _ t211 _ _ t214 t217 _ ?side1 ?side2 ?side3 ?side4 ?side5 ?side6 A8.out).mono ?_);(case side1 => repeat (first|exact (rr_ HO210.out).2.2|(with_reducible refine ca_ ?_ _)|(with_reducible refine cn_ ?_ _)|(with_reducible refine cd_ ?_)));(case side2 => exact (rr_ HO210.out).2.1);(case side3 => repeat (first|exact (rr_ HO213.out).2.2|(with_reducible refine ca_ ?_ _)|(with_reducible refine cn_ ?_ _)|(with_reducible refine cd_ ?_)));(case side4 => exact (rr_ HO213.out).2.1);(case side5 => repeat (first|exact (rr_ HO216.out).2.2|(with_reducible refine ca_ ?_ _)|(with_reducible refine cn_ ?_ _)|(with_reducible refine cd_ ?_)));(case side6 => exact (rr_ HO216.out).2.1);rintro e w47 ⟨rfl,hb⟩;refine ⟨_,rfl,?_⟩;have n0_:=mk_ (rb_ (qr_ HO210) hb);have n1_:=mk_ (rb_ (qr_ HO213) hb);have n2_:=mk_ (rb_ (qr_ HO216) hb);have n3_:=mk_ (blk_below (g:=gb205) (o:=.cells #[.int .i64 a0_0,.slice A0_1 l0_1.length c0_1,.slice A0_2 l0_2.length c0_2,.slice A0_3 l0_3.length c0_3] 25 (0,0)) (qk_ BK205) hb);have n4_:=mk_ (st_ (qc_ HB GE205) hb);clear HO210 HO213 HO216 BK205 HB;have HO210:=n0_;have HO213:=n1_;have HO216:=n2_;have BK205:=n3_;have HB:=n4_;clear n0_ n1_ n2_ n3_ n4_;(try clear hb);(try clear hb2);(try clear hk);(try clear hi);have hcz48_0 : w47.cell? ⟨gb205,0,none⟩ = some (.int .i64 a0_0):=(bc_ BK205.out 0).trans rfl;have hcz48_1 : w47.cell? ⟨gb205,1,none⟩ = some (.slice A0_1 l0_1.length c0_1):=(bc_ BK205.out 1).trans rfl;have hcz48_2 : w47.cell? ⟨gb205,2,none⟩ = some (.slice A0_2 l0_2.length c0_2):=(bc_ BK205.out 2).trans rfl;have hcz48_3 : w47.cell? ⟨gb205,3,none⟩ = some (.slice A0_3 l0_3.length c0_3):=(bc_ BK205.out 3).trans rfl;have hfz48_0:=bf_ BK205.out 0;have hfz48_1:=bf_ BK205.out 1;have hfz48_2:=bf_ BK205.out 2;have hfz48_3:=bf_ BK205.out 3)|((with_reducible refine gate_callee (f:=6) rfl ?_);refine goesL_ (some 16) rfl rfl Tryd.func6 (by kernel_rfl) rfl #[.agg #[.int .i64 a0_0,.slice A0_1 l0_1.length c0_1,.slice A0_2 l0_2.length c0_2,.slice A0_3 l0_3.length c0_3]] rfl qm_ ?_;(with_reducible refine (laws_toNet.calls k a0_0 _ _ l0_1 _ _ l0_2 _ _ l0_3 t218 t219 t222 t225 _ ?side1 ?side2 ?side3 ?side4 ?side5 ?side6 A9.out).mono ?_);(case side1 => exact qn_ HR0_1 HB);(case side2 => exact HC0_1.out);(case side3 => exact qn_ HR0_2 HB);(case side4 => exact HC0_2.out);(case side5 => exact qn_ HR0_3 HB);(case side6 => exact HC0_3.out);rintro e w49 ⟨v220,v223,v226,rfl,ho0,ho1,ho2,hb⟩;refine ⟨_,rfl,?_⟩;have n0_:=mk_ (re_ (qr_ HO210) (Kd.R_base ho0) hb);have n1_:=mk_ (rm_ (Kd.R_told (Kd.R_told (Kd.R_old (qr_ HO213) hb) (Kd.R_base ho1)) (Kd.R_base ho2)) (λ_ h=>h.1));have n2_:=mk_ (rm_ (Kd.R_told (Kd.R_told (Kd.R_old (qr_ HO216) hb) (Kd.R_base ho1)) (Kd.R_base ho2)) (λ_ h=>h.1));have n3_:=mk_ (Kd.R_lower (Kd.R_new' ho0 (Kd.R_lt (qr_ HO210))) (bz_ (qc_ HB GE205)));have n4_:=mk_ (Kd.R_lower (Kd.R_new' (Kd.R_new' ho1 (Kd.R_lt (qr_ HO213))) (Kd.R_lt (qr_ HO216))) (bz_ (qc_ HB GE205)));have n5_:=mk_ (Kd.R_lower (Kd.R_new' (Kd.R_new' ho2 (Kd.R_lt (qr_ HO213))) (Kd.R_lt (qr_ HO216))) (bz_ (qc_ HB GE205)));have n6_:=mk_ (blk_below (g:=gb205) (o:=.cells #[.int .i64 a0_0,.slice A0_1 l0_1.length c0_1,.slice A0_2 l0_2.length c0_2,.slice A0_3 l0_3.length c0_3] 25 (0,0)) (qk_ BK205) hb);have n7_:=mk_ (st_ (qc_ HB GE205) hb);clear HO210 HO213 HO216 BK205 HB;have HO210:=n0_;have HO213:=n1_;have HO216:=n2_;have HO221:=n3_;have HO224:=n4_;have HO227:=n5_;have BK205:=n6_;have HB:=n7_;clear n0_ n1_ n2_ n3_ n4_ n5_ n6_ n7_;(try clear hb);(try clear hb2);(try clear hk);(try clear hi);(try clear ho0);(try clear ho1);(try clear ho2))|((with_reducible refine gate_dst (N:=5) rfl ?_);refine box_event ?hg (N:=5) ?hd (cs:=#[.int .i64 0,.slice none 0 0,.slice none 0 0,.slice none 0 0]) (t:=30) ?hr ?_;(case hd => rfl);(case hg => rfl);(case hr => first|(go_simp;done)|(go_simp;rfl));intro gb228 hg w50 hbox hb;have n0_:=mk_ (rb_ (qr_ HO210) hb);have n1_:=mk_ (rb_ (qr_ HO213) hb);have n2_:=mk_ (rb_ (qr_ HO216) hb);have n3_:=mk_ (rb_ (qr_ HO221) hb);have n4_:=mk_ (rb_ (qr_ HO224) hb);have n5_:=mk_ (rb_ (qr_ HO227) hb);have n6_:=mk_ (blk_below (g:=gb205) (o:=.cells #[.int .i64 a0_0,.slice A0_1 l0_1.length c0_1,.slice A0_2 l0_2.length c0_2,.slice A0_3 l0_3.length c0_3] 25 (0,0)) (qk_ BK205) hb);have n7_:=mk_ (st_ (qc_ HB GE205) hb);have n8_:=mk_ (hbox);have n9_:=mk_ ((by rw [hg];exact (bz_ (qc_ HB GE205)) : w.heap.size ≤ gb228));have n10_:=mk_ ((by rw [hg];exact (bz_ (qc_ HB GE205)) : w.heap.size ≤ gb228));have n11_:=mk_ ((by rw [hg];exact Nat.ne_of_lt (blk_lt (g:=gb205) (o:=.cells #[.int .i64 a0_0,.slice A0_1 l0_1.length c0_1,.slice A0_2 l0_2.length c0_2,.slice A0_3 l0_3.length c0_3] 25 (0,0)) (qk_ BK205)) : gb205 ≠ gb228));have n12_:=mk_ ((by rw [hg];exact Nat.ne_of_gt (blk_lt (g:=gb205) (o:=.cells #[.int .i64 a0_0,.slice A0_1 l0_1.length c0_1,.slice A0_2 l0_2.length c0_2,.slice A0_3 l0_3.length c0_3] 25 (0,0)) (qk_ BK205)) : gb228 ≠ gb205));clear HO210 HO213 HO216 HO221 HO224 HO227 BK205 HB;have HO210:=n0_;have HO213:=n1_;have HO216:=n2_;have HO221:=n3_;have HO224:=n4_;have HO227:=n5_;have BK205:=n6_;have HB:=n7_;have BK228:=n8_;have GW228:=n9_;have GE228:=n10_;have NB205_228:=n11_;have NB228_205:=n12_;clear n0_ n1_ n2_ n3_ n4_ n5_ n6_ n7_ n8_ n9_ n10_ n11_ n12_ hb hbox hg;have hnb51:=NB228_205.out;have hnc51:=NB205_228.out;have hcz52_0 : w50.cell? ⟨gb228,0,none⟩ = some (.int .i64 0):=(bc_ BK228.out 0).trans rfl;have hcz52_1 : w50.cell? ⟨gb228,1,none⟩ = some (.slice none 0 0):=(bc_ BK228.out 1).trans rfl;have hcz52_2 : w50.cell? ⟨gb228,2,none⟩ = some (.slice none 0 0):=(bc_ BK228.out 2).trans rfl;have hcz52_3 : w50.cell? ⟨gb228,3,none⟩ = some (.slice none 0 0):=(bc_ BK228.out 3).trans rfl;have hfz52_0:=bf_ BK228.out 0;have hfz52_1:=bf_ BK228.out 1;have hfz52_2:=bf_ BK228.out 2;have hfz52_3:=bf_ BK228.out 3;obtain ⟨Ao53,co53,eo53⟩:=Kd.R_slice HO221.out;subst eo53;obtain ⟨Ao54,co54,eo54⟩:=Kd.R_slice HO224.out;subst eo54;obtain ⟨Ao55,co55,eo55⟩:=Kd.R_slice HO227.out;subst eo55)|((with_reducible refine gate_callee (f:=7) rfl ?_);refine goesL_ (some 18) rfl rfl Tryd.func7 (by kernel_rfl) rfl #[.agg #[.int .i64 t218,.slice Ao53 t219.length co53,.slice Ao54 t222.length co54,.slice Ao55 t225.length co55]] rfl qm_ ?_;(with_reducible refine (impl_NetText.calls t218 _ _ t219 _ _ t222 _ _ t225 t229 _ ?side1 ?side2 ?side3 ?side4 ?side5 ?side6 A10.out).mono ?_);(case side1 => refine (rr_ (e:=39) (base:=w.heap.size) (ok:=fun k_ => (True ∧ some k_ ≠ (.slice Ao44 t208.length co44 : Value).ownBlock)) (n:=t219.length) (c:=co53) ?_).2.2;exact (by (with_reducible repeat (first|apply ra_|apply rn_|apply rd_));exact (rm_ (rf_ (p:=⟨gb228,3,none⟩) (rf_ (p:=⟨gb228,2,none⟩) (rf_ (p:=⟨gb228,1,none⟩) (rf_ (p:=⟨gb228,0,none⟩) (rt_ HO221.out BK228.out (by decide)) (λ_ h=>h.2) (.int .i64 t218)) (λ_ h=>h.2) (.slice Ao53 t219.length co53)) (λ_ h=>h.2) (.slice Ao54 t222.length co54)) (λ_ h=>h.2) (.slice Ao55 t225.length co55)) (λ_ h=>h.1))));(case side2 => exact (rr_ HO221.out).2.1);(case side3 => refine (rr_ (e:=3) (base:=w.heap.size) (ok:=fun k_ => ((some k_ ≠ (.slice Ao55 t225.length co55 : Value).ownBlock ∧ some k_ ≠ (.slice Ao45 t211.length co45 : Value).ownBlock) ∧ some k_ ≠ (.slice Ao46 t214.length co46 : Value).ownBlock)) (n:=t222.length) (c:=co54) ?_).2.2;exact (by (with_reducible repeat (first|apply ra_|apply rn_|apply rd_));exact (rm_ (rf_ (p:=⟨gb228,3,none⟩) (rf_ (p:=⟨gb228,2,none⟩) (rf_ (p:=⟨gb228,1,none⟩) (rf_ (p:=⟨gb228,0,none⟩) (rt_ HO224.out BK228.out (by decide)) (λ_ h=>h.2) (.int .i64 t218)) (λ_ h=>h.2) (.slice Ao53 t219.length co53)) (λ_ h=>h.2) (.slice Ao54 t222.length co54)) (λ_ h=>h.2) (.slice Ao55 t225.length co55)) (λ_ h=>h.1))));(case side4 => exact (rr_ HO224.out).2.1);(case side5 => refine (rr_ (e:=3) (base:=w.heap.size) (ok:=fun k_ => ((some k_ ≠ (.slice Ao54 t222.length co54 : Value).ownBlock ∧ some k_ ≠ (.slice Ao45 t211.length co45 : Value).ownBlock) ∧ some k_ ≠ (.slice Ao46 t214.length co46 : Value).ownBlock)) (n:=t225.length) (c:=co55) ?_).2.2;exact (by (with_reducible repeat (first|apply ra_|apply rn_|apply rd_));exact (rm_ (rf_ (p:=⟨gb228,3,none⟩) (rf_ (p:=⟨gb228,2,none⟩) (rf_ (p:=⟨gb228,1,none⟩) (rf_ (p:=⟨gb228,0,none⟩) (rt_ HO227.out BK228.out (by decide)) (λ_ h=>h.2) (.int .i64 t218)) (λ_ h=>h.2) (.slice Ao53 t219.length co53)) (λ_ h=>h.2) (.slice Ao54 t222.length co54)) (λ_ h=>h.2) (.slice Ao55 t225.length co55)) (λ_ h=>h.1))));(case side6 => exact (rr_ HO227.out).2.1);rintro e w56 ⟨rfl,hb⟩;refine ⟨_,rfl,?_⟩;have n0_:=mk_ (rb_ (by (with_reducible repeat (first|apply ra_|apply rn_|apply rd_));exact (rm_ (rf_ (p:=⟨gb228,3,none⟩) (rf_ (p:=⟨gb228,2,none⟩) (rf_ (p:=⟨gb228,1,none⟩) (rf_ (p:=⟨gb228,0,none⟩) (rt_ HO210.out BK228.out (by decide)) (λ_ h=>h.2) (.int .i64 t218)) (λ_ h=>h.2) (.slice Ao53 t219.length co53)) (λ_ h=>h.2) (.slice Ao54 t222.length co54)) (λ_ h=>h.2) (.slice Ao55 t225.length co55)) (λ_ h=>h.1))) hb);have n1_:=mk_ (rb_ (by (with_reducible repeat (first|apply ra_|apply rn_|apply rd_));exact (rm_ (rf_ (p:=⟨gb228,3,none⟩) (rf_ (p:=⟨gb228,2,none⟩) (rf_ (p:=⟨gb228,1,none⟩) (rf_ (p:=⟨gb228,0,none⟩) (rt_ HO213.out BK228.out (by decide)) (λ_ h=>h.2) (.int .i64 t218)) (λ_ h=>h.2) (.slice Ao53 t219.length co53)) (λ_ h=>h.2) (.slice Ao54 t222.length co54)) (λ_ h=>h.2) (.slice Ao55 t225.length co55)) (λ_ h=>h.1))) hb);have n2_:=mk_ (rb_ (by (with_reducible repeat (first|apply ra_|apply rn_|apply rd_));exact (rm_ (rf_ (p:=⟨gb228,3,none⟩) (rf_ (p:=⟨gb228,2,none⟩) (rf_ (p:=⟨gb228,1,none⟩) (rf_ (p:=⟨gb228,0,none⟩) (rt_ HO216.out BK228.out (by decide)) (λ_ h=>h.2) (.int .i64 t218)) (λ_ h=>h.2) (.slice Ao53 t219.length co53)) (λ_ h=>h.2) (.slice Ao54 t222.length co54)) (λ_ h=>h.2) (.slice Ao55 t225.length co55)) (λ_ h=>h.1))) hb);have n3_:=mk_ (rb_ (by (with_reducible repeat (first|apply ra_|apply rn_|apply rd_));exact (rm_ (rf_ (p:=⟨gb228,3,none⟩) (rf_ (p:=⟨gb228,2,none⟩) (rf_ (p:=⟨gb228,1,none⟩) (rf_ (p:=⟨gb228,0,none⟩) (rt_ HO221.out BK228.out (by decide)) (λ_ h=>h.2) (.int .i64 t218)) (λ_ h=>h.2) (.slice Ao53 t219.length co53)) (λ_ h=>h.2) (.slice Ao54 t222.length co54)) (λ_ h=>h.2) (.slice Ao55 t225.length co55)) (λ_ h=>h.1))) hb);have n4_:=mk_ (rb_ (by (with_reducible repeat (first|apply ra_|apply rn_|apply rd_));exact (rm_ (rf_ (p:=⟨gb228,3,none⟩) (rf_ (p:=⟨gb228,2,none⟩) (rf_ (p:=⟨gb228,1,none⟩) (rf_ (p:=⟨gb228,0,none⟩) (rt_ HO224.out BK228.out (by decide)) (λ_ h=>h.2) (.int .i64 t218)) (λ_ h=>h.2) (.slice Ao53 t219.length co53)) (λ_ h=>h.2) (.slice Ao54 t222.length co54)) (λ_ h=>h.2) (.slice Ao55 t225.length co55)) (λ_ h=>h.1))) hb);have n5_:=mk_ (rb_ (by (with_reducible repeat (first|apply ra_|apply rn_|apply rd_));exact (rm_ (rf_ (p:=⟨gb228,3,none⟩) (rf_ (p:=⟨gb228,2,none⟩) (rf_ (p:=⟨gb228,1,none⟩) (rf_ (p:=⟨gb228,0,none⟩) (rt_ HO227.out BK228.out (by decide)) (λ_ h=>h.2) (.int .i64 t218)) (λ_ h=>h.2) (.slice Ao53 t219.length co53)) (λ_ h=>h.2) (.slice Ao54 t222.length co54)) (λ_ h=>h.2) (.slice Ao55 t225.length co55)) (λ_ h=>h.1))) hb);have n6_:=mk_ (blk_below (g:=gb205) (o:=.cells #[.int .i64 a0_0,.slice A0_1 l0_1.length c0_1,.slice A0_2 l0_2.length c0_2,.slice A0_3 l0_3.length c0_3] 25 (0,0)) (by (with_reducible repeat (first|apply kn_|apply kd_|apply ka_));refine blk_far ?_ NB205_228.out _;(with_reducible repeat (first|apply kn_|apply kd_|apply ka_));refine blk_far ?_ NB205_228.out _;(with_reducible repeat (first|apply kn_|apply kd_|apply ka_));refine blk_far ?_ NB205_228.out _;(with_reducible repeat (first|apply kn_|apply kd_|apply ka_));refine blk_far ?_ NB205_228.out _;(with_reducible repeat (first|apply kn_|apply kd_|apply ka_));exact BK205.out) hb);have n7_:=mk_ (blk_below (g:=gb228) (o:=.cells #[.int .i64 t218,.slice Ao53 t219.length co53,.slice Ao54 t222.length co54,.slice Ao55 t225.length co55] 30 (0,0)) (by (with_reducible repeat (first|apply kn_|apply kd_|apply ka_));refine blk_put (cs:=#[.int .i64 t218,.slice Ao53 t219.length co53,.slice Ao54 t222.length co54,.slice none 0 0]) ?_ 3 _ rfl;(with_reducible repeat (first|apply kn_|apply kd_|apply ka_));refine blk_put (cs:=#[.int .i64 t218,.slice Ao53 t219.length co53,.slice none 0 0,.slice none 0 0]) ?_ 2 _ rfl;(with_reducible repeat (first|apply kn_|apply kd_|apply ka_));refine blk_put (cs:=#[.int .i64 t218,.slice none 0 0,.slice none 0 0,.slice none 0 0]) ?_ 1 _ rfl;(with_reducible repeat (first|apply kn_|apply kd_|apply ka_));refine blk_put (cs:=#[.int .i64 0,.slice none 0 0,.slice none 0 0,.slice none 0 0]) ?_ 0 _ rfl;(with_reducible repeat (first|apply kn_|apply kd_|apply ka_));exact BK228.out) hb);have n8_:=mk_ (st_ (qd_ HB GE205 GE228) hb);clear HO210 HO213 HO216 HO221 HO224 HO227 BK205 BK228 HB;have HO210:=n0_;have HO213:=n1_;have HO216:=n2_;have HO221:=n3_;have HO224:=n4_;have HO227:=n5_;have BK205:=n6_;have BK228:=n7_;have HB:=n8_;clear n0_ n1_ n2_ n3_ n4_ n5_ n6_ n7_ n8_;(try clear hb);(try clear hb2);(try clear hk);(try clear hi)))
    have n0_:=mk_ (rd_ HO210.out)
    have n1_:=mk_ (rd_ HO213.out)
    have n2_:=mk_ (rd_ HO216.out)
    have n3_:=mk_ (rd_ HO221.out)
    have n4_:=mk_ (rd_ HO224.out)
    have n5_:=mk_ (rd_ HO227.out)
    have n6_:=mk_ (kd_ BK205.out)
    have n7_:=mk_ (kd_ BK228.out)
    have n8_:=mk_ (bd_ HB.out)
    clear HO210
    clear HO213
    clear HO216
    clear HO221
    clear HO224
    clear HO227
    clear BK205
    clear BK228
    clear HB
    have HO210:=n0_
    have HO213:=n1_
    have HO216:=n2_
    have HO221:=n3_
    have HO224:=n4_
    have HO227:=n5_
    have BK205:=n6_
    have BK228:=n7_
    have HB:=n8_
    clear n0_ n1_ n2_ n3_ n4_ n5_ n6_ n7_ n8_
    refine start_ (n:=5) (S:=fun w' => w'.cell? ⟨gb228,0,none⟩ = some (.int .i64 t218) ∧ w'.cell? ⟨gb228,1,none⟩ = some (.slice Ao53 t219.length co53) ∧ w'.cell? ⟨gb228,2,none⟩ = some (.slice Ao54 t222.length co54) ∧ w'.cell? ⟨gb228,3,none⟩ = some (.slice Ao55 t225.length co55) ∧ w'.cell? ⟨gb205,0,none⟩ = some (.int .i64 a0_0) ∧ w'.cell? ⟨gb205,1,none⟩ = some (.slice A0_1 l0_1.length c0_1) ∧ w'.cell? ⟨gb205,2,none⟩ = some (.slice A0_2 l0_2.length c0_2) ∧ w'.cell? ⟨gb205,3,none⟩ = some (.slice A0_3 l0_3.length c0_3)) (ds:=[]) #[false,false,false,false,false] (by kernel_rfl) rfl rfl ⟨(bc_ BK228.out 0).trans rfl,(bc_ BK228.out 1).trans rfl,(bc_ BK228.out 2).trans rfl,(bc_ BK228.out 3).trans rfl,(bc_ BK205.out 0).trans rfl,(bc_ BK205.out 1).trans rfl,(bc_ BK205.out 2).trans rfl,(bc_ BK205.out 3).trans rfl⟩ (fun hHeld => ?_)
    generalize w56.drew = w57 at HO210 HO213 HO216 HO221 HO224 HO227 BK205 BK228 HB hHeld ⊢
    refine take_ (i:=0) (N:=some 22) (v:=?_) (a':=?_) #[true,false,false,false,false] rfl rfl (by kernel_rfl) (fun _ _ _ h => h) (Or.inl ⟨by rfl,?_⟩) hHeld ?_ ?_
    rotate_left
    ·rintro w' ⟨s0,s1,s2,s3,s4,s5,s6,s7⟩
     go_simp
     with_reducible rfl
    rotate_left
    ·simp only [Act.put,sx_,sy_,sz_,i64_w,i32_w]
     rfl
    refine take_ (i:=1) (N:=some 23) (v:=?_) (a':=?_) #[true,true,false,false,false] rfl rfl (by kernel_rfl) (fun _ _ _ h => h) (Or.inl ⟨by rfl,?_⟩) hHeld ?_ ?_
    rotate_left
    ·rintro w' ⟨s0,s1,s2,s3,s4,s5,s6,s7⟩
     go_simp
     with_reducible rfl
    rotate_left
    ·simp only [Act.put,sx_,sy_,sz_,i64_w,i32_w]
     rfl
    refine one_ (i:=2) (N:=some 24) #[true,true,true,false,false] rfl rfl (by kernel_rfl) (by decide) (fun K hK => ?_)
    refine goes_ Tryd.func6 (by kernel_rfl) rfl #[.agg #[.int .i64 a0_0,.slice A0_1 l0_1.length c0_1,.slice A0_2 l0_2.length c0_2,.slice A0_3 l0_3.length c0_3]] (by rfl) rfl rfl qm_ ?_
    with_reducible refine (laws_toNet.calls k a0_0 _ _ l0_1 _ _ l0_2 _ _ l0_3 t230 t231 t234 t237 _ ?side1 ?side2 ?side3 ?side4 ?side5 ?side6 A12.out).mono ?_
    (case side1 => exact qn_ HR0_1 HB)
    (case side2 => exact HC0_1.out)
    (case side3 => exact qn_ HR0_2 HB)
    (case side4 => exact HC0_2.out)
    (case side5 => exact qn_ HR0_3 HB)
    (case side6 => exact HC0_3.out)
    rintro e w58 ⟨v232,v235,v238,rfl,ho0,ho1,ho2,hb⟩
    refine ⟨_,rfl,?_⟩
    have n0_:=mk_ (re_ (qr_ HO210) (Kd.R_base ho0) hb)
    have n1_:=mk_ (rm_ (Kd.R_told (Kd.R_told (Kd.R_old (qr_ HO213) hb) (Kd.R_base ho1)) (Kd.R_base ho2)) (λ_ h=>h.1))
    have n2_:=mk_ (rm_ (Kd.R_told (Kd.R_told (Kd.R_old (qr_ HO216) hb) (Kd.R_base ho1)) (Kd.R_base ho2)) (λ_ h=>h.1))
    have n3_:=mk_ (re_ (qr_ HO221) (Kd.R_base ho0) hb)
    have n4_:=mk_ (rm_ (Kd.R_told (Kd.R_told (Kd.R_old (qr_ HO224) hb) (Kd.R_base ho1)) (Kd.R_base ho2)) (λ_ h=>h.1))
    have n5_:=mk_ (rm_ (Kd.R_told (Kd.R_told (Kd.R_old (qr_ HO227) hb) (Kd.R_base ho1)) (Kd.R_base ho2)) (λ_ h=>h.1))
    have n6_:=mk_ (Kd.R_lower (Kd.R_new' (Kd.R_new' ho0 (Kd.R_lt (qr_ HO210))) (Kd.R_lt (qr_ HO221))) (bz_ (qd_ HB GE205 GE228)))
    have n7_:=mk_ (Kd.R_lower (Kd.R_new' (Kd.R_new' (Kd.R_new' (Kd.R_new' ho1 (Kd.R_lt (qr_ HO213))) (Kd.R_lt (qr_ HO216))) (Kd.R_lt (qr_ HO224))) (Kd.R_lt (qr_ HO227))) (bz_ (qd_ HB GE205 GE228)))
    have n8_:=mk_ (Kd.R_lower (Kd.R_new' (Kd.R_new' (Kd.R_new' (Kd.R_new' ho2 (Kd.R_lt (qr_ HO213))) (Kd.R_lt (qr_ HO216))) (Kd.R_lt (qr_ HO224))) (Kd.R_lt (qr_ HO227))) (bz_ (qd_ HB GE205 GE228)))
    have n9_:=mk_ (blk_below (g:=gb205) (o:=.cells #[.int .i64 a0_0,.slice A0_1 l0_1.length c0_1,.slice A0_2 l0_2.length c0_2,.slice A0_3 l0_3.length c0_3] 25 (0,0)) (qk_ BK205) hb)
    have n10_:=mk_ (blk_below (g:=gb228) (o:=.cells #[.int .i64 t218,.slice Ao53 t219.length co53,.slice Ao54 t222.length co54,.slice Ao55 t225.length co55] 30 (0,0)) (qk_ BK228) hb)
    have n11_:=mk_ (st_ (qd_ HB GE205 GE228) hb)
    clear HO210
    clear HO213
    clear HO216
    clear HO221
    clear HO224
    clear HO227
    clear BK205
    clear BK228
    clear HB
    have HO210:=n0_
    have HO213:=n1_
    have HO216:=n2_
    have HO221:=n3_
    have HO224:=n4_
    have HO227:=n5_
    have HO233:=n6_
    have HO236:=n7_
    have HO239:=n8_
    have BK205:=n9_
    have BK228:=n10_
    have HB:=n11_
    clear n0_ n1_ n2_ n3_ n4_ n5_ n6_ n7_ n8_ n9_ n10_ n11_
    (try clear hb)
    (try clear hb2)
    (try clear hk)
    (try clear hi)
    (try clear ho0)
    (try clear ho1)
    (try clear ho2)
    obtain ⟨Ao59,co59,eo59⟩:=Kd.R_slice HO233.out
    (first|subst eo59|(injection eo59 with f1_ f2_ f3_;have f4_:=f1_.symm;have f5_:=f3_.symm;clear f1_ f2_ f3_;subst f4_;subst f5_))
    obtain ⟨Ao60,co60,eo60⟩:=Kd.R_slice HO236.out
    (first|subst eo60|(injection eo60 with f1_ f2_ f3_;have f4_:=f1_.symm;have f5_:=f3_.symm;clear f1_ f2_ f3_;subst f4_;subst f5_))
    obtain ⟨Ao61,co61,eo61⟩:=Kd.R_slice HO239.out
    (first|subst eo61|(injection eo61 with f1_ f2_ f3_;have f4_:=f1_.symm;have f5_:=f3_.symm;clear f1_ f2_ f3_;subst f4_;subst f5_))
    refine hK.out _ _ ⟨(bc_ BK228.out 0).trans rfl,(bc_ BK228.out 1).trans rfl,(bc_ BK228.out 2).trans rfl,(bc_ BK228.out 3).trans rfl,(bc_ BK205.out 0).trans rfl,(bc_ BK205.out 1).trans rfl,(bc_ BK205.out 2).trans rfl,(bc_ BK205.out 3).trans rfl⟩ (fun hHeld => ?_)
    clear hK K
    refine norm_ (a':=?_) ?_ ?_
    rotate_left
    ·show Act.put _ (some 24) _ = _
     simp only [Act.put,sx_,sy_,sz_,i64_w,i32_w]
     rfl
    refine one_ (i:=3) (N:=some 25) #[true,true,true,true,false] rfl rfl (by kernel_rfl) (by decide) (fun K hK => ?_)
    refine goes_ Tryd.func8 (by kernel_rfl) rfl #[.agg #[.int .i64 t218,.slice Ao53 t219.length co53,.slice Ao54 t222.length co54,.slice Ao55 t225.length co55],.agg #[.int .i64 t230,.slice Ao59 t231.length co59,.slice Ao60 t234.length co60,.slice Ao61 t237.length co61]] (by rfl) rfl rfl qm_ ?_
    with_reducible refine (laws_eqNet.calls k t218 _ _ t219 _ _ t222 _ _ t225 t230 _ _ t231 _ _ t234 _ _ t237 false _ ?side1 ?side2 ?side3 ?side4 ?side5 ?side6 ?side7 ?side8 ?side9 ?side10 ?side11 ?side12 A13.out).mono ?_
    (case side1 => repeat (first|exact (rr_ HO221.out).2.2|(with_reducible refine ca_ ?_ _)|(with_reducible refine cn_ ?_ _)|(with_reducible refine cd_ ?_)))
    (case side2 => exact (rr_ HO221.out).2.1)
    (case side3 => repeat (first|exact (rr_ HO224.out).2.2|(with_reducible refine ca_ ?_ _)|(with_reducible refine cn_ ?_ _)|(with_reducible refine cd_ ?_)))
    (case side4 => exact (rr_ HO224.out).2.1)
    (case side5 => repeat (first|exact (rr_ HO227.out).2.2|(with_reducible refine ca_ ?_ _)|(with_reducible refine cn_ ?_ _)|(with_reducible refine cd_ ?_)))
    (case side6 => exact (rr_ HO227.out).2.1)
    (case side7 => repeat (first|exact (rr_ HO233.out).2.2|(with_reducible refine ca_ ?_ _)|(with_reducible refine cn_ ?_ _)|(with_reducible refine cd_ ?_)))
    (case side8 => exact (rr_ HO233.out).2.1)
    (case side9 => repeat (first|exact (rr_ HO236.out).2.2|(with_reducible refine ca_ ?_ _)|(with_reducible refine cn_ ?_ _)|(with_reducible refine cd_ ?_)))
    (case side10 => exact (rr_ HO236.out).2.1)
    (case side11 => repeat (first|exact (rr_ HO239.out).2.2|(with_reducible refine ca_ ?_ _)|(with_reducible refine cn_ ?_ _)|(with_reducible refine cd_ ?_)))
    (case side12 => exact (rr_ HO239.out).2.1)
    rintro e w62 ⟨rfl,hb⟩
    refine ⟨_,rfl,?_⟩
    have n0_:=mk_ (rb_ (qr_ HO210) hb)
    have n1_:=mk_ (rb_ (qr_ HO213) hb)
    have n2_:=mk_ (rb_ (qr_ HO216) hb)
    have n3_:=mk_ (rb_ (qr_ HO221) hb)
    have n4_:=mk_ (rb_ (qr_ HO224) hb)
    have n5_:=mk_ (rb_ (qr_ HO227) hb)
    have n6_:=mk_ (rb_ (qr_ HO233) hb)
    have n7_:=mk_ (rb_ (qr_ HO236) hb)
    have n8_:=mk_ (rb_ (qr_ HO239) hb)
    have n9_:=mk_ (blk_below (g:=gb205) (o:=.cells #[.int .i64 a0_0,.slice A0_1 l0_1.length c0_1,.slice A0_2 l0_2.length c0_2,.slice A0_3 l0_3.length c0_3] 25 (0,0)) (qk_ BK205) hb)
    have n10_:=mk_ (blk_below (g:=gb228) (o:=.cells #[.int .i64 t218,.slice Ao53 t219.length co53,.slice Ao54 t222.length co54,.slice Ao55 t225.length co55] 30 (0,0)) (qk_ BK228) hb)
    have n11_:=mk_ (st_ (qd_ HB GE205 GE228) hb)
    clear HO210
    clear HO213
    clear HO216
    clear HO221
    clear HO224
    clear HO227
    clear HO233
    clear HO236
    clear HO239
    clear BK205
    clear BK228
    clear HB
    have HO210:=n0_
    have HO213:=n1_
    have HO216:=n2_
    have HO221:=n3_
    have HO224:=n4_
    have HO227:=n5_
    have HO233:=n6_
    have HO236:=n7_
    have HO239:=n8_
    have BK205:=n9_
    have BK228:=n10_
    have HB:=n11_
    clear n0_ n1_ n2_ n3_ n4_ n5_ n6_ n7_ n8_ n9_ n10_ n11_
    (try clear hb)
    (try clear hb2)
    (try clear hk)
    (try clear hi)
    refine hK.out _ _ ⟨(bc_ BK228.out 0).trans rfl,(bc_ BK228.out 1).trans rfl,(bc_ BK228.out 2).trans rfl,(bc_ BK228.out 3).trans rfl,(bc_ BK205.out 0).trans rfl,(bc_ BK205.out 1).trans rfl,(bc_ BK205.out 2).trans rfl,(bc_ BK205.out 3).trans rfl⟩ (fun hHeld => ?_)
    clear hK K
    refine norm_ (a':=?_) ?_ ?_
    rotate_left
    ·show Act.put _ (some 25) _ = _
     simp only [Act.put,sx_,sy_,sz_,i64_w,i32_w]
     rfl
    refine pure_ (i:=4) (N:=some 26) (v:=?_) (a':=?_) #[true,true,true,true,true] rfl rfl (by kernel_rfl) (fun _ _ _ h => h) (Or.inl ⟨by rfl,?_⟩) ?_ ?_
    rotate_left
    ·intro w'
     go_simp
     with_reducible rfl
    rotate_left
    ·simp only [Act.put,sx_,sy_,sz_,i64_w,i32_w]
     rfl
    refine done_ (by kernel_rfl) ?_
    try go_wp2
    go_ret
    exact ⟨qe_,u2_ HB GE205 GE228⟩
  ·rw [if_neg c11] at H
   have c11b0 : (t229.toList == t217.toList) = false:=beq_eq_false_iff_ne.mpr c11
   have c11b1 : (t229.toList != t217.toList) = true:=bne_iff_ne.mpr c11
   obtain rfl:=Option.some.inj H
   go_enter Tryd.func3,Tryd.ntmps3
   go_wp2_with (first|((with_reducible refine gate_dst (N:=1) rfl ?_);refine box_event ?hg (N:=1) ?hd (cs:=#[.int .i64 a0_0,.slice A0_1 l0_1.length c0_1,.slice A0_2 l0_2.length c0_2,.slice A0_3 l0_3.length c0_3]) (t:=25) ?hr ?_;(case hd => rfl);(case hg => rfl);(case hr => first|(go_simp;done)|(go_simp;rfl));intro gb205 hg w63 hbox hb;have n0_:=mk_ (st_ (qb_ HB) hb);have n1_:=mk_ (hbox);have n2_:=mk_ ((by rw [hg];exact (bz_ (qb_ HB)) : w.heap.size ≤ gb205));have n3_:=mk_ ((by rw [hg];exact (bz_ (qb_ HB)) : w.heap.size ≤ gb205));clear HB;have HB:=n0_;have BK205:=n1_;have GW205:=n2_;have GE205:=n3_;clear n0_ n1_ n2_ n3_ hb hbox hg;have hcz64_0 : w63.cell? ⟨gb205,0,none⟩ = some (.int .i64 a0_0):=(bc_ BK205.out 0).trans rfl;have hcz64_1 : w63.cell? ⟨gb205,1,none⟩ = some (.slice A0_1 l0_1.length c0_1):=(bc_ BK205.out 1).trans rfl;have hcz64_2 : w63.cell? ⟨gb205,2,none⟩ = some (.slice A0_2 l0_2.length c0_2):=(bc_ BK205.out 2).trans rfl;have hcz64_3 : w63.cell? ⟨gb205,3,none⟩ = some (.slice A0_3 l0_3.length c0_3):=(bc_ BK205.out 3).trans rfl;have hfz64_0:=bf_ BK205.out 0;have hfz64_1:=bf_ BK205.out 1;have hfz64_2:=bf_ BK205.out 2;have hfz64_3:=bf_ BK205.out 3)|((with_reducible refine gate_callee (f:=4) rfl ?_);refine goesL_ (some 9) rfl rfl Tryd.func4 (by kernel_rfl) rfl #[.agg #[.int .i64 a0_0,.slice A0_1 l0_1.length c0_1,.slice A0_2 l0_2.length c0_2,.slice A0_3 l0_3.length c0_3],.int .i64 1048576] rfl qm_ ?_;(with_reducible refine (laws_szNet.calls a0_0 _ _ l0_1 _ _ l0_2 _ _ l0_3 1048576 t206 _ ?side1 ?side2 ?side3 ?side4 ?side5 ?side6 A2.out).mono ?_);(case side1 => exact qn_ HR0_1 HB);(case side2 => exact HC0_1.out);(case side3 => exact qn_ HR0_2 HB);(case side4 => exact HC0_2.out);(case side5 => exact qn_ HR0_3 HB);(case side6 => exact HC0_3.out);rintro e w65 ⟨rfl,hb⟩;refine ⟨_,rfl,?_⟩;have n0_:=mk_ (blk_below (g:=gb205) (o:=.cells #[.int .i64 a0_0,.slice A0_1 l0_1.length c0_1,.slice A0_2 l0_2.length c0_2,.slice A0_3 l0_3.length c0_3] 25 (0,0)) (qk_ BK205) hb);have n1_:=mk_ (st_ (qc_ HB GE205) hb);clear BK205 HB;have BK205:=n0_;have HB:=n1_;clear n0_ n1_;(try clear hb);(try clear hb2);(try clear hk);(try clear hi);have hcz66_0 : w65.cell? ⟨gb205,0,none⟩ = some (.int .i64 a0_0):=(bc_ BK205.out 0).trans rfl;have hcz66_1 : w65.cell? ⟨gb205,1,none⟩ = some (.slice A0_1 l0_1.length c0_1):=(bc_ BK205.out 1).trans rfl;have hcz66_2 : w65.cell? ⟨gb205,2,none⟩ = some (.slice A0_2 l0_2.length c0_2):=(bc_ BK205.out 2).trans rfl;have hcz66_3 : w65.cell? ⟨gb205,3,none⟩ = some (.slice A0_3 l0_3.length c0_3):=(bc_ BK205.out 3).trans rfl;have hfz66_0:=bf_ BK205.out 0;have hfz66_1:=bf_ BK205.out 1;have hfz66_2:=bf_ BK205.out 2;have hfz66_3:=bf_ BK205.out 3)|((with_reducible refine gate_callee (f:=6) rfl ?_);refine goesL_ (some 13) rfl rfl Tryd.func6 (by kernel_rfl) rfl #[.agg #[.int .i64 a0_0,.slice A0_1 l0_1.length c0_1,.slice A0_2 l0_2.length c0_2,.slice A0_3 l0_3.length c0_3]] rfl qm_ ?_;(with_reducible refine (laws_toNet.calls k a0_0 _ _ l0_1 _ _ l0_2 _ _ l0_3 t207 t208 t211 t214 _ ?side1 ?side2 ?side3 ?side4 ?side5 ?side6 A7.out).mono ?_);(case side1 => exact qn_ HR0_1 HB);(case side2 => exact HC0_1.out);(case side3 => exact qn_ HR0_2 HB);(case side4 => exact HC0_2.out);(case side5 => exact qn_ HR0_3 HB);(case side6 => exact HC0_3.out);rintro e w67 ⟨v209,v212,v215,rfl,ho0,ho1,ho2,hb⟩;refine ⟨_,rfl,?_⟩;have n0_:=mk_ (Kd.R_lower ho0 (bz_ (qc_ HB GE205)));have n1_:=mk_ (Kd.R_lower ho1 (bz_ (qc_ HB GE205)));have n2_:=mk_ (Kd.R_lower ho2 (bz_ (qc_ HB GE205)));have n3_:=mk_ (blk_below (g:=gb205) (o:=.cells #[.int .i64 a0_0,.slice A0_1 l0_1.length c0_1,.slice A0_2 l0_2.length c0_2,.slice A0_3 l0_3.length c0_3] 25 (0,0)) (qk_ BK205) hb);have n4_:=mk_ (st_ (qc_ HB GE205) hb);clear BK205 HB;have HO210:=n0_;have HO213:=n1_;have HO216:=n2_;have BK205:=n3_;have HB:=n4_;clear n0_ n1_ n2_ n3_ n4_;(try clear hb);(try clear hb2);(try clear hk);(try clear hi);(try clear ho0);(try clear ho1);(try clear ho2);obtain ⟨Ao68,co68,eo68⟩:=Kd.R_slice HO210.out;subst eo68;obtain ⟨Ao69,co69,eo69⟩:=Kd.R_slice HO213.out;subst eo69;obtain ⟨Ao70,co70,eo70⟩:=Kd.R_slice HO216.out;subst eo70)|((with_reducible refine gate_callee (f:=5) rfl ?_);refine goesL_ (some 14) rfl rfl Tryd.func5 (by kernel_rfl) rfl #[.agg #[.int .i64 t207,.slice Ao68 t208.length co68,.slice Ao69 t211.length co69,.slice Ao70 t214.length co70]] rfl qm_ ?_;(with_reducible refine (spec_NetText.calls k t207 _ _ t208 _ _ t211 _ _ t214 t217 _ ?side1 ?side2 ?side3 ?side4 ?side5 ?side6 A8.out).mono ?_);(case side1 => repeat (first|exact (rr_ HO210.out).2.2|(with_reducible refine ca_ ?_ _)|(with_reducible refine cn_ ?_ _)|(with_reducible refine cd_ ?_)));(case side2 => exact (rr_ HO210.out).2.1);(case side3 => repeat (first|exact (rr_ HO213.out).2.2|(with_reducible refine ca_ ?_ _)|(with_reducible refine cn_ ?_ _)|(with_reducible refine cd_ ?_)));(case side4 => exact (rr_ HO213.out).2.1);(case side5 => repeat (first|exact (rr_ HO216.out).2.2|(with_reducible refine ca_ ?_ _)|(with_reducible refine cn_ ?_ _)|(with_reducible refine cd_ ?_)));(case side6 => exact (rr_ HO216.out).2.1);rintro e w71 ⟨rfl,hb⟩;refine ⟨_,rfl,?_⟩;have n0_:=mk_ (rb_ (qr_ HO210) hb);have n1_:=mk_ (rb_ (qr_ HO213) hb);have n2_:=mk_ (rb_ (qr_ HO216) hb);have n3_:=mk_ (blk_below (g:=gb205) (o:=.cells #[.int .i64 a0_0,.slice A0_1 l0_1.length c0_1,.slice A0_2 l0_2.length c0_2,.slice A0_3 l0_3.length c0_3] 25 (0,0)) (qk_ BK205) hb);have n4_:=mk_ (st_ (qc_ HB GE205) hb);clear HO210 HO213 HO216 BK205 HB;have HO210:=n0_;have HO213:=n1_;have HO216:=n2_;have BK205:=n3_;have HB:=n4_;clear n0_ n1_ n2_ n3_ n4_;(try clear hb);(try clear hb2);(try clear hk);(try clear hi);have hcz72_0 : w71.cell? ⟨gb205,0,none⟩ = some (.int .i64 a0_0):=(bc_ BK205.out 0).trans rfl;have hcz72_1 : w71.cell? ⟨gb205,1,none⟩ = some (.slice A0_1 l0_1.length c0_1):=(bc_ BK205.out 1).trans rfl;have hcz72_2 : w71.cell? ⟨gb205,2,none⟩ = some (.slice A0_2 l0_2.length c0_2):=(bc_ BK205.out 2).trans rfl;have hcz72_3 : w71.cell? ⟨gb205,3,none⟩ = some (.slice A0_3 l0_3.length c0_3):=(bc_ BK205.out 3).trans rfl;have hfz72_0:=bf_ BK205.out 0;have hfz72_1:=bf_ BK205.out 1;have hfz72_2:=bf_ BK205.out 2;have hfz72_3:=bf_ BK205.out 3)|((with_reducible refine gate_callee (f:=6) rfl ?_);refine goesL_ (some 16) rfl rfl Tryd.func6 (by kernel_rfl) rfl #[.agg #[.int .i64 a0_0,.slice A0_1 l0_1.length c0_1,.slice A0_2 l0_2.length c0_2,.slice A0_3 l0_3.length c0_3]] rfl qm_ ?_;(with_reducible refine (laws_toNet.calls k a0_0 _ _ l0_1 _ _ l0_2 _ _ l0_3 t218 t219 t222 t225 _ ?side1 ?side2 ?side3 ?side4 ?side5 ?side6 A9.out).mono ?_);(case side1 => exact qn_ HR0_1 HB);(case side2 => exact HC0_1.out);(case side3 => exact qn_ HR0_2 HB);(case side4 => exact HC0_2.out);(case side5 => exact qn_ HR0_3 HB);(case side6 => exact HC0_3.out);rintro e w73 ⟨v220,v223,v226,rfl,ho0,ho1,ho2,hb⟩;refine ⟨_,rfl,?_⟩;have n0_:=mk_ (re_ (qr_ HO210) (Kd.R_base ho0) hb);have n1_:=mk_ (rm_ (Kd.R_told (Kd.R_told (Kd.R_old (qr_ HO213) hb) (Kd.R_base ho1)) (Kd.R_base ho2)) (λ_ h=>h.1));have n2_:=mk_ (rm_ (Kd.R_told (Kd.R_told (Kd.R_old (qr_ HO216) hb) (Kd.R_base ho1)) (Kd.R_base ho2)) (λ_ h=>h.1));have n3_:=mk_ (Kd.R_lower (Kd.R_new' ho0 (Kd.R_lt (qr_ HO210))) (bz_ (qc_ HB GE205)));have n4_:=mk_ (Kd.R_lower (Kd.R_new' (Kd.R_new' ho1 (Kd.R_lt (qr_ HO213))) (Kd.R_lt (qr_ HO216))) (bz_ (qc_ HB GE205)));have n5_:=mk_ (Kd.R_lower (Kd.R_new' (Kd.R_new' ho2 (Kd.R_lt (qr_ HO213))) (Kd.R_lt (qr_ HO216))) (bz_ (qc_ HB GE205)));have n6_:=mk_ (blk_below (g:=gb205) (o:=.cells #[.int .i64 a0_0,.slice A0_1 l0_1.length c0_1,.slice A0_2 l0_2.length c0_2,.slice A0_3 l0_3.length c0_3] 25 (0,0)) (qk_ BK205) hb);have n7_:=mk_ (st_ (qc_ HB GE205) hb);clear HO210 HO213 HO216 BK205 HB;have HO210:=n0_;have HO213:=n1_;have HO216:=n2_;have HO221:=n3_;have HO224:=n4_;have HO227:=n5_;have BK205:=n6_;have HB:=n7_;clear n0_ n1_ n2_ n3_ n4_ n5_ n6_ n7_;(try clear hb);(try clear hb2);(try clear hk);(try clear hi);(try clear ho0);(try clear ho1);(try clear ho2))|((with_reducible refine gate_dst (N:=5) rfl ?_);refine box_event ?hg (N:=5) ?hd (cs:=#[.int .i64 0,.slice none 0 0,.slice none 0 0,.slice none 0 0]) (t:=30) ?hr ?_;(case hd => rfl);(case hg => rfl);(case hr => first|(go_simp;done)|(go_simp;rfl));intro gb228 hg w74 hbox hb;have n0_:=mk_ (rb_ (qr_ HO210) hb);have n1_:=mk_ (rb_ (qr_ HO213) hb);have n2_:=mk_ (rb_ (qr_ HO216) hb);have n3_:=mk_ (rb_ (qr_ HO221) hb);have n4_:=mk_ (rb_ (qr_ HO224) hb);have n5_:=mk_ (rb_ (qr_ HO227) hb);have n6_:=mk_ (blk_below (g:=gb205) (o:=.cells #[.int .i64 a0_0,.slice A0_1 l0_1.length c0_1,.slice A0_2 l0_2.length c0_2,.slice A0_3 l0_3.length c0_3] 25 (0,0)) (qk_ BK205) hb);have n7_:=mk_ (st_ (qc_ HB GE205) hb);have n8_:=mk_ (hbox);have n9_:=mk_ ((by rw [hg];exact (bz_ (qc_ HB GE205)) : w.heap.size ≤ gb228));have n10_:=mk_ ((by rw [hg];exact (bz_ (qc_ HB GE205)) : w.heap.size ≤ gb228));have n11_:=mk_ ((by rw [hg];exact Nat.ne_of_lt (blk_lt (g:=gb205) (o:=.cells #[.int .i64 a0_0,.slice A0_1 l0_1.length c0_1,.slice A0_2 l0_2.length c0_2,.slice A0_3 l0_3.length c0_3] 25 (0,0)) (qk_ BK205)) : gb205 ≠ gb228));have n12_:=mk_ ((by rw [hg];exact Nat.ne_of_gt (blk_lt (g:=gb205) (o:=.cells #[.int .i64 a0_0,.slice A0_1 l0_1.length c0_1,.slice A0_2 l0_2.length c0_2,.slice A0_3 l0_3.length c0_3] 25 (0,0)) (qk_ BK205)) : gb228 ≠ gb205));clear HO210 HO213 HO216 HO221 HO224 HO227 BK205 HB;have HO210:=n0_;have HO213:=n1_;have HO216:=n2_;have HO221:=n3_;have HO224:=n4_;have HO227:=n5_;have BK205:=n6_;have HB:=n7_;have BK228:=n8_;have GW228:=n9_;have GE228:=n10_;have NB205_228:=n11_;have NB228_205:=n12_;clear n0_ n1_ n2_ n3_ n4_ n5_ n6_ n7_ n8_ n9_ n10_ n11_ n12_ hb hbox hg;have hnb75:=NB228_205.out;have hnc75:=NB205_228.out;have hcz76_0 : w74.cell? ⟨gb228,0,none⟩ = some (.int .i64 0):=(bc_ BK228.out 0).trans rfl;have hcz76_1 : w74.cell? ⟨gb228,1,none⟩ = some (.slice none 0 0):=(bc_ BK228.out 1).trans rfl;have hcz76_2 : w74.cell? ⟨gb228,2,none⟩ = some (.slice none 0 0):=(bc_ BK228.out 2).trans rfl;have hcz76_3 : w74.cell? ⟨gb228,3,none⟩ = some (.slice none 0 0):=(bc_ BK228.out 3).trans rfl;have hfz76_0:=bf_ BK228.out 0;have hfz76_1:=bf_ BK228.out 1;have hfz76_2:=bf_ BK228.out 2;have hfz76_3:=bf_ BK228.out 3;obtain ⟨Ao77,co77,eo77⟩:=Kd.R_slice HO221.out;subst eo77;obtain ⟨Ao78,co78,eo78⟩:=Kd.R_slice HO224.out;subst eo78;obtain ⟨Ao79,co79,eo79⟩:=Kd.R_slice HO227.out;subst eo79)|((with_reducible refine gate_callee (f:=7) rfl ?_);refine goesL_ (some 18) rfl rfl Tryd.func7 (by kernel_rfl) rfl #[.agg #[.int .i64 t218,.slice Ao77 t219.length co77,.slice Ao78 t222.length co78,.slice Ao79 t225.length co79]] rfl qm_ ?_;(with_reducible refine (impl_NetText.calls t218 _ _ t219 _ _ t222 _ _ t225 t229 _ ?side1 ?side2 ?side3 ?side4 ?side5 ?side6 A10.out).mono ?_);(case side1 => refine (rr_ (e:=39) (base:=w.heap.size) (ok:=fun k_ => (True ∧ some k_ ≠ (.slice Ao68 t208.length co68 : Value).ownBlock)) (n:=t219.length) (c:=co77) ?_).2.2;exact (by (with_reducible repeat (first|apply ra_|apply rn_|apply rd_));exact (rm_ (rf_ (p:=⟨gb228,3,none⟩) (rf_ (p:=⟨gb228,2,none⟩) (rf_ (p:=⟨gb228,1,none⟩) (rf_ (p:=⟨gb228,0,none⟩) (rt_ HO221.out BK228.out (by decide)) (λ_ h=>h.2) (.int .i64 t218)) (λ_ h=>h.2) (.slice Ao77 t219.length co77)) (λ_ h=>h.2) (.slice Ao78 t222.length co78)) (λ_ h=>h.2) (.slice Ao79 t225.length co79)) (λ_ h=>h.1))));(case side2 => exact (rr_ HO221.out).2.1);(case side3 => refine (rr_ (e:=3) (base:=w.heap.size) (ok:=fun k_ => ((some k_ ≠ (.slice Ao79 t225.length co79 : Value).ownBlock ∧ some k_ ≠ (.slice Ao69 t211.length co69 : Value).ownBlock) ∧ some k_ ≠ (.slice Ao70 t214.length co70 : Value).ownBlock)) (n:=t222.length) (c:=co78) ?_).2.2;exact (by (with_reducible repeat (first|apply ra_|apply rn_|apply rd_));exact (rm_ (rf_ (p:=⟨gb228,3,none⟩) (rf_ (p:=⟨gb228,2,none⟩) (rf_ (p:=⟨gb228,1,none⟩) (rf_ (p:=⟨gb228,0,none⟩) (rt_ HO224.out BK228.out (by decide)) (λ_ h=>h.2) (.int .i64 t218)) (λ_ h=>h.2) (.slice Ao77 t219.length co77)) (λ_ h=>h.2) (.slice Ao78 t222.length co78)) (λ_ h=>h.2) (.slice Ao79 t225.length co79)) (λ_ h=>h.1))));(case side4 => exact (rr_ HO224.out).2.1);(case side5 => refine (rr_ (e:=3) (base:=w.heap.size) (ok:=fun k_ => ((some k_ ≠ (.slice Ao78 t222.length co78 : Value).ownBlock ∧ some k_ ≠ (.slice Ao69 t211.length co69 : Value).ownBlock) ∧ some k_ ≠ (.slice Ao70 t214.length co70 : Value).ownBlock)) (n:=t225.length) (c:=co79) ?_).2.2;exact (by (with_reducible repeat (first|apply ra_|apply rn_|apply rd_));exact (rm_ (rf_ (p:=⟨gb228,3,none⟩) (rf_ (p:=⟨gb228,2,none⟩) (rf_ (p:=⟨gb228,1,none⟩) (rf_ (p:=⟨gb228,0,none⟩) (rt_ HO227.out BK228.out (by decide)) (λ_ h=>h.2) (.int .i64 t218)) (λ_ h=>h.2) (.slice Ao77 t219.length co77)) (λ_ h=>h.2) (.slice Ao78 t222.length co78)) (λ_ h=>h.2) (.slice Ao79 t225.length co79)) (λ_ h=>h.1))));(case side6 => exact (rr_ HO227.out).2.1);rintro e w80 ⟨rfl,hb⟩;refine ⟨_,rfl,?_⟩;have n0_:=mk_ (rb_ (by (with_reducible repeat (first|apply ra_|apply rn_|apply rd_));exact (rm_ (rf_ (p:=⟨gb228,3,none⟩) (rf_ (p:=⟨gb228,2,none⟩) (rf_ (p:=⟨gb228,1,none⟩) (rf_ (p:=⟨gb228,0,none⟩) (rt_ HO210.out BK228.out (by decide)) (λ_ h=>h.2) (.int .i64 t218)) (λ_ h=>h.2) (.slice Ao77 t219.length co77)) (λ_ h=>h.2) (.slice Ao78 t222.length co78)) (λ_ h=>h.2) (.slice Ao79 t225.length co79)) (λ_ h=>h.1))) hb);have n1_:=mk_ (rb_ (by (with_reducible repeat (first|apply ra_|apply rn_|apply rd_));exact (rm_ (rf_ (p:=⟨gb228,3,none⟩) (rf_ (p:=⟨gb228,2,none⟩) (rf_ (p:=⟨gb228,1,none⟩) (rf_ (p:=⟨gb228,0,none⟩) (rt_ HO213.out BK228.out (by decide)) (λ_ h=>h.2) (.int .i64 t218)) (λ_ h=>h.2) (.slice Ao77 t219.length co77)) (λ_ h=>h.2) (.slice Ao78 t222.length co78)) (λ_ h=>h.2) (.slice Ao79 t225.length co79)) (λ_ h=>h.1))) hb);have n2_:=mk_ (rb_ (by (with_reducible repeat (first|apply ra_|apply rn_|apply rd_));exact (rm_ (rf_ (p:=⟨gb228,3,none⟩) (rf_ (p:=⟨gb228,2,none⟩) (rf_ (p:=⟨gb228,1,none⟩) (rf_ (p:=⟨gb228,0,none⟩) (rt_ HO216.out BK228.out (by decide)) (λ_ h=>h.2) (.int .i64 t218)) (λ_ h=>h.2) (.slice Ao77 t219.length co77)) (λ_ h=>h.2) (.slice Ao78 t222.length co78)) (λ_ h=>h.2) (.slice Ao79 t225.length co79)) (λ_ h=>h.1))) hb);have n3_:=mk_ (rb_ (by (with_reducible repeat (first|apply ra_|apply rn_|apply rd_));exact (rm_ (rf_ (p:=⟨gb228,3,none⟩) (rf_ (p:=⟨gb228,2,none⟩) (rf_ (p:=⟨gb228,1,none⟩) (rf_ (p:=⟨gb228,0,none⟩) (rt_ HO221.out BK228.out (by decide)) (λ_ h=>h.2) (.int .i64 t218)) (λ_ h=>h.2) (.slice Ao77 t219.length co77)) (λ_ h=>h.2) (.slice Ao78 t222.length co78)) (λ_ h=>h.2) (.slice Ao79 t225.length co79)) (λ_ h=>h.1))) hb);have n4_:=mk_ (rb_ (by (with_reducible repeat (first|apply ra_|apply rn_|apply rd_));exact (rm_ (rf_ (p:=⟨gb228,3,none⟩) (rf_ (p:=⟨gb228,2,none⟩) (rf_ (p:=⟨gb228,1,none⟩) (rf_ (p:=⟨gb228,0,none⟩) (rt_ HO224.out BK228.out (by decide)) (λ_ h=>h.2) (.int .i64 t218)) (λ_ h=>h.2) (.slice Ao77 t219.length co77)) (λ_ h=>h.2) (.slice Ao78 t222.length co78)) (λ_ h=>h.2) (.slice Ao79 t225.length co79)) (λ_ h=>h.1))) hb);have n5_:=mk_ (rb_ (by (with_reducible repeat (first|apply ra_|apply rn_|apply rd_));exact (rm_ (rf_ (p:=⟨gb228,3,none⟩) (rf_ (p:=⟨gb228,2,none⟩) (rf_ (p:=⟨gb228,1,none⟩) (rf_ (p:=⟨gb228,0,none⟩) (rt_ HO227.out BK228.out (by decide)) (λ_ h=>h.2) (.int .i64 t218)) (λ_ h=>h.2) (.slice Ao77 t219.length co77)) (λ_ h=>h.2) (.slice Ao78 t222.length co78)) (λ_ h=>h.2) (.slice Ao79 t225.length co79)) (λ_ h=>h.1))) hb);have n6_:=mk_ (blk_below (g:=gb205) (o:=.cells #[.int .i64 a0_0,.slice A0_1 l0_1.length c0_1,.slice A0_2 l0_2.length c0_2,.slice A0_3 l0_3.length c0_3] 25 (0,0)) (by (with_reducible repeat (first|apply kn_|apply kd_|apply ka_));refine blk_far ?_ NB205_228.out _;(with_reducible repeat (first|apply kn_|apply kd_|apply ka_));refine blk_far ?_ NB205_228.out _;(with_reducible repeat (first|apply kn_|apply kd_|apply ka_));refine blk_far ?_ NB205_228.out _;(with_reducible repeat (first|apply kn_|apply kd_|apply ka_));refine blk_far ?_ NB205_228.out _;(with_reducible repeat (first|apply kn_|apply kd_|apply ka_));exact BK205.out) hb);have n7_:=mk_ (blk_below (g:=gb228) (o:=.cells #[.int .i64 t218,.slice Ao77 t219.length co77,.slice Ao78 t222.length co78,.slice Ao79 t225.length co79] 30 (0,0)) (by (with_reducible repeat (first|apply kn_|apply kd_|apply ka_));refine blk_put (cs:=#[.int .i64 t218,.slice Ao77 t219.length co77,.slice Ao78 t222.length co78,.slice none 0 0]) ?_ 3 _ rfl;(with_reducible repeat (first|apply kn_|apply kd_|apply ka_));refine blk_put (cs:=#[.int .i64 t218,.slice Ao77 t219.length co77,.slice none 0 0,.slice none 0 0]) ?_ 2 _ rfl;(with_reducible repeat (first|apply kn_|apply kd_|apply ka_));refine blk_put (cs:=#[.int .i64 t218,.slice none 0 0,.slice none 0 0,.slice none 0 0]) ?_ 1 _ rfl;(with_reducible repeat (first|apply kn_|apply kd_|apply ka_));refine blk_put (cs:=#[.int .i64 0,.slice none 0 0,.slice none 0 0,.slice none 0 0]) ?_ 0 _ rfl;(with_reducible repeat (first|apply kn_|apply kd_|apply ka_));exact BK228.out) hb);have n8_:=mk_ (st_ (qd_ HB GE205 GE228) hb);clear HO210 HO213 HO216 HO221 HO224 HO227 BK205 BK228 HB;have HO210:=n0_;have HO213:=n1_;have HO216:=n2_;have HO221:=n3_;have HO224:=n4_;have HO227:=n5_;have BK205:=n6_;have BK228:=n7_;have HB:=n8_;clear n0_ n1_ n2_ n3_ n4_ n5_ n6_ n7_ n8_;(try clear hb);(try clear hb2);(try clear hk);(try clear hi)))
   go_ret
   exact ⟨qe_,u2_ HB GE205 GE228⟩

/-- The pure statement of laws_FnExactNetText. -/
def laws_FnExactNetText.Pure : Prop:=∀ (a0_0 : Int) (l0_1 : List (S58)) (l0_2 : List Int) (l0_3 : List Int),(Lit.int .i64 a0_0).wf = true → (l0_1.length ≤ maxLen ∧ ∀ y0 ∈ l0_1,((Lit.int .i64 y0.f0).wf = true ∧ ((Lit.int .i64 y0.f1).wf = true ∧ (Lit.int .i64 y0.f2).wf = true))) → (l0_2.length ≤ maxLen ∧ ∀ y0 ∈ l0_2,(Lit.int .i64 y0).wf = true) → (l0_3.length ≤ maxLen ∧ ∀ y0 ∈ l0_3,(Lit.int .i64 y0).wf = true) → ∃ k,laws_FnExactNetText.f k a0_0 l0_1 l0_2 l0_3 = some true
theorem laws_FnExactNetText.walk (P : laws_FnExactNetText.Pure) (a0_0 : Int) (A0_1 : Option Addr) (c0_1 : Nat) (l0_1 : List (S58)) (A0_2 : Option Addr) (c0_2 : Nat) (l0_2 : List Int) (A0_3 : Option Addr) (c0_3 : Nat) (l0_3 : List Int) (w : World) (w0_0 : (Lit.int .i64 a0_0).wf = true) (hr0_1 : Kd.C k58 w A0_1 l0_1.length l0_1) (hc0_1 : l0_1.length ≤ c0_1) (hm0_1 : (l0_1.length ≤ maxLen ∧ ∀ y0 ∈ l0_1,((Lit.int .i64 y0.f0).wf = true ∧ ((Lit.int .i64 y0.f1).wf = true ∧ (Lit.int .i64 y0.f2).wf = true)))) (hr0_2 : Kd.C (Kd.int .i64) w A0_2 l0_2.length l0_2) (hc0_2 : l0_2.length ≤ c0_2) (hm0_2 : (l0_2.length ≤ maxLen ∧ ∀ y0 ∈ l0_2,(Lit.int .i64 y0).wf = true)) (hr0_3 : Kd.C (Kd.int .i64) w A0_3 l0_3.length l0_3) (hc0_3 : l0_3.length ≤ c0_3) (hm0_3 : (l0_3.length ≤ maxLen ∧ ∀ y0 ∈ l0_3,(Lit.int .i64 y0).wf = true)) :
  Calls Tryd.prog 3 #[.agg #[.int .i64 a0_0,.slice A0_1 l0_1.length c0_1,.slice A0_2 l0_2.length c0_2,.slice A0_3 l0_3.length c0_3]] w fun e w' => e = .returned (.bool true) ∧ Below w.heap.size w w':=by
 obtain ⟨k,h⟩:=P a0_0 l0_1 l0_2 l0_3 w0_0 hm0_1 hm0_2 hm0_3
 refine (laws_FnExactNetText.calls k a0_0 _ _ l0_1 _ _ l0_2 _ _ l0_3 true _ hr0_1 hc0_1 hr0_2 hc0_2 hr0_3 hc0_3 h).mono ?_
 rintro e w' ⟨rfl,hd⟩
 exact ⟨rfl,hd⟩

-- LIB p19a
theorem l1In_is (n a b : Int) : spec_l1In.f n a b = some (decide (a ≤ n) && decide (n ≤ b)):=by
  unfold spec_l1In.f
  by_cases h : n ≥ a
  · rw [if_pos h,decide_eq_true (show a ≤ n from h),Bool.true_and]
  · rw [if_neg h,decide_eq_false (show ¬ a ≤ n from h),Bool.false_and]
theorem scabs_at (n : Int) (l : List S39) (hl : l.length ≤ 9223372036854775807) (d : Nat) : ∀ (k i : Nat),i + d = l.length → d < k → spec_CablesValid.l0 k n l (i : Int) = some ((l.drop i).all (cabB n)):=by
  induction d with
  | zero =>
    intro k i h1 hk
    obtain ⟨k,rfl⟩ : ∃ m,k = m + 1:=⟨k - 1,by omega⟩
    simp only [spec_CablesValid.l0]
    rw [if_neg (by omega),List.drop_of_length_le (by omega)]
    rfl
  | succ d ih =>
    intro k i h1 hk
    obtain ⟨k,rfl⟩ : ∃ m,k = m + 1:=⟨k - 1,by omega⟩
    simp only [spec_CablesValid.l0]
    rw [if_pos (by omega),if_pos (by omega),rdCab_get l i (by omega),l1In_is,l1In_is,l1In_is,wrap_succ (show i < l.length by omega) (by omega),ih k (i + 1) (by omega) (by omega),List.drop_eq_getElem_cons (show i < l.length by omega),List.all_cons]
    simp only [Option.bind_some]
    unfold cabB
    cases (decide (0 ≤ l[i].f0) && decide (l[i].f0 ≤ wrap64 (n - 1))) with
    | false => rw [if_neg (by decide)];simp
    | true =>
      rw [if_pos rfl]
      cases (decide (0 ≤ l[i].f1) && decide (l[i].f1 ≤ wrap64 (n - 1))) with
      | false => rw [if_neg (by decide)];simp
      | true =>
        rw [if_pos rfl]
        by_cases e : l[i].f0 = l[i].f1
        · rw [if_pos e,bne_eq_false_iff_eq.mpr e];simp
        · rw [if_neg e,bne_iff_ne.mpr e]
          cases (decide (1 ≤ l[i].f2) && decide (l[i].f2 ≤ 99)) with
          | false => rw [if_neg (by decide)];simp
          | true => rw [if_pos rfl];simp
theorem scabs_eq (n : Int) (l : List S39) (hl : l.length ≤ 9223372036854775807) (k : Nat) (hk : l.length + 1 < k) : spec_CablesValid.f k n l = some (cabsB n l):=by
  obtain ⟨k,rfl⟩ : ∃ m,k = m + 1:=⟨k - 1,by omega⟩
  unfold spec_CablesValid.f cabsB
  rw [l1In_is,Option.bind_some]
  simp only [spec_CablesValid.j0]
  cases (decide (1 ≤ n) && decide (n ≤ 8)) with
  | false => rw [if_neg (by decide),if_pos trivial];rfl
  | true =>
    rw [if_pos rfl]
    by_cases c : l.length ≤ 20
    · rw [decide_eq_false (show ¬ (l.length : Int) > 20 by omega),if_neg (by decide),decide_eq_true c]
      exact (scabs_at n l hl l.length k 0 (by omega) (by omega)).trans (by rw [List.drop_zero];rfl)
    · rw [decide_eq_true (show (l.length : Int) > 20 by omega),if_pos rfl,decide_eq_false c]
      rfl
theorem snet_l1 (n : Int) (cs : List S39) (hs vs : List Int) (hc : cs.length ≤ 9223372036854775807) (hl : hs.length ≤ 9223372036854775807) (hv : vs.length ≤ 9223372036854775807) (d : Nat) : ∀ (k i : Nat),i + d = vs.length → d + cs.length + 2 < k → spec_NetValid.l1 k (i : Int) n cs hs vs = some ((vs.drop i).all vlB && (cabsB n cs && (decide (vs.length = hs.length) && decide (hs.length ≤ 15)))):=by
  induction d with
  | zero =>
    intro k i h1 hk
    obtain ⟨k,rfl⟩ : ∃ m,k = m + 1:=⟨k - 1,by omega⟩
    simp only [spec_NetValid.l1]
    rw [if_neg (by omega),List.drop_of_length_le (by omega),scabs_eq n cs hc k (by omega),Option.bind_some]
    have e15 : decide ((hs.length : Int) ≤ 15) = decide (hs.length ≤ 15):=by rw [decide_eq_decide];omega
    rw [e15]
    cases cabsB n cs with
    | false => rw [if_neg (by decide)];simp
    | true =>
      rw [if_pos rfl]
      by_cases e : hs.length = vs.length
      · rw [if_pos (by omega),decide_eq_true e.symm];simp
      · rw [if_neg (by omega),decide_eq_false (fun h => e h.symm)];simp
  | succ d ih =>
    intro k i h1 hk
    obtain ⟨k,rfl⟩ : ∃ m,k = m + 1:=⟨k - 1,by omega⟩
    have e : spec_l10Vlan.f vs[i] = some (vlB vs[i]):=by unfold spec_l10Vlan.f;rw [l1In_is];rfl
    simp only [spec_NetValid.l1]
    rw [if_pos (by omega),if_pos (by omega),rd_get vs i (by omega),e,Option.bind_some,wrap_succ (show i < vs.length by omega) (by omega),ih k (i + 1) (by omega) (by omega),List.drop_eq_getElem_cons (show i < vs.length by omega),List.all_cons]
    cases vlB vs[i] with
    | false => rw [if_neg (by decide)];simp
    | true => rw [if_pos rfl];simp
theorem snet_l0 (n : Int) (cs : List S39) (hs vs : List Int) (hc : cs.length ≤ 9223372036854775807) (hl : hs.length ≤ 9223372036854775807) (hv : vs.length ≤ 9223372036854775807) (d : Nat) : ∀ (k i : Nat),i + d = hs.length → d + vs.length + cs.length + 3 < k → spec_NetValid.l0 k (i : Int) n cs hs vs = some ((hs.drop i).all (brB n) && (vs.all vlB && (cabsB n cs && (decide (vs.length = hs.length) && decide (hs.length ≤ 15))))):=by
  induction d with
  | zero =>
    intro k i h1 hk
    obtain ⟨k,rfl⟩ : ∃ m,k = m + 1:=⟨k - 1,by omega⟩
    have e:=snet_l1 n cs hs vs hc hl hv vs.length k 0 (by omega) (by omega)
    simp only [spec_NetValid.l0]
    rw [if_neg (by omega),List.drop_of_length_le (by omega)]
    exact e.trans (by rw [List.drop_zero];simp)
  | succ d ih =>
    intro k i h1 hk
    obtain ⟨k,rfl⟩ : ∃ m,k = m + 1:=⟨k - 1,by omega⟩
    simp only [spec_NetValid.l0]
    rw [if_pos (by omega),if_pos (by omega),rd_get hs i (by omega),l1In_is,Option.bind_some,wrap_succ (show i < hs.length by omega) (by omega),ih k (i + 1) (by omega) (by omega),List.drop_eq_getElem_cons (show i < hs.length by omega),List.all_cons]
    have e : brB n hs[i] = (decide (0 ≤ hs[i]) && decide (hs[i] ≤ wrap64 (n - 1))):=rfl
    rw [← e]
    cases brB n hs[i] with
    | false => rw [if_neg (by decide)];simp
    | true => rw [if_pos rfl];simp
theorem snet_eq (n : Int) (cs : List S39) (hs vs : List Int) (hc : cs.length ≤ 9223372036854775807) (hl : hs.length ≤ 9223372036854775807) (hv : vs.length ≤ 9223372036854775807) (k : Nat) (hk : hs.length + vs.length + cs.length + 3 < k) : spec_NetValid.f k n cs hs vs = some (netB n cs hs vs):=by
  unfold spec_NetValid.f
  refine (snet_l0 n cs hs vs hc hl hv hs.length k 0 (by omega) (by omega)).trans ?_
  rw [List.drop_zero]
  unfold netB
  cases hs.all (brB n) <;> cases vs.all vlB <;> cases cabsB n cs <;> cases decide (vs.length = hs.length) <;> cases decide (hs.length ≤ 15) <;> rfl

-- LIB pints
/-- A copy of a list of numbers is that list. -/
theorem toIntS_at (l : List Int) (hl : l.length ≤ 1048576) (d : Nat) : ∀ (k i : Nat) (x : List Int),i + d = l.length → x.length = l.length → x.take i = l.take i → d < k → laws_toIntS.l0 k l x (i : Int) = some l:=by
  induction d with
  | zero =>
    intro k i x h1 h2 h3 hk
    obtain ⟨k,rfl⟩ : ∃ m,k = m + 1:=⟨k - 1,by omega⟩
    simp only [laws_toIntS.l0]
    rw [if_neg (by omega)]
    have e1 : x.take i = x:=List.take_of_length_le (by omega)
    have e2 : l.take i = l:=List.take_of_length_le (by omega)
    rw [← e1,h3,e2]
  | succ d ih =>
    intro k i x h1 h2 h3 hk
    obtain ⟨k,rfl⟩ : ∃ m,k = m + 1:=⟨k - 1,by omega⟩
    simp only [laws_toIntS.l0]
    rw [if_pos (by omega),if_pos (by omega),if_pos (by omega),wrap_succ (show i < l.length by omega) (by omega),rd_get l i (by omega),Int.toNat_natCast]
    refine ih k (i + 1) (x.set i l[i]) (by omega) (by rw [List.length_set];exact h2) ?_ (by omega)
    rw [List.take_add_one,List.take_add_one,List.take_set,List.getElem?_set_self (by omega),List.getElem?_eq_getElem (by omega),List.set_eq_of_length_le (by rw [List.length_take];omega),h3]
theorem toIntS_eq (l : List Int) (hl : l.length ≤ 1048576) (k : Nat) (hk : l.length < k) : laws_toIntS.f k l = some l:=by
  unfold laws_toIntS.f
  rw [if_pos (by omega),if_pos (by omega)]
  exact toIntS_at l hl l.length k 0 _ (by omega) (by simp) (by simp) hk
theorem eqIntS_at (l : List Int) (hl : l.length ≤ 9223372036854775807) (d : Nat) : ∀ (k i : Nat),i + d = l.length → d < k → laws_eqIntS.l0 k l l (i : Int) = some true:=by
  induction d with
  | zero =>
    intro k i h1 hk
    obtain ⟨k,rfl⟩ : ∃ m,k = m + 1:=⟨k - 1,by omega⟩
    simp only [laws_eqIntS.l0]
    rw [if_neg (by omega)]
  | succ d ih =>
    intro k i h1 hk
    obtain ⟨k,rfl⟩ : ∃ m,k = m + 1:=⟨k - 1,by omega⟩
    simp only [laws_eqIntS.l0]
    rw [if_pos (by omega),if_pos (by omega),if_pos (by omega),if_pos trivial,wrap_succ (show i < l.length by omega) (by omega)]
    exact ih k (i + 1) (by omega) (by omega)
theorem eqIntS_eq (l : List Int) (hl : l.length ≤ 9223372036854775807) (k : Nat) (hk : l.length < k) : laws_eqIntS.f k l l = some true:=by
  unfold laws_eqIntS.f
  rw [if_pos rfl]
  exact eqIntS_at l hl l.length k 0 (by omega) hk

-- LIB p19e
-- what the exact laws do with their arguments
theorem rdLab_get (l : List S58) (i : Nat) (h : i < l.length) : rd_T58 l (i : Int) = l[i]:=by simp [rd_T58,List.getD_eq_getElem?_getD,h]
def cvC (l : List S58) : List S39:=l.map fun x => ⟨x.f0,x.f1,x.f2⟩
theorem cvC_len (l : List S58) : (cvC l).length = l.length:=by unfold cvC;simp
theorem toCable_at (l : List S58) (hl : l.length ≤ 1048576) (d : Nat) : ∀ (k i : Nat) (x : List S39),i + d = l.length → x.length = l.length → x.take i = (cvC l).take i → d < k → laws_toCableS.l0 k l x (i : Int) = some (cvC l):=by
  have hc:=cvC_len l
  induction d with
  | zero =>
    intro k i x h1 h2 h3 hk
    obtain ⟨k,rfl⟩ : ∃ m,k = m + 1:=⟨k - 1,by omega⟩
    simp only [laws_toCableS.l0]
    rw [if_neg (by omega)]
    have e1 : x.take i = x:=List.take_of_length_le (by omega)
    have e2 : (cvC l).take i = cvC l:=List.take_of_length_le (by omega)
    rw [← e1,h3,e2]
  | succ d ih =>
    intro k i x h1 h2 h3 hk
    obtain ⟨k,rfl⟩ : ∃ m,k = m + 1:=⟨k - 1,by omega⟩
    simp only [laws_toCableS.l0,laws_toCable.f,Option.bind_some]
    rw [if_pos (by omega),if_pos (by omega),if_pos (by omega),wrap_succ (show i < l.length by omega) (by omega),rdLab_get l i (by omega),Int.toNat_natCast]
    have e : (cvC l)[i]? = some ⟨l[i].f0,l[i].f1,l[i].f2⟩:=by unfold cvC;simp [show i < l.length by omega]
    refine ih k (i + 1) _ (by omega) (by rw [List.length_set];exact h2) ?_ (by omega)
    rw [List.take_add_one,List.take_add_one,List.take_set,List.getElem?_set_self (by omega),e,List.set_eq_of_length_le (by rw [List.length_take];omega),h3]
theorem toCable_eq (l : List S58) (hl : l.length ≤ 1048576) (k : Nat) (hk : l.length < k) : laws_toCableS.f k l = some (cvC l):=by
  unfold laws_toCableS.f
  rw [if_pos (by omega),if_pos (by omega)]
  exact toCable_at l hl l.length k 0 _ (by omega) (by simp) (by simp) hk
theorem eqCable_at (l : List S39) (hl : l.length ≤ 9223372036854775807) (d : Nat) : ∀ (k i : Nat),i + d = l.length → d < k → laws_eqCableS.l0 k l l (i : Int) = some true:=by
  induction d with
  | zero =>
    intro k i h1 hk
    obtain ⟨k,rfl⟩ : ∃ m,k = m + 1:=⟨k - 1,by omega⟩
    simp only [laws_eqCableS.l0]
    rw [if_neg (by omega)]
  | succ d ih =>
    intro k i h1 hk
    obtain ⟨k,rfl⟩ : ∃ m,k = m + 1:=⟨k - 1,by omega⟩
    have e : ∀ (a b c : Int),laws_eqCable.f a b c a b c = some true:=fun a b c => by unfold laws_eqCable.f;rw [if_pos rfl,if_pos rfl,if_pos rfl]
    simp only [laws_eqCableS.l0]
    rw [if_pos (by omega),if_pos (by omega),if_pos (by omega),e,Option.bind_some,if_pos rfl,wrap_succ (show i < l.length by omega) (by omega)]
    exact ih k (i + 1) (by omega) (by omega)
theorem eqCable_eq (l : List S39) (hl : l.length ≤ 9223372036854775807) (k : Nat) (hk : l.length < k) : laws_eqCableS.f k l l = some true:=by
  unfold laws_eqCableS.f
  rw [if_pos rfl]
  exact eqCable_at l hl l.length k 0 (by omega) hk
theorem szInt_of (l : List Int) (hl : l.length ≤ maxLen) (m : Int) (h0 : 0 ≤ m) (h1 : m ≤ 1048576) : ∃ n : Int,laws_szIntS.f l m = some n ∧ (¬ n < 0 → l.length ≤ m ∧ n = m - l.length):=by
  unfold maxLen at hl
  unfold laws_szIntS.f
  rw [wrap_eq (by omega) (by omega)]
  split
  · exact ⟨_,rfl,fun h => absurd (show (-1 : Int) < 0 by decide) h⟩
  · exact ⟨_,rfl,fun h => by omega⟩
theorem szNet_eq (n : Int) (cs : List S58) (hs vs : List Int) (h1 : cs.length ≤ maxLen) (h2 : hs.length ≤ maxLen) (h3 : vs.length ≤ maxLen) : ∃ m : Int,laws_szNet.f n cs hs vs 1048576 = some m ∧ (¬ m < 0 → cs.length + hs.length + vs.length ≤ 1048576 ∧ 0 ≤ m ∧ m ≤ 1048576):=by
  have hc : ∃ m : Int,laws_szCableS.f cs 1048576 = some m ∧ (¬ m < 0 → cs.length ≤ 1048576 ∧ m = 1048576 - cs.length):=by
    unfold maxLen at h1
    unfold laws_szCableS.f
    rw [wrap_eq (by omega) (by omega)]
    split
    · exact ⟨_,rfl,fun h => absurd (show (-1 : Int) < 0 by decide) h⟩
    · exact ⟨_,rfl,fun h => by omega⟩
  obtain ⟨m1,e1,g1⟩:=hc
  unfold laws_szNet.f
  rw [e1,Option.bind_some]
  by_cases c1 : m1 < 0
  · rw [if_pos c1];exact ⟨_,rfl,fun h => absurd (show (-1 : Int) < 0 by decide) h⟩
  obtain ⟨q1,q2⟩:=g1 c1
  obtain ⟨m2,e2,g2⟩:=szInt_of hs h2 m1 (by omega) (by omega)
  rw [if_neg c1,e2,Option.bind_some]
  by_cases c2 : m2 < 0
  · rw [if_pos c2];exact ⟨_,rfl,fun h => absurd (show (-1 : Int) < 0 by decide) h⟩
  obtain ⟨q3,q4⟩:=g2 c2
  obtain ⟨m3,e3,g3⟩:=szInt_of vs h3 m2 (by omega) (by omega)
  rw [if_neg c2,e3,Option.bind_some]
  by_cases c3 : m3 < 0
  · rw [if_pos c3];exact ⟨_,rfl,fun h => absurd (show (-1 : Int) < 0 by decide) h⟩
  rw [if_neg c3]
  exact ⟨_,rfl,fun h => by have:=g3 h;omega⟩
theorem toNet_eq (n : Int) (cs : List S58) (hs vs : List Int) (h : cs.length + hs.length + vs.length ≤ 1048576) (k : Nat) (hk : cs.length + hs.length + vs.length < k) : laws_toNet.f k n cs hs vs = some (n,cvC cs,hs,vs):=by
  unfold laws_toNet.f
  rw [toCable_eq cs (by omega) k (by omega),Option.bind_some,toIntS_eq hs (by omega) k (by omega),Option.bind_some,toIntS_eq vs (by omega) k (by omega),Option.bind_some]
theorem eqNet_eq (n : Int) (cs : List S39) (hs vs : List Int) (h : cs.length + hs.length + vs.length ≤ 1048576) (k : Nat) (hk : cs.length + hs.length + vs.length < k) : laws_eqNet.f k n cs hs vs n cs hs vs = some true:=by
  unfold laws_eqNet.f
  rw [if_pos rfl,eqCable_eq cs (by omega) k (by omega),Option.bind_some,if_pos rfl,eqIntS_eq hs (by omega) k (by omega),Option.bind_some,if_pos rfl,eqIntS_eq vs (by omega) k (by omega),Option.bind_some,if_pos rfl]

end Go.Proofs.YtdamdcdjodmemaaDoor.PAll
