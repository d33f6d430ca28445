/- Proved here: contracts of functions of the given program, or lemmas on them, for the laws of this seat. Written by xprint.py, a program of this session, on the ground of the kit's print; parts by hand: wip/x/ext. -/
import Derived.Test.YtfbicfnokibobaaPAllx0
namespace Go.Proofs.Ytfbicfnokibobaa.PAll
open Go.RowKit Go.Proofs.YtfbicfnokibobaaW.PrintWords Go.Proofs.YtfbicfnokibobaaW.PrintLast Go.Proofs.YtfbicfnokibobaaW.PrintMore
attribute [local go_sem] max2_int min2_int max_two min_two max_three min_three max_four min_four   -- for this text's walks alone
set_option linter.unusedVariables false
set_option linter.unusedSimpArgs false

/-! ### impl_within: function 44 -/
def impl_within.f (a0 : Int) (a1 : Int) (a2 : Int) : Option (Bool):=if a1 ≤ a0 then (some (decide (a0 ≤ a2))) else (some false)
set_option maxHeartbeats 8000000 in
set_option maxRecDepth 100000 in
theorem impl_within.calls (a0 : Int) (a1 : Int) (a2 : Int) (r : Bool) (w : World) (h : impl_within.f a0 a1 a2 = some r) :
  Calls Try.prog 44 #[.int .i64 a0,.int .i64 a1,.int .i64 a2] w fun e w' => e = .returned (.bool r) ∧ Drawn0 w w':=by
 have H : (if a1 ≤ a0 then (some (decide (a0 ≤ a2))) else (some false)) = some r:=h
 clear h
 by_cases c4 : a1 ≤ a0
 ·rw [if_pos c4] at H
  have c4b0 : decide (a1 ≤ a0) = true:=decide_eq_true c4
  clear c4
  obtain rfl:=Option.some.inj H
  go_enter Try.func44,Try.ntmps44
  go_wp2
  go_ret
  exact ⟨by first|rfl|(simp;done)|(simp [*];done),by repeat (first|exact Drawn0.refl _|apply Drawn0.step)⟩
 ·rw [if_neg c4] at H
  have c4b0 : decide (a1 ≤ a0) = false:=decide_eq_false c4
  clear c4
  obtain rfl:=Option.some.inj H
  go_enter Try.func44,Try.ntmps44
  go_wp2
  go_ret
  exact ⟨by first|rfl|(simp;done)|(simp [*];done),by repeat (first|exact Drawn0.refl _|apply Drawn0.step)⟩

/-! ### impl_PulsesValid: function 33 -/
def impl_PulsesValid.l0 : Nat → List (S35) → List (S35) → Int → Int → Option (Bool)
 | 0,_,_,_,_ => none
 | k + 1,x0,x5,x6,x7 => if x7 < x6 then (if 0 ≤ x7 then (if x7 < (x5.length : Int) then ((impl_within.f ((rd_T35 x5 x7).f0) 0 2000).bind fun t103 => (if t103 = true then ((impl_within.f ((rd_T35 x5 x7).f1) 1 50).bind fun t104 => (if t104 = true then (if x7 > 0 then (if 0 ≤ (wrap64 (x7 - 1)) then (if (wrap64 (x7 - 1)) < (x0.length : Int) then (if ((rd_T35 x5 x7).f0) < ((rd_T35 x0 (wrap64 (x7 - 1))).f0) then (some false) else (impl_PulsesValid.l0 k x0 x5 x6 (wrap64 (x7 + 1)))) else (none)) else (none)) else (impl_PulsesValid.l0 k x0 x5 x6 (wrap64 (x7 + 1)))) else (some false))) else (some false))) else (none)) else (none)) else (some (decide ((x0.length : Int) ≤ 60)))
def impl_PulsesValid.f (k : Nat) (l0 : List (S35)) : Option (Bool):=impl_PulsesValid.l0 k l0 l0 (l0.length : Int) 0
theorem impl_PulsesValid.mono_l : ∀ k,(∀ y0 y1 y2 y3,LeO (impl_PulsesValid.l0 k y0 y1 y2 y3) (impl_PulsesValid.l0 (k + 1) y0 y1 y2 y3))
 | 0 => fun _ _ _ _ r h => by simp [impl_PulsesValid.l0] at h
 | k + 1 => by
  have ih0:=impl_PulsesValid.mono_l k
  ·intro y0 y1 y2 y3
   unfold impl_PulsesValid.l0
   repeat' first
   | (with_reducible exact ih0 _ _ _ _)
   | (with_reducible exact LeO.refl _)
   | (with_reducible exact LeO.none _)
   | (with_reducible refine LeO.ite ?_ ?_)
   | (with_reducible refine LeO.bind ?_ (fun _ => ?_))
   | exact ih0 _ _ _ _
   | exact LeO.none _
   | refine LeO.ite ?_ ?_
   | refine LeO.bind ?_ (fun _ => ?_)
theorem impl_PulsesValid.mono : ∀ a0 k,LeO (impl_PulsesValid.f k a0) (impl_PulsesValid.f (k + 1) a0):=by
 intro a0 k
 have ih0:=impl_PulsesValid.mono_l k
 unfold impl_PulsesValid.f
 repeat' first
   | (with_reducible exact ih0 _ _ _ _)
   | (with_reducible exact LeO.refl _)
   | (with_reducible exact LeO.none _)
   | (with_reducible refine LeO.ite ?_ ?_)
   | (with_reducible refine LeO.bind ?_ (fun _ => ?_))
   | exact ih0 _ _ _ _
   | exact LeO.none _
   | refine LeO.ite ?_ ?_
   | refine LeO.bind ?_ (fun _ => ?_)
set_option maxHeartbeats 8000000 in
set_option maxRecDepth 100000 in
theorem impl_PulsesValid.calls (k : Nat) (A0 : Option Addr) (c0 : Nat) (l0 : List (S35)) (r : Bool) (w : World) (hr0 : Kd.C k35 w A0 l0.length l0) (hc0 : l0.length ≤ c0) (h : impl_PulsesValid.f k l0 = some r) :
  Calls Try.prog 33 #[.slice A0 l0.length c0] w fun e w' => e = .returned (.bool r) ∧ Below w.heap.size w w':=by
 have hu35:=Try.underlying35
 have HR0:=mk_ hr0
 have HC0:=mk_ hc0
 clear hr0 hc0
 have HB:=mk_ (Below.refl w.heap.size w)
 have H : (impl_PulsesValid.l0 k l0 l0 (l0.length : Int) 0) = some r:=h
 clear h
 have H':=mk_ H
 clear H
 go_enter Try.func33,Try.ntmps33
 go_wp2
 repeat (go_quiet (fail);try go_wp2)
 go_loopg [7] k (fun kq v7 w' => ∃ (x7_1 : Int),v7 = .int .i64 x7_1 ∧ Aside0 (impl_PulsesValid.l0 kq l0 l0 (l0.length : Int) x7_1 = some r) ∧ Aside0 (kq ≤ k) ∧ Aside0 (Below w.heap.size w w'))
 case atStart => exact ⟨(0),qf_,H',⟨Nat.le_refl _⟩,⟨u0_ HB⟩⟩
 case round =>
  clear H'
  obtain ⟨x7_1,rfl,HA,HK1,HB⟩:=hrel
  cases gk with
  | zero => exact absurd HA.out (by simp [impl_PulsesValid.l0])
  | succ k1 =>
   have H:=HA.out
   clear HA
   simp only [impl_PulsesValid.l0] at H
   by_cases c2 : x7_1 < (l0.length : Int)
   ·rw [if_pos c2] at H
    have c2b0 : decide (x7_1 < (l0.length : Int)) = true:=decide_eq_true c2
    clear c2
    by_cases c3 : 0 ≤ x7_1
    ·rw [if_pos c3] at H
     have c3b0 : decide (0 ≤ x7_1) = true:=decide_eq_true c3
     clear c3
     by_cases c4 : x7_1 < (l0.length : Int)
     ·rw [if_pos c4] at H
      have c4b0 : decide (x7_1 < (l0.length : Int)) = true:=decide_eq_true c4
      clear c4
      replace H:=Option.bind_eq_some_iff.mp H
      obtain ⟨t103,A50,H⟩:=H
      replace H : (if t103 = true then ((impl_within.f ((rd_T35 l0 x7_1).f1) 1 50).bind fun t104 => (if t104 = true then (if x7_1 > 0 then (if 0 ≤ (wrap64 (x7_1 - 1)) then (if (wrap64 (x7_1 - 1)) < (l0.length : Int) then (if ((rd_T35 l0 x7_1).f0) < ((rd_T35 l0 (wrap64 (x7_1 - 1))).f0) then (some false) else (impl_PulsesValid.l0 k1 l0 l0 (l0.length : Int) (wrap64 (x7_1 + 1)))) else (none)) else (none)) else (impl_PulsesValid.l0 k1 l0 l0 (l0.length : Int) (wrap64 (x7_1 + 1)))) else (some false))) else (some false)) = some r:=H
      have A5:=mk_ A50
      clear A50
      by_cases c6 : t103 = true
      ·subst c6
       have H1 : ((impl_within.f ((rd_T35 l0 x7_1).f1) 1 50).bind fun t104 => (if t104 = true then (if x7_1 > 0 then (if 0 ≤ (wrap64 (x7_1 - 1)) then (if (wrap64 (x7_1 - 1)) < (l0.length : Int) then (if ((rd_T35 l0 x7_1).f0) < ((rd_T35 l0 (wrap64 (x7_1 - 1))).f0) then (some false) else (impl_PulsesValid.l0 k1 l0 l0 (l0.length : Int) (wrap64 (x7_1 + 1)))) else (none)) else (none)) else (impl_PulsesValid.l0 k1 l0 l0 (l0.length : Int) (wrap64 (x7_1 + 1)))) else (some false))) = some r:=by rw [if_pos rfl] at H;exact H
       clear H
       have H:=H1
       clear H1
       replace H:=Option.bind_eq_some_iff.mp H
       obtain ⟨t104,A70,H⟩:=H
       replace H : (if t104 = true then (if x7_1 > 0 then (if 0 ≤ (wrap64 (x7_1 - 1)) then (if (wrap64 (x7_1 - 1)) < (l0.length : Int) then (if ((rd_T35 l0 x7_1).f0) < ((rd_T35 l0 (wrap64 (x7_1 - 1))).f0) then (some false) else (impl_PulsesValid.l0 k1 l0 l0 (l0.length : Int) (wrap64 (x7_1 + 1)))) else (none)) else (none)) else (impl_PulsesValid.l0 k1 l0 l0 (l0.length : Int) (wrap64 (x7_1 + 1)))) else (some false)) = some r:=H
       have A7:=mk_ A70
       clear A70
       by_cases c8 : t104 = true
       ·subst c8
        have H1 : (if x7_1 > 0 then (if 0 ≤ (wrap64 (x7_1 - 1)) then (if (wrap64 (x7_1 - 1)) < (l0.length : Int) then (if ((rd_T35 l0 x7_1).f0) < ((rd_T35 l0 (wrap64 (x7_1 - 1))).f0) then (some false) else (impl_PulsesValid.l0 k1 l0 l0 (l0.length : Int) (wrap64 (x7_1 + 1)))) else (none)) else (none)) else (impl_PulsesValid.l0 k1 l0 l0 (l0.length : Int) (wrap64 (x7_1 + 1)))) = some r:=by rw [if_pos rfl] at H;exact H
        clear H
        have H:=H1
        clear H1
        by_cases c9 : x7_1 > 0
        ·rw [if_pos c9] at H
         have c9b0 : decide (0 < x7_1) = true:=decide_eq_true c9
         clear c9
         obtain ⟨ji10,hji10⟩ : ∃ j_ : Int,(wrap64 (x7_1 - 1)) = j_:=⟨_,rfl⟩
         replace H : (if 0 ≤ (ji10) then (if (ji10) < (l0.length : Int) then (if ((rd_T35 l0 x7_1).f0) < ((rd_T35 l0 (ji10)).f0) then (some false) else (impl_PulsesValid.l0 k1 l0 l0 (l0.length : Int) (wrap64 (x7_1 + 1)))) else (none)) else (none)) = some r:=by first|(rw [hji10] at H;exact H)|(simp only [hji10] at H ⊢;exact H)
         (try rw [hji10] at A5)
         (try rw [hji10] at A7)
         have hji10w : (IntKind.i64.wrap (x7_1 - 1)) = ji10:=(i64_w _).trans hji10
         by_cases c11 : 0 ≤ (ji10)
         ·rw [if_pos c11] at H
          have c11b0 : decide (0 ≤ (ji10)) = true:=decide_eq_true c11
          clear c11
          by_cases c12 : (ji10) < (l0.length : Int)
          ·rw [if_pos c12] at H
           have c12b0 : decide ((ji10) < (l0.length : Int)) = true:=decide_eq_true c12
           clear c12
           by_cases c13 : ((rd_T35 l0 x7_1).f0) < ((rd_T35 l0 (ji10)).f0)
           ·rw [if_pos c13] at H
            have c13b0 : decide (((rd_T35 l0 x7_1).f0) < ((rd_T35 l0 (ji10)).f0)) = true:=decide_eq_true c13
            clear c13
            obtain rfl:=Option.some.inj H
            have p101 : 0 ≤ (x7_1 : Int):=od_ qa_
            have q101 : x7_1 < (l0.length : Int):=od_ qa_
            obtain ⟨ad101,e101,hx101_0,hx101_1⟩:=at_T35 HR0.out x7_1 p101 q101
            cases e101
            replace hx101_0:=(HB.out.cell (wl_ w _ hx101_0)).trans hx101_0
            replace hx101_1:=(HB.out.cell (wl_ w _ hx101_1)).trans hx101_1
            replace p101:=eq_true p101
            replace q101:=eq_true q101
            go_wp2_with (first|((with_reducible refine gate_dst (N:=4) rfl ?_);refine box_event ?hg (N:=4) ?hd (cs:=#[.int .i64 0,.int .i64 0]) (t:=35) ?hr ?_;(case hd => rfl);(case hg => rfl);(case hr => first|(go_simp;done)|(go_simp;rfl));intro gb102 hg w14 hbox hb;have n0_:=mk_ (st_ (qb_ HB) hb);have n1_:=mk_ (hbox);have n2_:=mk_ ((by rw [hg];exact (bz_ (qb_ HB)) : w.heap.size ≤ gb102));have n3_:=mk_ ((by rw [hg];exact (bz_ (qb_ HB)) : w.heap.size ≤ gb102));clear HB;have HB:=n0_;have BK102:=n1_;have GW102:=n2_;have GE102:=n3_;clear n0_ n1_ n2_ n3_ hb hbox hg;have hcz15_0 : w14.cell? ⟨gb102,0,none⟩ = some (.int .i64 0):=(bc_ BK102.out 0).trans rfl;have hcz15_1 : w14.cell? ⟨gb102,1,none⟩ = some (.int .i64 0):=(bc_ BK102.out 1).trans rfl;have hfz15_0:=bf_ BK102.out 0;have hfz15_1:=bf_ BK102.out 1)|(go_at_call 44;(with_reducible refine (impl_within.calls ((rd_T35 l0 x7_1).f0) 0 2000 true _ A5.out).mono ?_);rintro e w' ⟨rfl,⟨nd,rfl⟩⟩;(try first|exact ⟨rfl,_,World.drewN_drewN _ _ _⟩|exact ⟨rfl,_,Eq.trans (World.drewN_drewN _ _ _) (congrArg (World.drewN _) (Nat.add_assoc _ _ _))⟩))|(go_at_call 44;(with_reducible refine (impl_within.calls ((rd_T35 l0 x7_1).f1) 1 50 true _ A7.out).mono ?_);rintro e w' ⟨rfl,⟨nd,rfl⟩⟩;(try first|exact ⟨rfl,_,World.drewN_drewN _ _ _⟩|exact ⟨rfl,_,Eq.trans (World.drewN_drewN _ _ _) (congrArg (World.drewN _) (Nat.add_assoc _ _ _))⟩);have p105 : 0 ≤ ((ji10) : Int):=od_ qa_;have q105 : (ji10) < (l0.length : Int):=od_ qa_;obtain ⟨ad105,e105,hx105_0,hx105_1⟩:=at_T35 HR0.out (ji10) p105 q105;obtain rfl : ad101 = ad105:=(by injection e105);have hn105_0 : ad101.block ≠ gb102:=Nat.ne_of_lt (Nat.lt_of_lt_of_le (by have:=wl_ _ _ hx105_0;first|rwa [add_block] at this|exact this) GW102.out);have hn105_1 : ad101.block ≠ gb102:=Nat.ne_of_lt (Nat.lt_of_lt_of_le (by have:=wl_ _ _ hx105_0;first|rwa [add_block] at this|exact this) GW102.out);replace hx105_0:=(HB.out.cell (wl_ w _ hx105_0)).trans hx105_0;replace hx105_1:=(HB.out.cell (wl_ w _ hx105_1)).trans hx105_1;replace hx105_0:=(cell_far (p:=⟨gb102,0,none⟩) (by first|(rw [add_block];exact hn105_0)|(show (Addr.add _ _).block ≠ _;rw [add_block];exact hn105_0)|exact hn105_0) (.int .i64 ((rd_T35 l0 x7_1).f0))).trans hx105_0;replace hx105_1:=(cell_far (p:=⟨gb102,0,none⟩) (by first|(rw [add_block];exact hn105_0)|(show (Addr.add _ _).block ≠ _;rw [add_block];exact hn105_0)|exact hn105_0) (.int .i64 ((rd_T35 l0 x7_1).f0))).trans hx105_1;replace hx105_0:=(cell_far (p:=⟨gb102,1,none⟩) (by first|(rw [add_block];exact hn105_1)|(show (Addr.add _ _).block ≠ _;rw [add_block];exact hn105_1)|exact hn105_1) (.int .i64 ((rd_T35 l0 x7_1).f1))).trans hx105_0;replace hx105_1:=(cell_far (p:=⟨gb102,1,none⟩) (by first|(rw [add_block];exact hn105_1)|(show (Addr.add _ _).block ≠ _;rw [add_block];exact hn105_1)|exact hn105_1) (.int .i64 ((rd_T35 l0 x7_1).f1))).trans hx105_1;(try have hy105_0:=fun (n_ : Nat) => (show ((((w14.drewN n_).setCell ⟨gb102,0,none⟩ (.int .i64 ((rd_T35 l0 x7_1).f0))).setCell ⟨gb102,1,none⟩ (.int .i64 ((rd_T35 l0 x7_1).f1)))).cell? _ = some _ from hx105_0));(try have hy105_1:=fun (n_ : Nat) => (show ((((w14.drewN n_).setCell ⟨gb102,0,none⟩ (.int .i64 ((rd_T35 l0 x7_1).f0))).setCell ⟨gb102,1,none⟩ (.int .i64 ((rd_T35 l0 x7_1).f1)))).cell? _ = some _ from hx105_1));clear hn105_0 hn105_1;replace p105:=eq_true p105;replace q105:=eq_true q105))
            repeat (go_quiet (first|((with_reducible refine gate_dst (N:=4) rfl ?_);refine box_event ?hg (N:=4) ?hd (cs:=#[.int .i64 0,.int .i64 0]) (t:=35) ?hr ?_;(case hd => rfl);(case hg => rfl);(case hr => first|(go_simp;done)|(go_simp;rfl));intro gb102 hg w14 hbox hb;have n0_:=mk_ (st_ (qb_ HB) hb);have n1_:=mk_ (hbox);have n2_:=mk_ ((by rw [hg];exact (bz_ (qb_ HB)) : w.heap.size ≤ gb102));have n3_:=mk_ ((by rw [hg];exact (bz_ (qb_ HB)) : w.heap.size ≤ gb102));clear HB;have HB:=n0_;have BK102:=n1_;have GW102:=n2_;have GE102:=n3_;clear n0_ n1_ n2_ n3_ hb hbox hg;have hcz15_0 : w14.cell? ⟨gb102,0,none⟩ = some (.int .i64 0):=(bc_ BK102.out 0).trans rfl;have hcz15_1 : w14.cell? ⟨gb102,1,none⟩ = some (.int .i64 0):=(bc_ BK102.out 1).trans rfl;have hfz15_0:=bf_ BK102.out 0;have hfz15_1:=bf_ BK102.out 1)|(go_at_call 44;(with_reducible refine (impl_within.calls ((rd_T35 l0 x7_1).f0) 0 2000 true _ A5.out).mono ?_);rintro e w' ⟨rfl,⟨nd,rfl⟩⟩;(try first|exact ⟨rfl,_,World.drewN_drewN _ _ _⟩|exact ⟨rfl,_,Eq.trans (World.drewN_drewN _ _ _) (congrArg (World.drewN _) (Nat.add_assoc _ _ _))⟩))|(go_at_call 44;(with_reducible refine (impl_within.calls ((rd_T35 l0 x7_1).f1) 1 50 true _ A7.out).mono ?_);rintro e w' ⟨rfl,⟨nd,rfl⟩⟩;(try first|exact ⟨rfl,_,World.drewN_drewN _ _ _⟩|exact ⟨rfl,_,Eq.trans (World.drewN_drewN _ _ _) (congrArg (World.drewN _) (Nat.add_assoc _ _ _))⟩);have p105 : 0 ≤ ((ji10) : Int):=od_ qa_;have q105 : (ji10) < (l0.length : Int):=od_ qa_;obtain ⟨ad105,e105,hx105_0,hx105_1⟩:=at_T35 HR0.out (ji10) p105 q105;obtain rfl : ad101 = ad105:=(by injection e105);have hn105_0 : ad101.block ≠ gb102:=Nat.ne_of_lt (Nat.lt_of_lt_of_le (by have:=wl_ _ _ hx105_0;first|rwa [add_block] at this|exact this) GW102.out);have hn105_1 : ad101.block ≠ gb102:=Nat.ne_of_lt (Nat.lt_of_lt_of_le (by have:=wl_ _ _ hx105_0;first|rwa [add_block] at this|exact this) GW102.out);replace hx105_0:=(HB.out.cell (wl_ w _ hx105_0)).trans hx105_0;replace hx105_1:=(HB.out.cell (wl_ w _ hx105_1)).trans hx105_1;replace hx105_0:=(cell_far (p:=⟨gb102,0,none⟩) (by first|(rw [add_block];exact hn105_0)|(show (Addr.add _ _).block ≠ _;rw [add_block];exact hn105_0)|exact hn105_0) (.int .i64 ((rd_T35 l0 x7_1).f0))).trans hx105_0;replace hx105_1:=(cell_far (p:=⟨gb102,0,none⟩) (by first|(rw [add_block];exact hn105_0)|(show (Addr.add _ _).block ≠ _;rw [add_block];exact hn105_0)|exact hn105_0) (.int .i64 ((rd_T35 l0 x7_1).f0))).trans hx105_1;replace hx105_0:=(cell_far (p:=⟨gb102,1,none⟩) (by first|(rw [add_block];exact hn105_1)|(show (Addr.add _ _).block ≠ _;rw [add_block];exact hn105_1)|exact hn105_1) (.int .i64 ((rd_T35 l0 x7_1).f1))).trans hx105_0;replace hx105_1:=(cell_far (p:=⟨gb102,1,none⟩) (by first|(rw [add_block];exact hn105_1)|(show (Addr.add _ _).block ≠ _;rw [add_block];exact hn105_1)|exact hn105_1) (.int .i64 ((rd_T35 l0 x7_1).f1))).trans hx105_1;(try have hy105_0:=fun (n_ : Nat) => (show ((((w14.drewN n_).setCell ⟨gb102,0,none⟩ (.int .i64 ((rd_T35 l0 x7_1).f0))).setCell ⟨gb102,1,none⟩ (.int .i64 ((rd_T35 l0 x7_1).f1)))).cell? _ = some _ from hx105_0));(try have hy105_1:=fun (n_ : Nat) => (show ((((w14.drewN n_).setCell ⟨gb102,0,none⟩ (.int .i64 ((rd_T35 l0 x7_1).f0))).setCell ⟨gb102,1,none⟩ (.int .i64 ((rd_T35 l0 x7_1).f1)))).cell? _ = some _ from hx105_1));clear hn105_0 hn105_1;replace p105:=eq_true p105;replace q105:=eq_true q105));try go_wp2_with (first|((with_reducible refine gate_dst (N:=4) rfl ?_);refine box_event ?hg (N:=4) ?hd (cs:=#[.int .i64 0,.int .i64 0]) (t:=35) ?hr ?_;(case hd => rfl);(case hg => rfl);(case hr => first|(go_simp;done)|(go_simp;rfl));intro gb102 hg w14 hbox hb;have n0_:=mk_ (st_ (qb_ HB) hb);have n1_:=mk_ (hbox);have n2_:=mk_ ((by rw [hg];exact (bz_ (qb_ HB)) : w.heap.size ≤ gb102));have n3_:=mk_ ((by rw [hg];exact (bz_ (qb_ HB)) : w.heap.size ≤ gb102));clear HB;have HB:=n0_;have BK102:=n1_;have GW102:=n2_;have GE102:=n3_;clear n0_ n1_ n2_ n3_ hb hbox hg;have hcz15_0 : w14.cell? ⟨gb102,0,none⟩ = some (.int .i64 0):=(bc_ BK102.out 0).trans rfl;have hcz15_1 : w14.cell? ⟨gb102,1,none⟩ = some (.int .i64 0):=(bc_ BK102.out 1).trans rfl;have hfz15_0:=bf_ BK102.out 0;have hfz15_1:=bf_ BK102.out 1)|(go_at_call 44;(with_reducible refine (impl_within.calls ((rd_T35 l0 x7_1).f0) 0 2000 true _ A5.out).mono ?_);rintro e w' ⟨rfl,⟨nd,rfl⟩⟩;(try first|exact ⟨rfl,_,World.drewN_drewN _ _ _⟩|exact ⟨rfl,_,Eq.trans (World.drewN_drewN _ _ _) (congrArg (World.drewN _) (Nat.add_assoc _ _ _))⟩))|(go_at_call 44;(with_reducible refine (impl_within.calls ((rd_T35 l0 x7_1).f1) 1 50 true _ A7.out).mono ?_);rintro e w' ⟨rfl,⟨nd,rfl⟩⟩;(try first|exact ⟨rfl,_,World.drewN_drewN _ _ _⟩|exact ⟨rfl,_,Eq.trans (World.drewN_drewN _ _ _) (congrArg (World.drewN _) (Nat.add_assoc _ _ _))⟩);have p105 : 0 ≤ ((ji10) : Int):=od_ qa_;have q105 : (ji10) < (l0.length : Int):=od_ qa_;obtain ⟨ad105,e105,hx105_0,hx105_1⟩:=at_T35 HR0.out (ji10) p105 q105;obtain rfl : ad101 = ad105:=(by injection e105);have hn105_0 : ad101.block ≠ gb102:=Nat.ne_of_lt (Nat.lt_of_lt_of_le (by have:=wl_ _ _ hx105_0;first|rwa [add_block] at this|exact this) GW102.out);have hn105_1 : ad101.block ≠ gb102:=Nat.ne_of_lt (Nat.lt_of_lt_of_le (by have:=wl_ _ _ hx105_0;first|rwa [add_block] at this|exact this) GW102.out);replace hx105_0:=(HB.out.cell (wl_ w _ hx105_0)).trans hx105_0;replace hx105_1:=(HB.out.cell (wl_ w _ hx105_1)).trans hx105_1;replace hx105_0:=(cell_far (p:=⟨gb102,0,none⟩) (by first|(rw [add_block];exact hn105_0)|(show (Addr.add _ _).block ≠ _;rw [add_block];exact hn105_0)|exact hn105_0) (.int .i64 ((rd_T35 l0 x7_1).f0))).trans hx105_0;replace hx105_1:=(cell_far (p:=⟨gb102,0,none⟩) (by first|(rw [add_block];exact hn105_0)|(show (Addr.add _ _).block ≠ _;rw [add_block];exact hn105_0)|exact hn105_0) (.int .i64 ((rd_T35 l0 x7_1).f0))).trans hx105_1;replace hx105_0:=(cell_far (p:=⟨gb102,1,none⟩) (by first|(rw [add_block];exact hn105_1)|(show (Addr.add _ _).block ≠ _;rw [add_block];exact hn105_1)|exact hn105_1) (.int .i64 ((rd_T35 l0 x7_1).f1))).trans hx105_0;replace hx105_1:=(cell_far (p:=⟨gb102,1,none⟩) (by first|(rw [add_block];exact hn105_1)|(show (Addr.add _ _).block ≠ _;rw [add_block];exact hn105_1)|exact hn105_1) (.int .i64 ((rd_T35 l0 x7_1).f1))).trans hx105_1;(try have hy105_0:=fun (n_ : Nat) => (show ((((w14.drewN n_).setCell ⟨gb102,0,none⟩ (.int .i64 ((rd_T35 l0 x7_1).f0))).setCell ⟨gb102,1,none⟩ (.int .i64 ((rd_T35 l0 x7_1).f1)))).cell? _ = some _ from hx105_0));(try have hy105_1:=fun (n_ : Nat) => (show ((((w14.drewN n_).setCell ⟨gb102,0,none⟩ (.int .i64 ((rd_T35 l0 x7_1).f0))).setCell ⟨gb102,1,none⟩ (.int .i64 ((rd_T35 l0 x7_1).f1)))).cell? _ = some _ from hx105_1));clear hn105_0 hn105_1;replace p105:=eq_true p105;replace q105:=eq_true q105)))
            go_ret
            exact ⟨by first|rfl|(simp [errW_none,errW_some] <;> rfl)|(simp only [← hji10];first|rfl|(simp [errW_none,errW_some] <;> rfl))|(simp [*,errW_none,errW_some] <;> rfl),u1_ HB GE102⟩
           ·rw [if_neg c13] at H
            have c13b0 : decide (((rd_T35 l0 x7_1).f0) < ((rd_T35 l0 (ji10)).f0)) = false:=decide_eq_false c13
            clear c13
            have H':=mk_ H
            clear H
            have p101 : 0 ≤ (x7_1 : Int):=od_ qa_
            have q101 : x7_1 < (l0.length : Int):=od_ qa_
            obtain ⟨ad101,e101,hx101_0,hx101_1⟩:=at_T35 HR0.out x7_1 p101 q101
            cases e101
            replace hx101_0:=(HB.out.cell (wl_ w _ hx101_0)).trans hx101_0
            replace hx101_1:=(HB.out.cell (wl_ w _ hx101_1)).trans hx101_1
            replace p101:=eq_true p101
            replace q101:=eq_true q101
            go_wp2_with (first|((with_reducible refine gate_dst (N:=4) rfl ?_);refine box_event ?hg (N:=4) ?hd (cs:=#[.int .i64 0,.int .i64 0]) (t:=35) ?hr ?_;(case hd => rfl);(case hg => rfl);(case hr => first|(go_simp;done)|(go_simp;rfl));intro gb102 hg w16 hbox hb;have n0_:=mk_ (st_ (qb_ HB) hb);have n1_:=mk_ (hbox);have n2_:=mk_ ((by rw [hg];exact (bz_ (qb_ HB)) : w.heap.size ≤ gb102));have n3_:=mk_ ((by rw [hg];exact (bz_ (qb_ HB)) : w.heap.size ≤ gb102));clear HB;have HB:=n0_;have BK102:=n1_;have GW102:=n2_;have GE102:=n3_;clear n0_ n1_ n2_ n3_ hb hbox hg;have hcz17_0 : w16.cell? ⟨gb102,0,none⟩ = some (.int .i64 0):=(bc_ BK102.out 0).trans rfl;have hcz17_1 : w16.cell? ⟨gb102,1,none⟩ = some (.int .i64 0):=(bc_ BK102.out 1).trans rfl;have hfz17_0:=bf_ BK102.out 0;have hfz17_1:=bf_ BK102.out 1)|(go_at_call 44;(with_reducible refine (impl_within.calls ((rd_T35 l0 x7_1).f0) 0 2000 true _ A5.out).mono ?_);rintro e w' ⟨rfl,⟨nd,rfl⟩⟩;(try first|exact ⟨rfl,_,World.drewN_drewN _ _ _⟩|exact ⟨rfl,_,Eq.trans (World.drewN_drewN _ _ _) (congrArg (World.drewN _) (Nat.add_assoc _ _ _))⟩))|(go_at_call 44;(with_reducible refine (impl_within.calls ((rd_T35 l0 x7_1).f1) 1 50 true _ A7.out).mono ?_);rintro e w' ⟨rfl,⟨nd,rfl⟩⟩;(try first|exact ⟨rfl,_,World.drewN_drewN _ _ _⟩|exact ⟨rfl,_,Eq.trans (World.drewN_drewN _ _ _) (congrArg (World.drewN _) (Nat.add_assoc _ _ _))⟩);have p105 : 0 ≤ ((ji10) : Int):=od_ qa_;have q105 : (ji10) < (l0.length : Int):=od_ qa_;obtain ⟨ad105,e105,hx105_0,hx105_1⟩:=at_T35 HR0.out (ji10) p105 q105;obtain rfl : ad101 = ad105:=(by injection e105);have hn105_0 : ad101.block ≠ gb102:=Nat.ne_of_lt (Nat.lt_of_lt_of_le (by have:=wl_ _ _ hx105_0;first|rwa [add_block] at this|exact this) GW102.out);have hn105_1 : ad101.block ≠ gb102:=Nat.ne_of_lt (Nat.lt_of_lt_of_le (by have:=wl_ _ _ hx105_0;first|rwa [add_block] at this|exact this) GW102.out);replace hx105_0:=(HB.out.cell (wl_ w _ hx105_0)).trans hx105_0;replace hx105_1:=(HB.out.cell (wl_ w _ hx105_1)).trans hx105_1;replace hx105_0:=(cell_far (p:=⟨gb102,0,none⟩) (by first|(rw [add_block];exact hn105_0)|(show (Addr.add _ _).block ≠ _;rw [add_block];exact hn105_0)|exact hn105_0) (.int .i64 ((rd_T35 l0 x7_1).f0))).trans hx105_0;replace hx105_1:=(cell_far (p:=⟨gb102,0,none⟩) (by first|(rw [add_block];exact hn105_0)|(show (Addr.add _ _).block ≠ _;rw [add_block];exact hn105_0)|exact hn105_0) (.int .i64 ((rd_T35 l0 x7_1).f0))).trans hx105_1;replace hx105_0:=(cell_far (p:=⟨gb102,1,none⟩) (by first|(rw [add_block];exact hn105_1)|(show (Addr.add _ _).block ≠ _;rw [add_block];exact hn105_1)|exact hn105_1) (.int .i64 ((rd_T35 l0 x7_1).f1))).trans hx105_0;replace hx105_1:=(cell_far (p:=⟨gb102,1,none⟩) (by first|(rw [add_block];exact hn105_1)|(show (Addr.add _ _).block ≠ _;rw [add_block];exact hn105_1)|exact hn105_1) (.int .i64 ((rd_T35 l0 x7_1).f1))).trans hx105_1;(try have hy105_0:=fun (n_ : Nat) => (show ((((w16.drewN n_).setCell ⟨gb102,0,none⟩ (.int .i64 ((rd_T35 l0 x7_1).f0))).setCell ⟨gb102,1,none⟩ (.int .i64 ((rd_T35 l0 x7_1).f1)))).cell? _ = some _ from hx105_0));(try have hy105_1:=fun (n_ : Nat) => (show ((((w16.drewN n_).setCell ⟨gb102,0,none⟩ (.int .i64 ((rd_T35 l0 x7_1).f0))).setCell ⟨gb102,1,none⟩ (.int .i64 ((rd_T35 l0 x7_1).f1)))).cell? _ = some _ from hx105_1));clear hn105_0 hn105_1;replace p105:=eq_true p105;replace q105:=eq_true q105))
            repeat (go_quiet (first|((with_reducible refine gate_dst (N:=4) rfl ?_);refine box_event ?hg (N:=4) ?hd (cs:=#[.int .i64 0,.int .i64 0]) (t:=35) ?hr ?_;(case hd => rfl);(case hg => rfl);(case hr => first|(go_simp;done)|(go_simp;rfl));intro gb102 hg w16 hbox hb;have n0_:=mk_ (st_ (qb_ HB) hb);have n1_:=mk_ (hbox);have n2_:=mk_ ((by rw [hg];exact (bz_ (qb_ HB)) : w.heap.size ≤ gb102));have n3_:=mk_ ((by rw [hg];exact (bz_ (qb_ HB)) : w.heap.size ≤ gb102));clear HB;have HB:=n0_;have BK102:=n1_;have GW102:=n2_;have GE102:=n3_;clear n0_ n1_ n2_ n3_ hb hbox hg;have hcz17_0 : w16.cell? ⟨gb102,0,none⟩ = some (.int .i64 0):=(bc_ BK102.out 0).trans rfl;have hcz17_1 : w16.cell? ⟨gb102,1,none⟩ = some (.int .i64 0):=(bc_ BK102.out 1).trans rfl;have hfz17_0:=bf_ BK102.out 0;have hfz17_1:=bf_ BK102.out 1)|(go_at_call 44;(with_reducible refine (impl_within.calls ((rd_T35 l0 x7_1).f0) 0 2000 true _ A5.out).mono ?_);rintro e w' ⟨rfl,⟨nd,rfl⟩⟩;(try first|exact ⟨rfl,_,World.drewN_drewN _ _ _⟩|exact ⟨rfl,_,Eq.trans (World.drewN_drewN _ _ _) (congrArg (World.drewN _) (Nat.add_assoc _ _ _))⟩))|(go_at_call 44;(with_reducible refine (impl_within.calls ((rd_T35 l0 x7_1).f1) 1 50 true _ A7.out).mono ?_);rintro e w' ⟨rfl,⟨nd,rfl⟩⟩;(try first|exact ⟨rfl,_,World.drewN_drewN _ _ _⟩|exact ⟨rfl,_,Eq.trans (World.drewN_drewN _ _ _) (congrArg (World.drewN _) (Nat.add_assoc _ _ _))⟩);have p105 : 0 ≤ ((ji10) : Int):=od_ qa_;have q105 : (ji10) < (l0.length : Int):=od_ qa_;obtain ⟨ad105,e105,hx105_0,hx105_1⟩:=at_T35 HR0.out (ji10) p105 q105;obtain rfl : ad101 = ad105:=(by injection e105);have hn105_0 : ad101.block ≠ gb102:=Nat.ne_of_lt (Nat.lt_of_lt_of_le (by have:=wl_ _ _ hx105_0;first|rwa [add_block] at this|exact this) GW102.out);have hn105_1 : ad101.block ≠ gb102:=Nat.ne_of_lt (Nat.lt_of_lt_of_le (by have:=wl_ _ _ hx105_0;first|rwa [add_block] at this|exact this) GW102.out);replace hx105_0:=(HB.out.cell (wl_ w _ hx105_0)).trans hx105_0;replace hx105_1:=(HB.out.cell (wl_ w _ hx105_1)).trans hx105_1;replace hx105_0:=(cell_far (p:=⟨gb102,0,none⟩) (by first|(rw [add_block];exact hn105_0)|(show (Addr.add _ _).block ≠ _;rw [add_block];exact hn105_0)|exact hn105_0) (.int .i64 ((rd_T35 l0 x7_1).f0))).trans hx105_0;replace hx105_1:=(cell_far (p:=⟨gb102,0,none⟩) (by first|(rw [add_block];exact hn105_0)|(show (Addr.add _ _).block ≠ _;rw [add_block];exact hn105_0)|exact hn105_0) (.int .i64 ((rd_T35 l0 x7_1).f0))).trans hx105_1;replace hx105_0:=(cell_far (p:=⟨gb102,1,none⟩) (by first|(rw [add_block];exact hn105_1)|(show (Addr.add _ _).block ≠ _;rw [add_block];exact hn105_1)|exact hn105_1) (.int .i64 ((rd_T35 l0 x7_1).f1))).trans hx105_0;replace hx105_1:=(cell_far (p:=⟨gb102,1,none⟩) (by first|(rw [add_block];exact hn105_1)|(show (Addr.add _ _).block ≠ _;rw [add_block];exact hn105_1)|exact hn105_1) (.int .i64 ((rd_T35 l0 x7_1).f1))).trans hx105_1;(try have hy105_0:=fun (n_ : Nat) => (show ((((w16.drewN n_).setCell ⟨gb102,0,none⟩ (.int .i64 ((rd_T35 l0 x7_1).f0))).setCell ⟨gb102,1,none⟩ (.int .i64 ((rd_T35 l0 x7_1).f1)))).cell? _ = some _ from hx105_0));(try have hy105_1:=fun (n_ : Nat) => (show ((((w16.drewN n_).setCell ⟨gb102,0,none⟩ (.int .i64 ((rd_T35 l0 x7_1).f0))).setCell ⟨gb102,1,none⟩ (.int .i64 ((rd_T35 l0 x7_1).f1)))).cell? _ = some _ from hx105_1));clear hn105_0 hn105_1;replace p105:=eq_true p105;replace q105:=eq_true q105));try go_wp2_with (first|((with_reducible refine gate_dst (N:=4) rfl ?_);refine box_event ?hg (N:=4) ?hd (cs:=#[.int .i64 0,.int .i64 0]) (t:=35) ?hr ?_;(case hd => rfl);(case hg => rfl);(case hr => first|(go_simp;done)|(go_simp;rfl));intro gb102 hg w16 hbox hb;have n0_:=mk_ (st_ (qb_ HB) hb);have n1_:=mk_ (hbox);have n2_:=mk_ ((by rw [hg];exact (bz_ (qb_ HB)) : w.heap.size ≤ gb102));have n3_:=mk_ ((by rw [hg];exact (bz_ (qb_ HB)) : w.heap.size ≤ gb102));clear HB;have HB:=n0_;have BK102:=n1_;have GW102:=n2_;have GE102:=n3_;clear n0_ n1_ n2_ n3_ hb hbox hg;have hcz17_0 : w16.cell? ⟨gb102,0,none⟩ = some (.int .i64 0):=(bc_ BK102.out 0).trans rfl;have hcz17_1 : w16.cell? ⟨gb102,1,none⟩ = some (.int .i64 0):=(bc_ BK102.out 1).trans rfl;have hfz17_0:=bf_ BK102.out 0;have hfz17_1:=bf_ BK102.out 1)|(go_at_call 44;(with_reducible refine (impl_within.calls ((rd_T35 l0 x7_1).f0) 0 2000 true _ A5.out).mono ?_);rintro e w' ⟨rfl,⟨nd,rfl⟩⟩;(try first|exact ⟨rfl,_,World.drewN_drewN _ _ _⟩|exact ⟨rfl,_,Eq.trans (World.drewN_drewN _ _ _) (congrArg (World.drewN _) (Nat.add_assoc _ _ _))⟩))|(go_at_call 44;(with_reducible refine (impl_within.calls ((rd_T35 l0 x7_1).f1) 1 50 true _ A7.out).mono ?_);rintro e w' ⟨rfl,⟨nd,rfl⟩⟩;(try first|exact ⟨rfl,_,World.drewN_drewN _ _ _⟩|exact ⟨rfl,_,Eq.trans (World.drewN_drewN _ _ _) (congrArg (World.drewN _) (Nat.add_assoc _ _ _))⟩);have p105 : 0 ≤ ((ji10) : Int):=od_ qa_;have q105 : (ji10) < (l0.length : Int):=od_ qa_;obtain ⟨ad105,e105,hx105_0,hx105_1⟩:=at_T35 HR0.out (ji10) p105 q105;obtain rfl : ad101 = ad105:=(by injection e105);have hn105_0 : ad101.block ≠ gb102:=Nat.ne_of_lt (Nat.lt_of_lt_of_le (by have:=wl_ _ _ hx105_0;first|rwa [add_block] at this|exact this) GW102.out);have hn105_1 : ad101.block ≠ gb102:=Nat.ne_of_lt (Nat.lt_of_lt_of_le (by have:=wl_ _ _ hx105_0;first|rwa [add_block] at this|exact this) GW102.out);replace hx105_0:=(HB.out.cell (wl_ w _ hx105_0)).trans hx105_0;replace hx105_1:=(HB.out.cell (wl_ w _ hx105_1)).trans hx105_1;replace hx105_0:=(cell_far (p:=⟨gb102,0,none⟩) (by first|(rw [add_block];exact hn105_0)|(show (Addr.add _ _).block ≠ _;rw [add_block];exact hn105_0)|exact hn105_0) (.int .i64 ((rd_T35 l0 x7_1).f0))).trans hx105_0;replace hx105_1:=(cell_far (p:=⟨gb102,0,none⟩) (by first|(rw [add_block];exact hn105_0)|(show (Addr.add _ _).block ≠ _;rw [add_block];exact hn105_0)|exact hn105_0) (.int .i64 ((rd_T35 l0 x7_1).f0))).trans hx105_1;replace hx105_0:=(cell_far (p:=⟨gb102,1,none⟩) (by first|(rw [add_block];exact hn105_1)|(show (Addr.add _ _).block ≠ _;rw [add_block];exact hn105_1)|exact hn105_1) (.int .i64 ((rd_T35 l0 x7_1).f1))).trans hx105_0;replace hx105_1:=(cell_far (p:=⟨gb102,1,none⟩) (by first|(rw [add_block];exact hn105_1)|(show (Addr.add _ _).block ≠ _;rw [add_block];exact hn105_1)|exact hn105_1) (.int .i64 ((rd_T35 l0 x7_1).f1))).trans hx105_1;(try have hy105_0:=fun (n_ : Nat) => (show ((((w16.drewN n_).setCell ⟨gb102,0,none⟩ (.int .i64 ((rd_T35 l0 x7_1).f0))).setCell ⟨gb102,1,none⟩ (.int .i64 ((rd_T35 l0 x7_1).f1)))).cell? _ = some _ from hx105_0));(try have hy105_1:=fun (n_ : Nat) => (show ((((w16.drewN n_).setCell ⟨gb102,0,none⟩ (.int .i64 ((rd_T35 l0 x7_1).f0))).setCell ⟨gb102,1,none⟩ (.int .i64 ((rd_T35 l0 x7_1).f1)))).cell? _ = some _ from hx105_1));clear hn105_0 hn105_1;replace p105:=eq_true p105;replace q105:=eq_true q105)))
            go_roundg k1
            case measure => have:=HK1.out;omega
            case rel => exact ⟨(wrap64 (x7_1 + 1)),qf_,H',⟨by have:=HK1.out;omega⟩,⟨u1_ HB GE102⟩⟩
          ·rw [if_neg c12] at H
           exact absurd H (by simp)
         ·rw [if_neg c11] at H
          exact absurd H (by simp)
        ·rw [if_neg c9] at H
         have c9b0 : decide (0 < x7_1) = false:=decide_eq_false c9
         clear c9
         have H':=mk_ H
         clear H
         have p101 : 0 ≤ (x7_1 : Int):=od_ qa_
         have q101 : x7_1 < (l0.length : Int):=od_ qa_
         obtain ⟨ad101,e101,hx101_0,hx101_1⟩:=at_T35 HR0.out x7_1 p101 q101
         cases e101
         replace hx101_0:=(HB.out.cell (wl_ w _ hx101_0)).trans hx101_0
         replace hx101_1:=(HB.out.cell (wl_ w _ hx101_1)).trans hx101_1
         replace p101:=eq_true p101
         replace q101:=eq_true q101
         go_wp2_with (first|((with_reducible refine gate_dst (N:=4) rfl ?_);refine box_event ?hg (N:=4) ?hd (cs:=#[.int .i64 0,.int .i64 0]) (t:=35) ?hr ?_;(case hd => rfl);(case hg => rfl);(case hr => first|(go_simp;done)|(go_simp;rfl));intro gb102 hg w18 hbox hb;have n0_:=mk_ (st_ (qb_ HB) hb);have n1_:=mk_ (hbox);have n2_:=mk_ ((by rw [hg];exact (bz_ (qb_ HB)) : w.heap.size ≤ gb102));have n3_:=mk_ ((by rw [hg];exact (bz_ (qb_ HB)) : w.heap.size ≤ gb102));clear HB;have HB:=n0_;have BK102:=n1_;have GW102:=n2_;have GE102:=n3_;clear n0_ n1_ n2_ n3_ hb hbox hg;have hcz19_0 : w18.cell? ⟨gb102,0,none⟩ = some (.int .i64 0):=(bc_ BK102.out 0).trans rfl;have hcz19_1 : w18.cell? ⟨gb102,1,none⟩ = some (.int .i64 0):=(bc_ BK102.out 1).trans rfl;have hfz19_0:=bf_ BK102.out 0;have hfz19_1:=bf_ BK102.out 1)|(go_at_call 44;(with_reducible refine (impl_within.calls ((rd_T35 l0 x7_1).f0) 0 2000 true _ A5.out).mono ?_);rintro e w' ⟨rfl,⟨nd,rfl⟩⟩;(try first|exact ⟨rfl,_,World.drewN_drewN _ _ _⟩|exact ⟨rfl,_,Eq.trans (World.drewN_drewN _ _ _) (congrArg (World.drewN _) (Nat.add_assoc _ _ _))⟩))|(go_at_call 44;(with_reducible refine (impl_within.calls ((rd_T35 l0 x7_1).f1) 1 50 true _ A7.out).mono ?_);rintro e w' ⟨rfl,⟨nd,rfl⟩⟩;(try first|exact ⟨rfl,_,World.drewN_drewN _ _ _⟩|exact ⟨rfl,_,Eq.trans (World.drewN_drewN _ _ _) (congrArg (World.drewN _) (Nat.add_assoc _ _ _))⟩)))
         repeat (go_quiet (first|((with_reducible refine gate_dst (N:=4) rfl ?_);refine box_event ?hg (N:=4) ?hd (cs:=#[.int .i64 0,.int .i64 0]) (t:=35) ?hr ?_;(case hd => rfl);(case hg => rfl);(case hr => first|(go_simp;done)|(go_simp;rfl));intro gb102 hg w18 hbox hb;have n0_:=mk_ (st_ (qb_ HB) hb);have n1_:=mk_ (hbox);have n2_:=mk_ ((by rw [hg];exact (bz_ (qb_ HB)) : w.heap.size ≤ gb102));have n3_:=mk_ ((by rw [hg];exact (bz_ (qb_ HB)) : w.heap.size ≤ gb102));clear HB;have HB:=n0_;have BK102:=n1_;have GW102:=n2_;have GE102:=n3_;clear n0_ n1_ n2_ n3_ hb hbox hg;have hcz19_0 : w18.cell? ⟨gb102,0,none⟩ = some (.int .i64 0):=(bc_ BK102.out 0).trans rfl;have hcz19_1 : w18.cell? ⟨gb102,1,none⟩ = some (.int .i64 0):=(bc_ BK102.out 1).trans rfl;have hfz19_0:=bf_ BK102.out 0;have hfz19_1:=bf_ BK102.out 1)|(go_at_call 44;(with_reducible refine (impl_within.calls ((rd_T35 l0 x7_1).f0) 0 2000 true _ A5.out).mono ?_);rintro e w' ⟨rfl,⟨nd,rfl⟩⟩;(try first|exact ⟨rfl,_,World.drewN_drewN _ _ _⟩|exact ⟨rfl,_,Eq.trans (World.drewN_drewN _ _ _) (congrArg (World.drewN _) (Nat.add_assoc _ _ _))⟩))|(go_at_call 44;(with_reducible refine (impl_within.calls ((rd_T35 l0 x7_1).f1) 1 50 true _ A7.out).mono ?_);rintro e w' ⟨rfl,⟨nd,rfl⟩⟩;(try first|exact ⟨rfl,_,World.drewN_drewN _ _ _⟩|exact ⟨rfl,_,Eq.trans (World.drewN_drewN _ _ _) (congrArg (World.drewN _) (Nat.add_assoc _ _ _))⟩)));try go_wp2_with (first|((with_reducible refine gate_dst (N:=4) rfl ?_);refine box_event ?hg (N:=4) ?hd (cs:=#[.int .i64 0,.int .i64 0]) (t:=35) ?hr ?_;(case hd => rfl);(case hg => rfl);(case hr => first|(go_simp;done)|(go_simp;rfl));intro gb102 hg w18 hbox hb;have n0_:=mk_ (st_ (qb_ HB) hb);have n1_:=mk_ (hbox);have n2_:=mk_ ((by rw [hg];exact (bz_ (qb_ HB)) : w.heap.size ≤ gb102));have n3_:=mk_ ((by rw [hg];exact (bz_ (qb_ HB)) : w.heap.size ≤ gb102));clear HB;have HB:=n0_;have BK102:=n1_;have GW102:=n2_;have GE102:=n3_;clear n0_ n1_ n2_ n3_ hb hbox hg;have hcz19_0 : w18.cell? ⟨gb102,0,none⟩ = some (.int .i64 0):=(bc_ BK102.out 0).trans rfl;have hcz19_1 : w18.cell? ⟨gb102,1,none⟩ = some (.int .i64 0):=(bc_ BK102.out 1).trans rfl;have hfz19_0:=bf_ BK102.out 0;have hfz19_1:=bf_ BK102.out 1)|(go_at_call 44;(with_reducible refine (impl_within.calls ((rd_T35 l0 x7_1).f0) 0 2000 true _ A5.out).mono ?_);rintro e w' ⟨rfl,⟨nd,rfl⟩⟩;(try first|exact ⟨rfl,_,World.drewN_drewN _ _ _⟩|exact ⟨rfl,_,Eq.trans (World.drewN_drewN _ _ _) (congrArg (World.drewN _) (Nat.add_assoc _ _ _))⟩))|(go_at_call 44;(with_reducible refine (impl_within.calls ((rd_T35 l0 x7_1).f1) 1 50 true _ A7.out).mono ?_);rintro e w' ⟨rfl,⟨nd,rfl⟩⟩;(try first|exact ⟨rfl,_,World.drewN_drewN _ _ _⟩|exact ⟨rfl,_,Eq.trans (World.drewN_drewN _ _ _) (congrArg (World.drewN _) (Nat.add_assoc _ _ _))⟩))))
         go_roundg k1
         case measure => have:=HK1.out;omega
         case rel => exact ⟨(wrap64 (x7_1 + 1)),qf_,H',⟨by have:=HK1.out;omega⟩,⟨u1_ HB GE102⟩⟩
       ·replace c8:=Bool.eq_false_iff.mpr c8
        subst c8
        have H1 : (some false) = some r:=by rw [if_neg (show ¬ (false = true) by decide)] at H;exact H
        clear H
        have H:=H1
        clear H1
        obtain rfl:=Option.some.inj H
        have p101 : 0 ≤ (x7_1 : Int):=od_ qa_
        have q101 : x7_1 < (l0.length : Int):=od_ qa_
        obtain ⟨ad101,e101,hx101_0,hx101_1⟩:=at_T35 HR0.out x7_1 p101 q101
        cases e101
        replace hx101_0:=(HB.out.cell (wl_ w _ hx101_0)).trans hx101_0
        replace hx101_1:=(HB.out.cell (wl_ w _ hx101_1)).trans hx101_1
        replace p101:=eq_true p101
        replace q101:=eq_true q101
        go_wp2_with (first|((with_reducible refine gate_dst (N:=4) rfl ?_);refine box_event ?hg (N:=4) ?hd (cs:=#[.int .i64 0,.int .i64 0]) (t:=35) ?hr ?_;(case hd => rfl);(case hg => rfl);(case hr => first|(go_simp;done)|(go_simp;rfl));intro gb102 hg w20 hbox hb;have n0_:=mk_ (st_ (qb_ HB) hb);have n1_:=mk_ (hbox);have n2_:=mk_ ((by rw [hg];exact (bz_ (qb_ HB)) : w.heap.size ≤ gb102));have n3_:=mk_ ((by rw [hg];exact (bz_ (qb_ HB)) : w.heap.size ≤ gb102));clear HB;have HB:=n0_;have BK102:=n1_;have GW102:=n2_;have GE102:=n3_;clear n0_ n1_ n2_ n3_ hb hbox hg;have hcz21_0 : w20.cell? ⟨gb102,0,none⟩ = some (.int .i64 0):=(bc_ BK102.out 0).trans rfl;have hcz21_1 : w20.cell? ⟨gb102,1,none⟩ = some (.int .i64 0):=(bc_ BK102.out 1).trans rfl;have hfz21_0:=bf_ BK102.out 0;have hfz21_1:=bf_ BK102.out 1)|(go_at_call 44;(with_reducible refine (impl_within.calls ((rd_T35 l0 x7_1).f0) 0 2000 true _ A5.out).mono ?_);rintro e w' ⟨rfl,⟨nd,rfl⟩⟩;(try first|exact ⟨rfl,_,World.drewN_drewN _ _ _⟩|exact ⟨rfl,_,Eq.trans (World.drewN_drewN _ _ _) (congrArg (World.drewN _) (Nat.add_assoc _ _ _))⟩))|(go_at_call 44;(with_reducible refine (impl_within.calls ((rd_T35 l0 x7_1).f1) 1 50 false _ A7.out).mono ?_);rintro e w' ⟨rfl,⟨nd,rfl⟩⟩;(try first|exact ⟨rfl,_,World.drewN_drewN _ _ _⟩|exact ⟨rfl,_,Eq.trans (World.drewN_drewN _ _ _) (congrArg (World.drewN _) (Nat.add_assoc _ _ _))⟩)))
        repeat (go_quiet (first|((with_reducible refine gate_dst (N:=4) rfl ?_);refine box_event ?hg (N:=4) ?hd (cs:=#[.int .i64 0,.int .i64 0]) (t:=35) ?hr ?_;(case hd => rfl);(case hg => rfl);(case hr => first|(go_simp;done)|(go_simp;rfl));intro gb102 hg w20 hbox hb;have n0_:=mk_ (st_ (qb_ HB) hb);have n1_:=mk_ (hbox);have n2_:=mk_ ((by rw [hg];exact (bz_ (qb_ HB)) : w.heap.size ≤ gb102));have n3_:=mk_ ((by rw [hg];exact (bz_ (qb_ HB)) : w.heap.size ≤ gb102));clear HB;have HB:=n0_;have BK102:=n1_;have GW102:=n2_;have GE102:=n3_;clear n0_ n1_ n2_ n3_ hb hbox hg;have hcz21_0 : w20.cell? ⟨gb102,0,none⟩ = some (.int .i64 0):=(bc_ BK102.out 0).trans rfl;have hcz21_1 : w20.cell? ⟨gb102,1,none⟩ = some (.int .i64 0):=(bc_ BK102.out 1).trans rfl;have hfz21_0:=bf_ BK102.out 0;have hfz21_1:=bf_ BK102.out 1)|(go_at_call 44;(with_reducible refine (impl_within.calls ((rd_T35 l0 x7_1).f0) 0 2000 true _ A5.out).mono ?_);rintro e w' ⟨rfl,⟨nd,rfl⟩⟩;(try first|exact ⟨rfl,_,World.drewN_drewN _ _ _⟩|exact ⟨rfl,_,Eq.trans (World.drewN_drewN _ _ _) (congrArg (World.drewN _) (Nat.add_assoc _ _ _))⟩))|(go_at_call 44;(with_reducible refine (impl_within.calls ((rd_T35 l0 x7_1).f1) 1 50 false _ A7.out).mono ?_);rintro e w' ⟨rfl,⟨nd,rfl⟩⟩;(try first|exact ⟨rfl,_,World.drewN_drewN _ _ _⟩|exact ⟨rfl,_,Eq.trans (World.drewN_drewN _ _ _) (congrArg (World.drewN _) (Nat.add_assoc _ _ _))⟩)));try go_wp2_with (first|((with_reducible refine gate_dst (N:=4) rfl ?_);refine box_event ?hg (N:=4) ?hd (cs:=#[.int .i64 0,.int .i64 0]) (t:=35) ?hr ?_;(case hd => rfl);(case hg => rfl);(case hr => first|(go_simp;done)|(go_simp;rfl));intro gb102 hg w20 hbox hb;have n0_:=mk_ (st_ (qb_ HB) hb);have n1_:=mk_ (hbox);have n2_:=mk_ ((by rw [hg];exact (bz_ (qb_ HB)) : w.heap.size ≤ gb102));have n3_:=mk_ ((by rw [hg];exact (bz_ (qb_ HB)) : w.heap.size ≤ gb102));clear HB;have HB:=n0_;have BK102:=n1_;have GW102:=n2_;have GE102:=n3_;clear n0_ n1_ n2_ n3_ hb hbox hg;have hcz21_0 : w20.cell? ⟨gb102,0,none⟩ = some (.int .i64 0):=(bc_ BK102.out 0).trans rfl;have hcz21_1 : w20.cell? ⟨gb102,1,none⟩ = some (.int .i64 0):=(bc_ BK102.out 1).trans rfl;have hfz21_0:=bf_ BK102.out 0;have hfz21_1:=bf_ BK102.out 1)|(go_at_call 44;(with_reducible refine (impl_within.calls ((rd_T35 l0 x7_1).f0) 0 2000 true _ A5.out).mono ?_);rintro e w' ⟨rfl,⟨nd,rfl⟩⟩;(try first|exact ⟨rfl,_,World.drewN_drewN _ _ _⟩|exact ⟨rfl,_,Eq.trans (World.drewN_drewN _ _ _) (congrArg (World.drewN _) (Nat.add_assoc _ _ _))⟩))|(go_at_call 44;(with_reducible refine (impl_within.calls ((rd_T35 l0 x7_1).f1) 1 50 false _ A7.out).mono ?_);rintro e w' ⟨rfl,⟨nd,rfl⟩⟩;(try first|exact ⟨rfl,_,World.drewN_drewN _ _ _⟩|exact ⟨rfl,_,Eq.trans (World.drewN_drewN _ _ _) (congrArg (World.drewN _) (Nat.add_assoc _ _ _))⟩))))
        go_ret
        exact ⟨qe_,u1_ HB GE102⟩
      ·replace c6:=Bool.eq_false_iff.mpr c6
       subst c6
       have H1 : (some false) = some r:=by rw [if_neg (show ¬ (false = true) by decide)] at H;exact H
       clear H
       have H:=H1
       clear H1
       obtain rfl:=Option.some.inj H
       have p101 : 0 ≤ (x7_1 : Int):=od_ qa_
       have q101 : x7_1 < (l0.length : Int):=od_ qa_
       obtain ⟨ad101,e101,hx101_0,hx101_1⟩:=at_T35 HR0.out x7_1 p101 q101
       cases e101
       replace hx101_0:=(HB.out.cell (wl_ w _ hx101_0)).trans hx101_0
       replace hx101_1:=(HB.out.cell (wl_ w _ hx101_1)).trans hx101_1
       replace p101:=eq_true p101
       replace q101:=eq_true q101
       go_wp2_with (first|((with_reducible refine gate_dst (N:=4) rfl ?_);refine box_event ?hg (N:=4) ?hd (cs:=#[.int .i64 0,.int .i64 0]) (t:=35) ?hr ?_;(case hd => rfl);(case hg => rfl);(case hr => first|(go_simp;done)|(go_simp;rfl));intro gb102 hg w22 hbox hb;have n0_:=mk_ (st_ (qb_ HB) hb);have n1_:=mk_ (hbox);have n2_:=mk_ ((by rw [hg];exact (bz_ (qb_ HB)) : w.heap.size ≤ gb102));have n3_:=mk_ ((by rw [hg];exact (bz_ (qb_ HB)) : w.heap.size ≤ gb102));clear HB;have HB:=n0_;have BK102:=n1_;have GW102:=n2_;have GE102:=n3_;clear n0_ n1_ n2_ n3_ hb hbox hg;have hcz23_0 : w22.cell? ⟨gb102,0,none⟩ = some (.int .i64 0):=(bc_ BK102.out 0).trans rfl;have hcz23_1 : w22.cell? ⟨gb102,1,none⟩ = some (.int .i64 0):=(bc_ BK102.out 1).trans rfl;have hfz23_0:=bf_ BK102.out 0;have hfz23_1:=bf_ BK102.out 1)|(go_at_call 44;(with_reducible refine (impl_within.calls ((rd_T35 l0 x7_1).f0) 0 2000 false _ A5.out).mono ?_);rintro e w' ⟨rfl,⟨nd,rfl⟩⟩;(try first|exact ⟨rfl,_,World.drewN_drewN _ _ _⟩|exact ⟨rfl,_,Eq.trans (World.drewN_drewN _ _ _) (congrArg (World.drewN _) (Nat.add_assoc _ _ _))⟩)))
       repeat (go_quiet (first|((with_reducible refine gate_dst (N:=4) rfl ?_);refine box_event ?hg (N:=4) ?hd (cs:=#[.int .i64 0,.int .i64 0]) (t:=35) ?hr ?_;(case hd => rfl);(case hg => rfl);(case hr => first|(go_simp;done)|(go_simp;rfl));intro gb102 hg w22 hbox hb;have n0_:=mk_ (st_ (qb_ HB) hb);have n1_:=mk_ (hbox);have n2_:=mk_ ((by rw [hg];exact (bz_ (qb_ HB)) : w.heap.size ≤ gb102));have n3_:=mk_ ((by rw [hg];exact (bz_ (qb_ HB)) : w.heap.size ≤ gb102));clear HB;have HB:=n0_;have BK102:=n1_;have GW102:=n2_;have GE102:=n3_;clear n0_ n1_ n2_ n3_ hb hbox hg;have hcz23_0 : w22.cell? ⟨gb102,0,none⟩ = some (.int .i64 0):=(bc_ BK102.out 0).trans rfl;have hcz23_1 : w22.cell? ⟨gb102,1,none⟩ = some (.int .i64 0):=(bc_ BK102.out 1).trans rfl;have hfz23_0:=bf_ BK102.out 0;have hfz23_1:=bf_ BK102.out 1)|(go_at_call 44;(with_reducible refine (impl_within.calls ((rd_T35 l0 x7_1).f0) 0 2000 false _ A5.out).mono ?_);rintro e w' ⟨rfl,⟨nd,rfl⟩⟩;(try first|exact ⟨rfl,_,World.drewN_drewN _ _ _⟩|exact ⟨rfl,_,Eq.trans (World.drewN_drewN _ _ _) (congrArg (World.drewN _) (Nat.add_assoc _ _ _))⟩)));try go_wp2_with (first|((with_reducible refine gate_dst (N:=4) rfl ?_);refine box_event ?hg (N:=4) ?hd (cs:=#[.int .i64 0,.int .i64 0]) (t:=35) ?hr ?_;(case hd => rfl);(case hg => rfl);(case hr => first|(go_simp;done)|(go_simp;rfl));intro gb102 hg w22 hbox hb;have n0_:=mk_ (st_ (qb_ HB) hb);have n1_:=mk_ (hbox);have n2_:=mk_ ((by rw [hg];exact (bz_ (qb_ HB)) : w.heap.size ≤ gb102));have n3_:=mk_ ((by rw [hg];exact (bz_ (qb_ HB)) : w.heap.size ≤ gb102));clear HB;have HB:=n0_;have BK102:=n1_;have GW102:=n2_;have GE102:=n3_;clear n0_ n1_ n2_ n3_ hb hbox hg;have hcz23_0 : w22.cell? ⟨gb102,0,none⟩ = some (.int .i64 0):=(bc_ BK102.out 0).trans rfl;have hcz23_1 : w22.cell? ⟨gb102,1,none⟩ = some (.int .i64 0):=(bc_ BK102.out 1).trans rfl;have hfz23_0:=bf_ BK102.out 0;have hfz23_1:=bf_ BK102.out 1)|(go_at_call 44;(with_reducible refine (impl_within.calls ((rd_T35 l0 x7_1).f0) 0 2000 false _ A5.out).mono ?_);rintro e w' ⟨rfl,⟨nd,rfl⟩⟩;(try first|exact ⟨rfl,_,World.drewN_drewN _ _ _⟩|exact ⟨rfl,_,Eq.trans (World.drewN_drewN _ _ _) (congrArg (World.drewN _) (Nat.add_assoc _ _ _))⟩))))
       go_ret
       exact ⟨qe_,u1_ HB GE102⟩
     ·rw [if_neg c4] at H
      exact absurd H (by simp)
    ·rw [if_neg c3] at H
     exact absurd H (by simp)
   ·rw [if_neg c2] at H
    have c2b0 : decide (x7_1 < (l0.length : Int)) = false:=decide_eq_false c2
    clear c2
    obtain rfl:=Option.some.inj H
    go_wp2
    repeat (go_quiet (fail);try go_wp2)
    go_ret
    exact ⟨qe_,u0_ HB⟩

-- LIB preds
/-- What is asked of a function value that answers a bool: at every x, in every world in which all that lay in w lies as it lay, it answers p x and turns nothing that lies there. -/
def PredB {α : Type} (P : Program) (g : Nat) (lb : Array Value) (enc : α → Value) (p : α → Bool) (w : World) : Prop :=
  ∀ (W : World) (x : α),Below w.heap.size w W → Calls P g (#[enc x] ++ lb) W fun e w' => e = .returned (.bool (p x)) ∧ Below W.heap.size W w'
theorem PredB.later {α : Type} {P : Program} {g : Nat} {lb : Array Value} {enc : α → Value} {p : α → Bool} {w W : World} (h : PredB P g lb enc p w) (hb : Below w.heap.size w W) : PredB P g lb enc p W :=
  fun W' x hb' => h W' x (hb.trans (hb'.mono hb.size))
theorem below_step {w W W' : World} (h : Below w.heap.size w W) (h' : Below W.heap.size W W') : Below w.heap.size w W':=h.trans (h'.mono h.size)

-- LIB bucket
/-- The one block g may have turned, and new blocks are there; nothing else. -/
def TurnsG (w w' : World) (g : Nat) : Prop:=KeepBut w w' g none ∧ ∀ w0 : World,w0.heap.size ≤ g → Below w0.heap.size w0 w → Below w0.heap.size w0 w'
theorem TurnsG.refl (w : World) (g : Nat) : TurnsG w w g:=⟨KeepBut.refl w g none,fun _ _ h => h⟩
theorem TurnsG.trans {w w1 w2 : World} {g : Nat} (h : TurnsG w w1 g) (h' : TurnsG w1 w2 g) : TurnsG w w2 g :=
  ⟨⟨Nat.le_trans h.1.1 h'.1.1,fun i hi hb hn => (h'.1.2 i (Nat.lt_of_lt_of_le hi h.1.1) hb hn).trans (h.1.2 i hi hb hn)⟩,fun w0 h0 hb => h'.2 w0 h0 (h.2 w0 h0 hb)⟩
theorem TurnsG.below {w w' : World} (h : Below w.heap.size w w') (g : Nat) : TurnsG w w' g:=⟨KeepBut.of_below h g none,fun _ _ hb => hb.trans (h.mono hb.size)⟩
theorem TurnsG.set {w w' : World} {g : Nat} (h : TurnsG w w' g) (j : Nat) (u : Value) : TurnsG w (w'.setCell ⟨g,j,none⟩ u) g:=⟨h.1.set_ j u,fun w0 h0 hb => (h.2 w0 h0 hb).setCell h0 u⟩
def bk (r b T a : Int) : Obj:=.cells #[.int .i64 r,.int .i64 b,.int .i64 T,.int .i64 a] 62 (0,0)
/-- The tokens at a later time. -/
def untilT (r b T a t : Int) : Int:=mn b (wrap64 (T + wrap64 (r * wrap64 (t - a))))
set_option maxHeartbeats 4000000 in
set_option maxRecDepth 100000 in
theorem x_until (g : Nat) (r b T a t : Int) (w : World) (hg : w.heap[g]? = some (bk r b T a)) :
    Calls Try.prog 46 #[.pointer (some ⟨g,0,none⟩),.int .i64 t] w fun e w' => e = .returned (.tuple #[]) ∧ w'.heap[g]? = some (bk r b (untilT r b T a t) t) ∧ TurnsG w w' g:=by
  have hu:=Try.underlying62
  have c0 : w.cell? ⟨g,0,none⟩ = some (.int .i64 r):=(blk_cell hg 0).trans rfl
  have c1 : w.cell? ⟨g,1,none⟩ = some (.int .i64 b):=(blk_cell hg 1).trans rfl
  have c2 : w.cell? ⟨g,2,none⟩ = some (.int .i64 T):=(blk_cell hg 2).trans rfl
  have c3 : w.cell? ⟨g,3,none⟩ = some (.int .i64 a):=(blk_cell hg 3).trans rfl
  have f2 : w.frozen? ⟨g,2,none⟩ = false:=blk_frozen hg 2
  have f3 : w.frozen? ⟨g,3,none⟩ = false:=blk_frozen hg 3
  have HG:=Aside0.mk hg
  clear hg
  have HM : Aside0 (untilT r b T a t = mn b (wrap64 (T + wrap64 (r * wrap64 (t - a))))):=⟨rfl⟩
  generalize untilT r b T a t = m at HM ⊢
  obtain ⟨x1,hx1⟩ : ∃ x1,x1 = wrap64 (t - a):=⟨_,rfl⟩
  obtain ⟨x2,hx2⟩ : ∃ x2,x2 = wrap64 (r * x1):=⟨_,rfl⟩
  obtain ⟨x3,hx3⟩ : ∃ x3,x3 = wrap64 (T + x2):=⟨_,rfl⟩
  have HM' : m = mn b x3:=by rw [HM.out,hx3,hx2,hx1]
  have y1 : IntKind.i64.wrap (t - a) = x1:=(i64_w _).trans hx1.symm
  have y2 : IntKind.i64.wrap (r * x1) = x2:=(i64_w _).trans hx2.symm
  have y3 : IntKind.i64.wrap (T + x2) = x3:=(i64_w _).trans hx3.symm
  have y4 : (if x3 < b then x3 else b) = m:=HM'.symm
  clear HM HM' hx1 hx2 hx3
  go_enter Try.func46,Try.ntmps46
  go_wp2
  go_still_tail 22,(by kernel_rfl)
  change wpList _ _ _ _ _ w.drew
  have b2:=blk_put (w:=w.drew) HG.out 2 (.int .i64 m) rfl
  have f3':=blk_frozen b2 3
  have B2:=Aside0.mk b2
  clear b2
  go_wp2
  go_end0
  refine ⟨rfl,?_,((TurnsG.below (w':=w.drew) (Below.refl _ _).drew g).set 2 _).set 3 _⟩
  exact blk_put B2.out 3 (.int .i64 t) rfl
/-- A frame that asks for tokens: are there as many; and what is left. -/
def takeOk (r b T a at_ size : Int) : Bool:=decide (size ≤ untilT r b T a at_)
def takeT (r b T a at_ size : Int) : Int:=if size ≤ untilT r b T a at_ then wrap64 (untilT r b T a at_ - size) else untilT r b T a at_
set_option maxHeartbeats 4000000 in
set_option maxRecDepth 100000 in
theorem x_take (g : Nat) (r b T a at_ size : Int) (w : World) (hg : w.heap[g]? = some (bk r b T a)) :
    Calls Try.prog 45 #[.pointer (some ⟨g,0,none⟩),.agg #[.int .i64 at_,.int .i64 size]] w fun e w' => e = .returned (.bool (takeOk r b T a at_ size)) ∧ w'.heap[g]? = some (bk r b (takeT r b T a at_ size) at_) ∧ TurnsG w w' g:=by
  have hu:=Try.underlying62
  have hu2:=Try.underlying35
  have hlt:=blk_lt hg
  have hb0 : Below w.heap.size w (w.alloc (.cells #[.int .i64 at_,.int .i64 size] 35)):=(Below.refl _ w).alloc (Nat.le_refl _) _
  have hb0p:=blk_new w (.cells #[.int .i64 at_,.int .i64 size] 35)
  have hcall:=x_until g r b T a at_ (w.alloc (.cells #[.int .i64 at_,.int .i64 size] 35)) (blk_alloc hg _)
  have HB0:=Aside0.mk hb0
  have HB0P:=Aside0.mk hb0p
  have HO : Aside0 (takeOk r b T a at_ size = decide (size ≤ untilT r b T a at_)):=⟨rfl⟩
  have HT : Aside0 (takeT r b T a at_ size = if size ≤ untilT r b T a at_ then wrap64 (untilT r b T a at_ - size) else untilT r b T a at_):=⟨rfl⟩
  generalize takeOk r b T a at_ size = z at HO ⊢
  generalize takeT r b T a at_ size = zt at HT ⊢
  generalize untilT r b T a at_ = m at HO HT hcall
  clear hg hb0 hb0p
  by_cases h : size ≤ m
  · have hd : decide (m < size) = false:=decide_eq_false (by omega)
    obtain ⟨x1,hx1⟩ : ∃ x1,x1 = wrap64 (m - size):=⟨_,rfl⟩
    have y1 : IntKind.i64.wrap (m - size) = x1:=(i64_w _).trans hx1.symm
    have HZ : Aside0 (z = true):=⟨by rw [HO.out,decide_eq_true h]⟩
    have HZT : Aside0 (zt = x1):=⟨by rw [HT.out,if_pos h,hx1]⟩
    clear HO HT hx1 h
    go_enter Try.func45,Try.ntmps45
    go_wp2_with fail
    refine hcall.mono ?_
    rintro e w1 ⟨rfl,hg1,ht1⟩
    have c2 : w1.cell? ⟨g,2,none⟩ = some (.int .i64 m):=(blk_cell hg1 2).trans rfl
    have f2 : w1.frozen? ⟨g,2,none⟩ = false:=blk_frozen hg1 2
    have p1 : w1.cell? ⟨w.heap.size,1,none⟩ = some (.int .i64 size):=(blk_cell (ht1.1.blk HB0P.out (by omega) (by simp)) 1).trans rfl
    have HX:=Aside0.mk (And.intro hg1 ht1)
    clear hg1 ht1
    go_wp2
    go_quiet (fail)
    go_wp2
    have c2' : (w1.drewN nq).cell? ⟨g,2,none⟩ = some (.int .i64 m):=c2
    have f2' : (w1.drewN nq).frozen? ⟨g,2,none⟩ = false:=f2
    have p1' : (w1.drewN nq).cell? ⟨w.heap.size,1,none⟩ = some (.int .i64 size):=p1
    have HX' : Aside0 ((w1.drewN nq).heap[g]? = some (bk r b m at_) ∧ TurnsG w (w1.drewN nq) g):=⟨HX.out.1,((TurnsG.below HB0.out g).trans HX.out.2).trans (TurnsG.below (pw_below_drewN (Below.refl _ _) _) g)⟩
    clear c2 f2 p1 HX
    generalize w1.drewN nq = w2 at *
    go_still_tail 7,(by kernel_rfl)
    change wpList _ _ _ _ _ w2.drew
    go_wp2
    go_ret
    refine ⟨by rw [HZ.out];rfl,?_,HX'.out.2.trans ((TurnsG.below (w':=w2.drew) (Below.refl _ _).drew g).set 2 _)⟩
    rw [HZT.out]
    exact blk_put (w:=w2.drew) HX'.out.1 2 (.int .i64 x1) rfl
  · have hd : decide (m < size) = true:=decide_eq_true (by omega)
    have HZ : Aside0 (z = false):=⟨by rw [HO.out,decide_eq_false h]⟩
    have HZT : Aside0 (zt = m):=⟨by rw [HT.out,if_neg h]⟩
    clear HO HT h
    go_enter Try.func45,Try.ntmps45
    go_wp2_with fail
    refine hcall.mono ?_
    rintro e w1 ⟨rfl,hg1,ht1⟩
    have c2 : w1.cell? ⟨g,2,none⟩ = some (.int .i64 m):=(blk_cell hg1 2).trans rfl
    have p1 : w1.cell? ⟨w.heap.size,1,none⟩ = some (.int .i64 size):=(blk_cell (ht1.1.blk HB0P.out (by omega) (by simp)) 1).trans rfl
    have HX:=Aside0.mk (And.intro hg1 ht1)
    clear hg1 ht1
    go_wp2
    go_quiet (fail)
    go_wp2
    go_ret
    exact ⟨by rw [HZ.out];rfl,by rw [HZT.out];exact HX.out.1,((TurnsG.below HB0.out g).trans HX.out.2).trans (TurnsG.below (pw_below_drewN (Below.refl _ _) _) g)⟩

-- LIB pbase
theorem wrap_eq {x : Int} (h1 : -9223372036854775808 ≤ x) (h2 : x ≤ 9223372036854775807) : wrap64 x = x:=by unfold wrap64;omega
theorem wrap_succ {i n : Nat} (h : i < n) (hn : n ≤ 9223372036854775807) : wrap64 ((i : Int) + 1) = ((i + 1 : Nat) : Int):=by rw [wrap_eq (by omega) (by omega)];rfl
theorem rd_get (l : List Int) (i : Nat) (h : i < l.length) : rd l (i : Int) = l[i]:=by simp [rd,List.getD_eq_getElem?_getD,h]

-- LIB ppulse
theorem rdP_get (l : List S35) (i : Nat) (h : i < l.length) : rd_T35 l (i : Int) = l[i]:=by simp [rd_T35,List.getD_eq_getElem?_getD,h]
def pulseB (p : S35) : Bool:=(decide (0 ≤ p.f0) && decide (p.f0 ≤ 2000)) && (decide (1 ≤ p.f1) && decide (p.f1 ≤ 50))
def nondec : List S35 → Bool
  | x :: y :: t => decide (x.f0 ≤ y.f0) && nondec (y :: t)
  | _ => true
def pvB (l : List S35) : Bool:=(l.all pulseB && nondec l) && decide (l.length ≤ 60)
theorem withinP_is (n a b : Int) : impl_within.f n a b = some (decide (a ≤ n) && decide (n ≤ b)):=by
  unfold impl_within.f
  by_cases h : a ≤ n <;> simp [h]
theorem pulses_at (l : List S35) (hl : l.length ≤ 9223372036854775807) (d : Nat) : ∀ (k i : Nat),1 ≤ i → i + d = l.length → d < k → impl_PulsesValid.l0 k l l l.length (i : Int) = some ((l.drop i).all pulseB && nondec (l.drop (i - 1)) && decide (l.length ≤ 60)):=by
  induction d with
  | zero =>
    intro k i h1 h2 hk
    obtain ⟨k,rfl⟩ : ∃ m,k = m + 1:=⟨k - 1,by omega⟩
    simp only [impl_PulsesValid.l0]
    have e1 : l.drop i = []:=by rw [show i = l.length by omega,List.drop_length]
    have e2 : l.drop (i - 1 + 1) = []:=by rw [show i - 1 + 1 = l.length by omega,List.drop_length]
    have e3 : ((l.length : Int) ≤ 60) = (l.length ≤ 60):=by apply propext;omega
    rw [if_neg (by omega),e1,List.drop_eq_getElem_cons (show i - 1 < l.length by omega),e2]
    simp [nondec,e3]
  | succ d ih =>
    intro k i h1 h2 hk
    obtain ⟨k,rfl⟩ : ∃ m,k = m + 1:=⟨k - 1,by omega⟩
    have e1 : wrap64 ((i : Int) - 1) = ((i - 1 : Nat) : Int):=by unfold wrap64;omega
    have ih':=ih k (i + 1) (by omega) (by omega) (by omega)
    simp only [impl_PulsesValid.l0]
    rw [e1,wrap_succ (show i < l.length by omega) (by omega),if_pos (by omega),if_pos (by omega),if_pos (by omega),if_pos (show (i : Int) > 0 by omega),if_pos (by omega),if_pos (by omega),ih',withinP_is,withinP_is]
    rw [rdP_get l i (by omega),rdP_get l (i - 1) (by omega),List.drop_eq_getElem_cons (show i - 1 < l.length by omega),show i - 1 + 1 = i by omega,List.drop_eq_getElem_cons (show i < l.length by omega),nondec,show i + 1 - 1 = i by omega,List.drop_eq_getElem_cons (show i < l.length by omega)]
    simp only [Option.bind_some,List.all_cons]
    have hp : pulseB l[i] = ((decide (0 ≤ l[i].f0) && decide (l[i].f0 ≤ 2000)) && (decide (1 ≤ l[i].f1) && decide (l[i].f1 ≤ 50))):=rfl
    rw [hp]
    cases c1 : (decide (0 ≤ l[i].f0) && decide (l[i].f0 ≤ 2000)) with
    | false => rw [if_neg (by decide)];simp
    | true =>
      rw [if_pos rfl]
      cases c2 : (decide (1 ≤ l[i].f1) && decide (l[i].f1 ≤ 50)) with
      | false => rw [if_neg (by decide)];simp
      | true =>
        rw [if_pos rfl]
        by_cases c : l[i].f0 < l[i - 1].f0
        · rw [if_pos c,decide_eq_false (show ¬ l[i - 1].f0 ≤ l[i].f0 by omega)];simp
        · rw [if_neg c,decide_eq_true (show l[i - 1].f0 ≤ l[i].f0 by omega)];simp
theorem pulses_eq (l : List S35) (hl : l.length ≤ 9223372036854775807) (k : Nat) (hk : l.length < k) : impl_PulsesValid.f k l = some (pvB l):=by
  unfold impl_PulsesValid.f pvB
  obtain ⟨k,rfl⟩ : ∃ m,k = m + 1:=⟨k - 1,by omega⟩
  simp only [impl_PulsesValid.l0]
  match l,hl,hk with
  | [],_,_ => rfl
  | x :: t,hl,hk =>
    have h1:=pulses_at (x :: t) hl t.length k 1 (by omega) (by simp;omega) (by simp at hk;omega)
    have hx : rd_T35 (x :: t) 0 = x:=rfl
    rw [if_pos (by simp only [List.length_cons];omega),if_pos (by omega),if_pos (by simp only [List.length_cons];omega),withinP_is,withinP_is,hx]
    simp only [Option.bind_some,List.all_cons]
    have hp : pulseB x = ((decide (0 ≤ x.f0) && decide (x.f0 ≤ 2000)) && (decide (1 ≤ x.f1) && decide (x.f1 ≤ 50))):=rfl
    rw [hp]
    cases c1 : (decide (0 ≤ x.f0) && decide (x.f0 ≤ 2000)) with
    | false => rw [if_neg (by decide)];simp
    | true =>
      rw [if_pos rfl]
      cases c2 : (decide (1 ≤ x.f1) && decide (x.f1 ≤ 50)) with
      | false => rw [if_neg (by decide)];simp
      | true =>
        rw [if_pos rfl,if_neg (by decide),wrap_eq (by decide) (by decide)]
        refine Eq.trans h1 ?_
        simp only [List.drop_succ_cons,List.drop_zero,Nat.sub_self,Bool.true_and]
def fitsB (rate burst : Int) (l : List S35) : Bool:=pvB l && ((decide (1 ≤ rate) && decide (rate ≤ 20)) && (decide (1 ≤ burst) && decide (burst ≤ 100)))
theorem fitsB_facts {rate burst : Int} {l : List S35} (h : fitsB rate burst l = true) : pvB l = true ∧ l.length ≤ 60 ∧ 1 ≤ rate ∧ rate ≤ 20 ∧ 1 ≤ burst ∧ burst ≤ 100:=by
  unfold fitsB at h
  have hl : pvB l = true → l.length ≤ 60:=by unfold pvB;simp
  simp at h
  exact ⟨h.1,hl h.1,by omega⟩

-- LIB newbucket
/-- A new shaper at block g, of the call's own. -/
def NewB (r b : Int) (ok : Bool) (w : World) (e : Ending) (w' : World) : Prop:=∃ g,e = .returned (.tuple #[.pointer (some ⟨g,0,none⟩),.bool ok]) ∧ w'.heap[g]? = some (bk r b b 0) ∧ w.heap.size ≤ g ∧ Below w.heap.size w w'
set_option maxHeartbeats 4000000 in
set_option maxRecDepth 100000 in
theorem x_newBucket (r b : Int) (A0 : Option Addr) (c0 : Nat) (l0 : List S35) (w : World) (hr0 : Kd.C k35 w A0 l0.length l0) (hc0 : l0.length ≤ c0) :
    Calls Try.prog 43 #[.int .i64 r,.int .i64 b,.slice A0 l0.length c0] w (NewB r b (fitsB r b l0) w):=by
  have hu:=Try.underlying62
  have hlen:=Kd.C_max hr0
  have hb0 : Below w.heap.size w (w.alloc (bk r b b 0)):=(Below.refl _ w).alloc (Nat.le_refl _) _
  have hp:=impl_PulsesValid.calls (l0.length + 1) A0 c0 l0 (pvB l0) _ (Kd.C_below hr0 hb0) hc0 (pulses_eq l0 hlen _ (by omega))
  have hw1:=fun W => impl_within.calls r 1 20 _ W (withinP_is r 1 20)
  have hw2:=fun W => impl_within.calls b 1 100 _ W (withinP_is b 1 100)
  have HB0:=Aside0.mk hb0
  have HN : Aside0 ((w.alloc (bk r b b 0)).heap[w.heap.size]? = some (bk r b b 0)):=⟨blk_new w _⟩
  have HOK : Aside0 (fitsB r b l0 = (pvB l0 && ((decide (1 ≤ r) && decide (r ≤ 20)) && (decide (1 ≤ b) && decide (b ≤ 100))))):=⟨rfl⟩
  unfold bk at hp
  clear hr0 hc0 hb0
  generalize fitsB r b l0 = z at HOK ⊢
  generalize pvB l0 = z1 at HOK hp
  generalize (decide (1 ≤ r) && decide (r ≤ 20)) = z2 at HOK hw1
  generalize (decide (1 ≤ b) && decide (b ≤ 100)) = z3 at HOK hw2
  cases z1 with
  | false =>
    have HZ : Aside0 (z = false):=⟨by rw [HOK.out];rfl⟩
    clear HOK
    go_enter Try.func43,Try.ntmps43
    go_wp2_with fail
    refine hp.mono ?_
    rintro e w1 ⟨rfl,hb1⟩
    go_wp2_with fail
    go_ret2
    exact ⟨w.heap.size,by rw [HZ.out];rfl,blk_below HN.out hb1,Nat.le_refl _,below_step HB0.out hb1⟩
  | true =>
  cases z2 with
  | false =>
    have HZ : Aside0 (z = false):=⟨by rw [HOK.out];rfl⟩
    clear HOK
    go_enter Try.func43,Try.ntmps43
    go_wp2_with fail
    refine hp.mono ?_
    rintro e w1 ⟨rfl,hb1⟩
    go_wp2_with fail
    refine (hw1 _).mono ?_
    rintro e w2 ⟨rfl,hd2⟩
    go_wp2_with fail
    go_ret2
    have hb2:=below_step hb1 hd2.below
    exact ⟨w.heap.size,by rw [HZ.out];rfl,blk_below HN.out hb2,Nat.le_refl _,below_step HB0.out hb2⟩
  | true =>
    have HZ : Aside0 (z = z3):=⟨by rw [HOK.out];rfl⟩
    clear HOK
    go_enter Try.func43,Try.ntmps43
    go_wp2_with fail
    refine hp.mono ?_
    rintro e w1 ⟨rfl,hb1⟩
    go_wp2_with fail
    refine (hw1 _).mono ?_
    rintro e w2 ⟨rfl,hd2⟩
    go_wp2_with fail
    refine (hw2 _).mono ?_
    rintro e w3 ⟨rfl,hd3⟩
    go_wp2_with fail
    go_ret2
    have hb3:=below_step (below_step hb1 hd2.below) hd3.below
    exact ⟨w.heap.size,by rw [HZ.out];rfl,blk_below HN.out hb3,Nat.le_refl _,below_step HB0.out hb3⟩

-- LIB mappedtake
/-- Which frames are let through, from a state on. -/
def polL (r b : Int) : Int → Int → List S35 → List Bool
  | _,_,[] => []
  | T,a,p :: l => takeOk r b T a p.f0 p.f1 :: polL r b (takeT r b T a p.f0 p.f1) p.f0 l
theorem TurnsG.grown {w W w1 : World} {g : Nat} {row : Option Nat} (h : TurnsG w W g) (hg : W.grownBy w1 row) (hr : ∀ k,row = some k → w.heap.size ≤ k) : TurnsG w w1 g :=
  ⟨⟨Nat.le_trans h.1.1 hg.size,fun i hi hb hn => (hg.block i (Nat.lt_of_lt_of_le hi h.1.1) (fun e => by have:=hr i e.symm;omega)).trans (h.1.2 i hi hb hn)⟩,
   fun w0 h0 hb => pw_below_grown (h.2 w0 h0 hb) row (Nat.le_trans hb.size h.1.1) hg (fun k hk => Nat.le_trans hb.size (hr k hk))⟩
set_option maxHeartbeats 8000000 in
set_option maxRecDepth 100000 in
theorem x_mapped (g : Nat) (r b : Int) (A0 : Option Addr) (c0 : Nat) (l0 : List S35) (w0 w : World) (hl : l0.length ≤ 60) (h0 : w0.heap.size ≤ g) (hB : Below w0.heap.size w0 w) (hg : w.heap[g]? = some (bk r b b 0)) (hr0 : Kd.C k35 w0 A0 l0.length l0) :
    Calls Try.prog 50 #[.slice A0 l0.length c0,.func (.func 45) #[.pointer (some ⟨g,0,none⟩)] #[]] w fun e w' => ∃ v : Value,e = .returned v ∧ Kd.R Kd.bool 4 w' w0.heap.size (fun k => w.heap.size ≤ k) v (polL r b b 0 l0) ∧ Below w0.heap.size w0 w':=by
  have hu:=Try.underlying35
  have hgw:=blk_lt hg
  have HR:=Aside0.mk hr0
  have HB:=Aside0.mk hB
  have HG:=Aside0.mk hg
  have hsz:=hB.size
  clear hr0 hB hg
  go_enter Try.func50,Try.ntmps50
  go_wp2
  go_loopg [5,7,10] l0.length (fun gg s5 _ s10 wr => ∃ (kk : Nat) (v : Value) (bs : List Bool) (T a : Int),kk ≤ l0.length ∧ l0.length - kk ≤ gg ∧ v = s5 ∧ s10 = .int .i64 kk ∧ bs.length = kk ∧ Aside0 (bs ++ polL r b T a (l0.drop kk) = polL r b b 0 l0) ∧
    Aside0 (Kd.R Kd.bool 4 wr w0.heap.size (fun k => w.heap.size ≤ k) v bs) ∧ Aside0 (wr.heap[g]? = some (bk r b T a)) ∧ Aside0 (Below w0.heap.size w0 wr) ∧ w.heap.size ≤ wr.heap.size)
  case atStart => exact ⟨0,_,[],b,0,Nat.zero_le _,by omega,rfl,rfl,rfl,⟨rfl⟩,⟨Kd.R_nil _ _ _ _ _⟩,HG,HB,Nat.le_refl _⟩
  case round =>
    obtain ⟨kk,v,bs,T,a,hkk,hgg,rfl,rfl,hbl,HP,HO,HS,BW,hws⟩:=hrel
    by_cases hlt : kk < l0.length
    · obtain ⟨ad,e,hx0,hx1⟩:=at_T35 (Kd.C_below HR.out BW.out) (kk : Int) (by omega) (by omega)
      cases e
      rw [Int.toNat_natCast] at hx0 hx1
      have hcall:=fun W (hW : W.heap[g]? = some (bk r b T a)) => x_take g r b T a (rd_T35 l0 kk).f0 (rd_T35 l0 kk).f1 W hW
      have hcons : polL r b T a (l0.drop kk) = takeOk r b T a (rd_T35 l0 kk).f0 (rd_T35 l0 kk).f1 :: polL r b (takeT r b T a (rd_T35 l0 kk).f0 (rd_T35 l0 kk).f1) (rd_T35 l0 kk).f0 (l0.drop (kk + 1)):=by
        rw [List.drop_eq_getElem_cons hlt,rdP_get l0 kk hlt];rfl
      have HP' : Aside0 ((bs ++ [takeOk r b T a (rd_T35 l0 kk).f0 (rd_T35 l0 kk).f1]) ++ polL r b (takeT r b T a (rd_T35 l0 kk).f0 (rd_T35 l0 kk).f1) (rd_T35 l0 kk).f0 (l0.drop (kk + 1)) = polL r b b 0 l0):=⟨by rw [← HP.out,hcons,List.append_assoc];rfl⟩
      clear hcons
      generalize (rd_T35 l0 kk).f0 = pa at hx0 hcall HP'
      generalize (rd_T35 l0 kk).f1 = ps at hx1 hcall HP'
      generalize takeOk r b T a pa ps = tk at hcall HP'
      generalize takeT r b T a pa ps = tt at hcall HP'
      go_wp2_with fail
      refine (hcall _ (by exact blk_alloc HS.out _)).mono ?_
      rintro e w1 ⟨rfl,hg1,ht1⟩
      have ht2:=(TurnsG.below (below_alloc (Below.refl _ wr) (.cells #[.int .i64 pa,.int .i64 ps] 35)) g).trans ht1
      have HO1:=Aside0.mk (Kd.R_keep HO.out ht2.1 (fun k hk => by omega))
      have BW1:=Aside0.mk (ht2.2 w0 h0 BW.out)
      have hws1:=ht2.1.1
      have HG1:=Aside0.mk hg1
      clear ht1 ht2 hg1 HO BW HS HP hcall
      have hl1 : bs.length + 1 ≤ 60:=by omega
      go_wp2_with (first | ((with_reducible refine gate_builtin (b:=.append) (xs:=#[.tmp 14,.tmp 18]) rfl ?_);at_builtin;refine Kd.R_append Kd.bool (w0:=w0) w0.heap.size rfl (.tmp 14) (.tmp 18) 32 4 (.bool false) 1 rfl Try.underlying32 (by kernel_rfl) rfl (by decide) (by omega) v bs tk [.bool tk] (fun k => w.heap.size ≤ k) (fun _ => False) rfl rfl ?aP (fun _ hk => hk.elim) ?aF ?aO ?aB ?aS ?aL ?_;(case aP => exact rfl);(case aB => exact BW1.out);(case aF => exact (fun k hk => by omega));(case aO => exact HO1.out);(case aS => exact BW1.out.size);(case aL => omega);intro v2 w2 ho2 hb2 hgr2 _;have HO2:=Aside0.mk ho2;have BW2:=Aside0.mk hb2;have HG2:=Aside0.mk (blk_grown HG1.out hgr2 (fun e => by have:=HO1.out.1 g e.symm;omega));have hws2:=hgr2.size;clear ho2 hb2 hgr2))
      go_roundg (l0.length - (kk + 1))
      case measure => omega
      case rel => exact ⟨kk + 1,v2,bs ++ [tk],tt,pa,by omega,by omega,rfl,by go_num,by simp [hbl],HP',HO2,HG2,BW2,by omega⟩
    · have e : kk = l0.length:=by omega
      subst e
      go_wp2
      go_ret
      refine ⟨v,rfl,?_,BW.out⟩
      rw [← HP.out,List.drop_length]
      simpa [polL] using HO.out

/-! ### impl_PolicePulses: function 20 (by hand) -/
def polF (r b : Int) (l : List S35) : List Bool:=if fitsB r b l = true then polL r b b 0 l else []
def impl_PolicePulses.f (a0 : Int) (a1 : Int) (l2 : List (S35)) : Option (List Bool) :=
 some (polF a0 a1 l2)
set_option maxHeartbeats 4000000 in
set_option maxRecDepth 100000 in
theorem impl_PolicePulses.calls (a0 : Int) (a1 : Int) (A2 : Option Addr) (c2 : Nat) (l2 : List (S35)) (r : List Bool) (w : World) (hr2 : Kd.C k35 w A2 l2.length l2) (hc2 : l2.length ≤ c2) (h : impl_PolicePulses.f a0 a1 l2 = some r) :
  Calls Try.prog 20 #[.int .i64 a0,.int .i64 a1,.slice A2 l2.length c2] w fun e w' => ∃ v0_ : Value,e = .returned (v0_) ∧ Kd.R Kd.bool 4 w' w.heap.size (fun _ => True) v0_ r ∧ Below w.heap.size w w':=by
 obtain rfl:=Option.some.inj h
 have hmf : ∀ (fn : Fn) (first cap : Array Value) (w : World),(Instr.makeFunc fn first cap).run Try.prog w = .ok (.func fn first cap) w:=fun _ _ _ _ => rfl
 have hnb:=x_newBucket a0 a1 A2 c2 l2 w hr2 hc2
 have HR:=mk_ hr2
 have HF : Aside0 (polF a0 a1 l2 = if fitsB a0 a1 l2 = true then polL a0 a1 a1 0 l2 else []):=⟨rfl⟩
 have HL : Aside0 (fitsB a0 a1 l2 = true → l2.length ≤ 60):=⟨fun h => (fitsB_facts h).2.1⟩
 clear h hr2 hc2
 generalize polF a0 a1 l2 = z at HF ⊢
 generalize fitsB a0 a1 l2 = f at HF HL hnb
 cases f with
 | false =>
  have HZ : Aside0 (z = []):=⟨by rw [HF.out];rfl⟩
  go_enter Try.func20,Try.ntmps20
  go_wp2_with fail
  refine hnb.mono ?_
  rintro e w1 ⟨g,rfl,hg1,hge,hb1⟩
  clear hg1
  go_wp2
  go_ret
  exact ⟨.slice none 0 0,rfl,by rw [HZ.out];exact Kd.R_nil _ _ _ _ _,hb1⟩
 | true =>
  have HZ : Aside0 (z = polL a0 a1 a1 0 l2):=⟨by rw [HF.out];rfl⟩
  have hl:=HL.out rfl
  go_enter Try.func20,Try.ntmps20
  go_wp2_with fail
  refine hnb.mono ?_
  rintro e w1 ⟨g,rfl,hg1,hge,hb1⟩
  have hm:=x_mapped g a0 a1 A2 c2 l2 w w1 hl hge hb1 hg1 HR.out
  clear hg1 hb1
  go_wp2_with fail
  refine hm.mono ?_
  rintro e w2 ⟨v,rfl,hR,hb2⟩
  have HX:=mk_ (And.intro hR hb2)
  clear hR hb2 hm hnb
  go_wp2_with fail
  go_ret
  exact ⟨v,rfl,by rw [HZ.out];exact rm_ HX.out.1 (fun _ _ => trivial),HX.out.2⟩

/-! ### slices_Index_bool_bool: function 54 -/
def slices_Index_bool_bool.l0 : Nat → List Bool → Bool → Int → Int → Option (Int)
 | 0,_,_,_,_ => none
 | k + 1,x0,x1,x7,x8 => if x8 < x7 then (if 0 ≤ x8 then (if x8 < (x0.length : Int) then (if (x1 == (rdOf false x0 x8)) = true then (some x8) else (slices_Index_bool_bool.l0 k x0 x1 x7 (wrap64 (x8 + 1)))) else (none)) else (none)) else (some (-1))
def slices_Index_bool_bool.f (k : Nat) (l0 : List Bool) (a1 : Bool) : Option (Int):=slices_Index_bool_bool.l0 k l0 a1 (l0.length : Int) 0
theorem slices_Index_bool_bool.mono_l : ∀ k,(∀ y0 y1 y2 y3,LeO (slices_Index_bool_bool.l0 k y0 y1 y2 y3) (slices_Index_bool_bool.l0 (k + 1) y0 y1 y2 y3))
 | 0 => fun _ _ _ _ r h => by simp [slices_Index_bool_bool.l0] at h
 | k + 1 => by
  have ih0:=slices_Index_bool_bool.mono_l k
  ·intro y0 y1 y2 y3
   unfold slices_Index_bool_bool.l0
   repeat' first
   | (with_reducible exact ih0 _ _ _ _)
   | (with_reducible exact LeO.refl _)
   | (with_reducible exact LeO.none _)
   | (with_reducible refine LeO.ite ?_ ?_)
   | (with_reducible refine LeO.bind ?_ (fun _ => ?_))
   | exact ih0 _ _ _ _
   | exact LeO.none _
   | refine LeO.ite ?_ ?_
   | refine LeO.bind ?_ (fun _ => ?_)
theorem slices_Index_bool_bool.mono : ∀ a0 a1 k,LeO (slices_Index_bool_bool.f k a0 a1) (slices_Index_bool_bool.f (k + 1) a0 a1):=by
 intro a0 a1 k
 have ih0:=slices_Index_bool_bool.mono_l k
 unfold slices_Index_bool_bool.f
 repeat' first
   | (with_reducible exact ih0 _ _ _ _)
   | (with_reducible exact LeO.refl _)
   | (with_reducible exact LeO.none _)
   | (with_reducible refine LeO.ite ?_ ?_)
   | (with_reducible refine LeO.bind ?_ (fun _ => ?_))
   | exact ih0 _ _ _ _
   | exact LeO.none _
   | refine LeO.ite ?_ ?_
   | refine LeO.bind ?_ (fun _ => ?_)
set_option maxHeartbeats 8000000 in
set_option maxRecDepth 100000 in
theorem slices_Index_bool_bool.calls (k : Nat) (A0 : Option Addr) (c0 : Nat) (l0 : List Bool) (a1 : Bool) (r : Int) (w : World) (hr0 : Kd.C Kd.bool w A0 l0.length l0) (hc0 : l0.length ≤ c0) (h : slices_Index_bool_bool.f k l0 a1 = some r) :
  Calls Try.prog 54 #[.slice A0 l0.length c0,.bool a1] w fun e w' => e = .returned (.int .i64 r) ∧ Drawn0 w w':=by
 have HR0:=mk_ hr0
 have HC0:=mk_ hc0
 clear hr0 hc0
 have H : (slices_Index_bool_bool.l0 k l0 a1 (l0.length : Int) 0) = some r:=h
 clear h
 have H':=mk_ H
 clear H
 go_enter Try.func54,Try.ntmps54
 go_wp2
 go_loopg [8] k (fun kq v8 w' => ∃ (x8_1 : Int),v8 = .int .i64 x8_1 ∧ Aside0 (slices_Index_bool_bool.l0 kq l0 a1 (l0.length : Int) x8_1 = some r) ∧ Aside0 (kq ≤ k) ∧ Drawn0 w w')
 case atStart => exact ⟨(0),qf_,H',⟨Nat.le_refl _⟩,by repeat (first|exact Drawn0.refl _|apply Drawn0.step)⟩
 case round =>
  clear H'
  try clear p2
  obtain ⟨x8_1,rfl,HA,HK1,⟨m1,rfl⟩⟩:=hrel
  cases gk with
  | zero => exact absurd HA.out (by simp [slices_Index_bool_bool.l0])
  | succ k1 =>
   have H:=HA.out
   clear HA
   simp only [slices_Index_bool_bool.l0] at H
   by_cases c3 : x8_1 < (l0.length : Int)
   ·rw [if_pos c3] at H
    have c3b0 : decide (x8_1 < (l0.length : Int)) = true:=decide_eq_true c3
    clear c3
    by_cases c4 : 0 ≤ x8_1
    ·rw [if_pos c4] at H
     have c4b0 : decide (0 ≤ x8_1) = true:=decide_eq_true c4
     clear c4
     by_cases c5 : x8_1 < (l0.length : Int)
     ·rw [if_pos c5] at H
      have c5b0 : decide (x8_1 < (l0.length : Int)) = true:=decide_eq_true c5
      clear c5
      by_cases c6 : (a1 == (rdOf false l0 x8_1)) = true
      ·rw [if_pos c6] at H
       have c6b0 : (a1 == (rdOf false l0 x8_1)) = true:=c6
       (try (have c6b1 : decide (a1 = (rdOf false l0 x8_1)) = true:=by simpa using c6))
       (try (have c6b2 : (a1 == (rdOf false l0 x8_1)) = true:=by simpa using c6))
       clear c6
       obtain rfl:=Option.some.inj H
       have p106 : 0 ≤ (x8_1 : Int):=od_ qa_
       have q106 : x8_1 < (l0.length : Int):=od_ qa_
       obtain ⟨ad106,e106,hx106_0⟩:=Kd.at_bool HR0.out x8_1 p106 q106
       cases e106
       replace p106:=eq_true p106
       replace q106:=eq_true q106
       go_wp2
       go_ret
       exact ⟨by first|rfl|(simp;done)|(simp [*];done),by repeat (first|exact Drawn0.refl _|apply Drawn0.step)⟩
      ·rw [if_neg c6] at H
       have c6b0 : (a1 == (rdOf false l0 x8_1)) = false:=by simpa using c6
       (try (have c6b1 : decide (a1 = (rdOf false l0 x8_1)) = false:=by simpa using c6))
       (try (have c6b2 : (a1 == (rdOf false l0 x8_1)) = false:=by simpa using c6))
       (try (have c6b3 : ¬ (a1 = (rdOf false l0 x8_1)):=by simpa using c6))
       clear c6
       have H':=mk_ H
       clear H
       have p106 : 0 ≤ (x8_1 : Int):=od_ qa_
       have q106 : x8_1 < (l0.length : Int):=od_ qa_
       obtain ⟨ad106,e106,hx106_0⟩:=Kd.at_bool HR0.out x8_1 p106 q106
       cases e106
       replace p106:=eq_true p106
       replace q106:=eq_true q106
       go_wp2
       go_roundg k1
       case measure => have:=HK1.out;omega
       case rel => exact ⟨(wrap64 (x8_1 + 1)),qf_,H',⟨by have:=HK1.out;omega⟩,by repeat (first|exact Drawn0.refl _|apply Drawn0.step)⟩
     ·rw [if_neg c5] at H
      exact absurd H (by simp)
    ·rw [if_neg c4] at H
     exact absurd H (by simp)
   ·rw [if_neg c3] at H
    have c3b0 : decide (x8_1 < (l0.length : Int)) = false:=decide_eq_false c3
    clear c3
    obtain rfl:=Option.some.inj H
    go_wp2
    go_ret
    exact ⟨by first|rfl|(simp;done)|(simp [*];done),by repeat (first|exact Drawn0.refl _|apply Drawn0.step)⟩

/-! ### slices_Contains_bool_bool: function 51 -/
def slices_Contains_bool_bool.f (k : Nat) (l0 : List Bool) (a1 : Bool) : Option (Bool):=(slices_Index_bool_bool.f k l0 a1).bind fun t107 => (some (decide (t107 ≥ 0)))
theorem slices_Contains_bool_bool.mono : ∀ a0 a1 k,LeO (slices_Contains_bool_bool.f k a0 a1) (slices_Contains_bool_bool.f (k + 1) a0 a1):=by
 intro a0 a1 k
 unfold slices_Contains_bool_bool.f
 repeat' first
   | (with_reducible exact slices_Index_bool_bool.mono _ _ _)
   | (with_reducible exact LeO.refl _)
   | (with_reducible exact LeO.none _)
   | (with_reducible refine LeO.ite ?_ ?_)
   | (with_reducible refine LeO.bind ?_ (fun _ => ?_))
   | exact slices_Index_bool_bool.mono _ _ _
   | exact LeO.none _
   | refine LeO.ite ?_ ?_
   | refine LeO.bind ?_ (fun _ => ?_)
set_option maxHeartbeats 8000000 in
set_option maxRecDepth 100000 in
theorem slices_Contains_bool_bool.calls (k : Nat) (A0 : Option Addr) (c0 : Nat) (l0 : List Bool) (a1 : Bool) (r : Bool) (w : World) (hr0 : Kd.C Kd.bool w A0 l0.length l0) (hc0 : l0.length ≤ c0) (h : slices_Contains_bool_bool.f k l0 a1 = some r) :
  Calls Try.prog 51 #[.slice A0 l0.length c0,.bool a1] w fun e w' => e = .returned (.bool r) ∧ Drawn0 w w':=by
 have HR0:=mk_ hr0
 have HC0:=mk_ hc0
 clear hr0 hc0
 have H : ((slices_Index_bool_bool.f k l0 a1).bind fun t107 => (some (decide (t107 ≥ 0)))) = some r:=h
 clear h
 replace H:=Option.bind_eq_some_iff.mp H
 obtain ⟨t107,A30,H⟩:=H
 replace H : (some (decide (t107 ≥ 0))) = some r:=H
 have A3:=mk_ A30
 clear A30
 obtain rfl:=Option.some.inj H
 go_enter Try.func51,Try.ntmps51
 go_wp2_with (first|((with_reducible refine gate_callee (f:=54) rfl ?_);refine goesL_ (some 7) rfl rfl Try.func54 (by kernel_rfl) rfl #[.slice A0 l0.length c0,.bool a1] rfl qm_ ?_;(with_reducible refine (slices_Index_bool_bool.calls k _ _ l0 a1 t107 _ ?side1 ?side2 A3.out).mono ?_);(case side1 => repeat (first|exact HR0.out|(with_reducible refine ca_ ?_ _)|(with_reducible refine cn_ ?_ _)|(with_reducible refine cd_ ?_)));(case side2 => exact HC0.out);rintro e w' ⟨rfl,⟨nd,rfl⟩⟩;refine ⟨_,rfl,?_⟩))
 go_ret
 exact ⟨by first|rfl|(simp;done)|(simp [*];done),by repeat (first|exact Drawn0.refl _|apply Drawn0.step)⟩

/-! ### impl_Conforms: function 22 (by hand) -/
theorem indexB_at (l : List Bool) (hl : l.length ≤ 9223372036854775807) (d : Nat) : ∀ (k i : Nat),i + d = l.length → d < k → ∃ r,slices_Index_bool_bool.l0 k l false l.length (i : Int) = some r ∧ (decide (r ≥ 0) = !(l.drop i).all id):=by
 induction d with
 | zero =>
  intro k i h2 hk
  obtain ⟨k,rfl⟩ : ∃ m,k = m + 1:=⟨k - 1,by omega⟩
  have e1 : l.drop i = []:=by rw [show i = l.length by omega,List.drop_length]
  refine ⟨-1,?_,?_⟩
  ·simp only [slices_Index_bool_bool.l0]
   rw [if_neg (by omega)]
  ·rw [e1];rfl
 | succ d ih =>
  intro k i h2 hk
  obtain ⟨k,rfl⟩ : ∃ m,k = m + 1:=⟨k - 1,by omega⟩
  have r1 : rdOf false l (i : Int) = l[i]:=by simp [rdOf,List.getD_eq_getElem?_getD,show i < l.length by omega]
  rw [List.drop_eq_getElem_cons (show i < l.length by omega),List.all_cons]
  simp only [slices_Index_bool_bool.l0]
  rw [if_pos (by omega),if_pos (by omega),if_pos (by omega),r1,wrap_succ (show i < l.length by omega) (by omega)]
  cases hc : l[i] with
  | false =>
   rw [if_pos (by decide)]
   exact ⟨(i : Int),rfl,by simp⟩
  | true =>
   rw [if_neg (by decide)]
   obtain ⟨r,hr,h⟩:=ih k (i + 1) (by omega) (by omega)
   exact ⟨r,hr,h⟩
theorem containsB_eq (l : List Bool) (hl : l.length ≤ 9223372036854775807) : slices_Contains_bool_bool.f (l.length + 1) l false = some (!l.all id):=by
 obtain ⟨r,hr,h⟩:=indexB_at l hl l.length (l.length + 1) 0 (by omega) (by omega)
 unfold slices_Contains_bool_bool.f slices_Index_bool_bool.f
 have hr' : slices_Index_bool_bool.l0 (l.length + 1) l false l.length 0 = some r:=hr
 rw [hr']
 simp only [Option.bind_some]
 rw [h,List.drop_zero]
def confF (r b : Int) (l : List S35) : Bool:=fitsB r b l && (polF r b l).all id
def impl_Conforms.f (a0 : Int) (a1 : Int) (l2 : List (S35)) : Option (Bool) :=
 some (confF a0 a1 l2)
set_option maxHeartbeats 4000000 in
set_option maxRecDepth 100000 in
theorem impl_Conforms.calls (a0 : Int) (a1 : Int) (A2 : Option Addr) (c2 : Nat) (l2 : List (S35)) (r : Bool) (w : World) (hr2 : Kd.C k35 w A2 l2.length l2) (hc2 : l2.length ≤ c2) (h : impl_Conforms.f a0 a1 l2 = some r) :
  Calls Try.prog 22 #[.int .i64 a0,.int .i64 a1,.slice A2 l2.length c2] w fun e w' => e = .returned (.bool r) ∧ Below w.heap.size w w':=by
 obtain rfl:=Option.some.inj h
 have hnb:=x_newBucket a0 a1 A2 c2 l2 w hr2 hc2
 have HP:=mk_ (fun (W : World) (hW : Below w.heap.size w W) => impl_PolicePulses.calls a0 a1 A2 c2 l2 _ W (cb_ hr2 hW) hc2 rfl)
 have HF : Aside0 (confF a0 a1 l2 = (fitsB a0 a1 l2 && (polF a0 a1 l2).all id)):=⟨rfl⟩
 clear h hr2 hc2
 generalize confF a0 a1 l2 = z at HF ⊢
 generalize polF a0 a1 l2 = ps at HF HP
 generalize fitsB a0 a1 l2 = f at HF hnb
 cases f with
 | false =>
  have HZ : Aside0 (z = false):=⟨by rw [HF.out];rfl⟩
  go_enter Try.func22,Try.ntmps22
  go_wp2_with fail
  refine hnb.mono ?_
  rintro e w1 ⟨g,rfl,hg1,hge,hb1⟩
  clear hg1
  go_wp2
  go_ret
  exact ⟨by rw [HZ.out];rfl,hb1⟩
 | true =>
  have HZ : Aside0 (z = ps.all id):=⟨by rw [HF.out];rfl⟩
  go_enter Try.func22,Try.ntmps22
  go_wp2_with fail
  refine hnb.mono ?_
  rintro e w1 ⟨g,rfl,hg1,hge,hb1⟩
  have hp:=HP.out w1 hb1
  clear hg1
  go_wp2_with fail
  refine hp.mono ?_
  rintro e w2 ⟨v,rfl,hR,hb2⟩
  obtain ⟨A,c,rfl,hc,hC⟩:=Kd.R_reads hR
  have hct:=slices_Contains_bool_bool.calls (ps.length + 1) A c ps false _ w2 hC hc (containsB_eq ps (Kd.C_max hC))
  generalize ps.all id = y at HZ hct
  have HX:=mk_ (st_ hb1 hb2)
  clear hR hb2 hC hp hnb
  go_wp2_with fail
  refine hct.mono ?_
  rintro e w3 ⟨rfl,hd3⟩
  go_wp2_with fail
  go_ret
  exact ⟨by rw [HZ.out];cases y <;> rfl,st_ HX.out hd3.below⟩

/-! ### spec_l1In: function 41 -/
def spec_l1In.f (a0 : Int) (a1 : Int) (a2 : Int) : Option (Bool):=if a0 ≥ a1 then (some (decide (a0 ≤ a2))) else (some false)
set_option maxHeartbeats 8000000 in
set_option maxRecDepth 100000 in
theorem spec_l1In.calls (a0 : Int) (a1 : Int) (a2 : Int) (r : Bool) (w : World) (h : spec_l1In.f a0 a1 a2 = some r) :
  Calls Try.prog 41 #[.int .i64 a0,.int .i64 a1,.int .i64 a2] w fun e w' => e = .returned (.bool r) ∧ Drawn0 w w':=by
 have H : (if a0 ≥ a1 then (some (decide (a0 ≤ a2))) else (some false)) = some r:=h
 clear h
 by_cases c4 : a0 ≥ a1
 ·rw [if_pos c4] at H
  have c4b0 : decide (a1 ≤ a0) = true:=decide_eq_true c4
  clear c4
  obtain rfl:=Option.some.inj H
  go_enter Try.func41,Try.ntmps41
  go_wp2
  go_ret
  exact ⟨by first|rfl|(simp;done)|(simp [*];done),by repeat (first|exact Drawn0.refl _|apply Drawn0.step)⟩
 ·rw [if_neg c4] at H
  have c4b0 : decide (a1 ≤ a0) = false:=decide_eq_false c4
  clear c4
  obtain rfl:=Option.some.inj H
  go_enter Try.func41,Try.ntmps41
  go_wp2
  go_ret
  exact ⟨by first|rfl|(simp;done)|(simp [*];done),by repeat (first|exact Drawn0.refl _|apply Drawn0.step)⟩

/-! ### spec_PulsesValid: function 34 -/
def spec_PulsesValid.l0 : Nat → List (S35) → Int → Option (Bool)
 | 0,_,_ => none
 | k + 1,x0,x3 => if x3 < (x0.length : Int) then (if 0 ≤ x3 then ((spec_l1In.f ((rd_T35 x0 x3).f0) 0 2000).bind fun t110 => (if t110 = true then ((spec_l1In.f ((rd_T35 x0 x3).f1) 1 50).bind fun t111 => (if t111 = true then (if x3 > 0 then (if 0 ≤ (wrap64 (x3 - 1)) then (if (wrap64 (x3 - 1)) < (x0.length : Int) then (if ((rd_T35 x0 (wrap64 (x3 - 1))).f0) > ((rd_T35 x0 x3).f0) then (some false) else (spec_PulsesValid.l0 k x0 (wrap64 (x3 + 1)))) else (none)) else (none)) else (spec_PulsesValid.l0 k x0 (wrap64 (x3 + 1)))) else (some false))) else (some false))) else (none)) else (some (decide ((x0.length : Int) ≤ 60)))
def spec_PulsesValid.f (k : Nat) (l0 : List (S35)) : Option (Bool):=spec_PulsesValid.l0 k l0 0
theorem spec_PulsesValid.mono_l : ∀ k,(∀ y0 y1,LeO (spec_PulsesValid.l0 k y0 y1) (spec_PulsesValid.l0 (k + 1) y0 y1))
 | 0 => fun _ _ r h => by simp [spec_PulsesValid.l0] at h
 | k + 1 => by
  have ih0:=spec_PulsesValid.mono_l k
  ·intro y0 y1
   unfold spec_PulsesValid.l0
   repeat' first
   | (with_reducible exact ih0 _ _)
   | (with_reducible exact LeO.refl _)
   | (with_reducible exact LeO.none _)
   | (with_reducible refine LeO.ite ?_ ?_)
   | (with_reducible refine LeO.bind ?_ (fun _ => ?_))
   | exact ih0 _ _
   | exact LeO.none _
   | refine LeO.ite ?_ ?_
   | refine LeO.bind ?_ (fun _ => ?_)
theorem spec_PulsesValid.mono : ∀ a0 k,LeO (spec_PulsesValid.f k a0) (spec_PulsesValid.f (k + 1) a0):=by
 intro a0 k
 have ih0:=spec_PulsesValid.mono_l k
 unfold spec_PulsesValid.f
 repeat' first
   | (with_reducible exact ih0 _ _)
   | (with_reducible exact LeO.refl _)
   | (with_reducible exact LeO.none _)
   | (with_reducible refine LeO.ite ?_ ?_)
   | (with_reducible refine LeO.bind ?_ (fun _ => ?_))
   | exact ih0 _ _
   | exact LeO.none _
   | refine LeO.ite ?_ ?_
   | refine LeO.bind ?_ (fun _ => ?_)
set_option maxHeartbeats 8000000 in
set_option maxRecDepth 100000 in
theorem spec_PulsesValid.calls (k : Nat) (A0 : Option Addr) (c0 : Nat) (l0 : List (S35)) (r : Bool) (w : World) (hr0 : Kd.C k35 w A0 l0.length l0) (hc0 : l0.length ≤ c0) (h : spec_PulsesValid.f k l0 = some r) :
  Calls Try.prog 34 #[.slice A0 l0.length c0] w fun e w' => e = .returned (.bool r) ∧ Below w.heap.size w w':=by
 have hu35:=Try.underlying35
 have HR0:=mk_ hr0
 have HC0:=mk_ hc0
 clear hr0 hc0
 have HB:=mk_ (Below.refl w.heap.size w)
 have H : (spec_PulsesValid.l0 k l0 0) = some r:=h
 clear h
 have H':=mk_ H
 clear H
 go_enter Try.func34,Try.ntmps34
 go_wp2
 repeat (go_quiet (fail);try go_wp2)
 go_loopg [3] k (fun kq v3 w' => ∃ (x3_1 : Int),v3 = .int .i64 x3_1 ∧ Aside0 (spec_PulsesValid.l0 kq l0 x3_1 = some r) ∧ Aside0 (kq ≤ k) ∧ Aside0 (Below w.heap.size w w'))
 case atStart => exact ⟨(0),qf_,H',⟨Nat.le_refl _⟩,⟨u0_ HB⟩⟩
 case round =>
  clear H'
  obtain ⟨x3_1,rfl,HA,HK1,HB⟩:=hrel
  cases gk with
  | zero => exact absurd HA.out (by simp [spec_PulsesValid.l0])
  | succ k1 =>
   have H:=HA.out
   clear HA
   simp only [spec_PulsesValid.l0] at H
   by_cases c2 : x3_1 < (l0.length : Int)
   ·rw [if_pos c2] at H
    have c2b0 : decide (x3_1 < (l0.length : Int)) = true:=decide_eq_true c2
    clear c2
    by_cases c3 : 0 ≤ x3_1
    ·rw [if_pos c3] at H
     have c3b0 : decide (0 ≤ x3_1) = true:=decide_eq_true c3
     clear c3
     replace H:=Option.bind_eq_some_iff.mp H
     obtain ⟨t110,A40,H⟩:=H
     replace H : (if t110 = true then ((spec_l1In.f ((rd_T35 l0 x3_1).f1) 1 50).bind fun t111 => (if t111 = true then (if x3_1 > 0 then (if 0 ≤ (wrap64 (x3_1 - 1)) then (if (wrap64 (x3_1 - 1)) < (l0.length : Int) then (if ((rd_T35 l0 (wrap64 (x3_1 - 1))).f0) > ((rd_T35 l0 x3_1).f0) then (some false) else (spec_PulsesValid.l0 k1 l0 (wrap64 (x3_1 + 1)))) else (none)) else (none)) else (spec_PulsesValid.l0 k1 l0 (wrap64 (x3_1 + 1)))) else (some false))) else (some false)) = some r:=H
     have A4:=mk_ A40
     clear A40
     by_cases c5 : t110 = true
     ·subst c5
      have H1 : ((spec_l1In.f ((rd_T35 l0 x3_1).f1) 1 50).bind fun t111 => (if t111 = true then (if x3_1 > 0 then (if 0 ≤ (wrap64 (x3_1 - 1)) then (if (wrap64 (x3_1 - 1)) < (l0.length : Int) then (if ((rd_T35 l0 (wrap64 (x3_1 - 1))).f0) > ((rd_T35 l0 x3_1).f0) then (some false) else (spec_PulsesValid.l0 k1 l0 (wrap64 (x3_1 + 1)))) else (none)) else (none)) else (spec_PulsesValid.l0 k1 l0 (wrap64 (x3_1 + 1)))) else (some false))) = some r:=by rw [if_pos rfl] at H;exact H
      clear H
      have H:=H1
      clear H1
      replace H:=Option.bind_eq_some_iff.mp H
      obtain ⟨t111,A60,H⟩:=H
      replace H : (if t111 = true then (if x3_1 > 0 then (if 0 ≤ (wrap64 (x3_1 - 1)) then (if (wrap64 (x3_1 - 1)) < (l0.length : Int) then (if ((rd_T35 l0 (wrap64 (x3_1 - 1))).f0) > ((rd_T35 l0 x3_1).f0) then (some false) else (spec_PulsesValid.l0 k1 l0 (wrap64 (x3_1 + 1)))) else (none)) else (none)) else (spec_PulsesValid.l0 k1 l0 (wrap64 (x3_1 + 1)))) else (some false)) = some r:=H
      have A6:=mk_ A60
      clear A60
      by_cases c7 : t111 = true
      ·subst c7
       have H1 : (if x3_1 > 0 then (if 0 ≤ (wrap64 (x3_1 - 1)) then (if (wrap64 (x3_1 - 1)) < (l0.length : Int) then (if ((rd_T35 l0 (wrap64 (x3_1 - 1))).f0) > ((rd_T35 l0 x3_1).f0) then (some false) else (spec_PulsesValid.l0 k1 l0 (wrap64 (x3_1 + 1)))) else (none)) else (none)) else (spec_PulsesValid.l0 k1 l0 (wrap64 (x3_1 + 1)))) = some r:=by rw [if_pos rfl] at H;exact H
       clear H
       have H:=H1
       clear H1
       by_cases c8 : x3_1 > 0
       ·rw [if_pos c8] at H
        have c8b0 : decide (0 < x3_1) = true:=decide_eq_true c8
        clear c8
        obtain ⟨ji9,hji9⟩ : ∃ j_ : Int,(wrap64 (x3_1 - 1)) = j_:=⟨_,rfl⟩
        replace H : (if 0 ≤ (ji9) then (if (ji9) < (l0.length : Int) then (if ((rd_T35 l0 (ji9)).f0) > ((rd_T35 l0 x3_1).f0) then (some false) else (spec_PulsesValid.l0 k1 l0 (wrap64 (x3_1 + 1)))) else (none)) else (none)) = some r:=by first|(rw [hji9] at H;exact H)|(simp only [hji9] at H ⊢;exact H)
        (try rw [hji9] at A4)
        (try rw [hji9] at A6)
        have hji9w : (IntKind.i64.wrap (x3_1 - 1)) = ji9:=(i64_w _).trans hji9
        by_cases c10 : 0 ≤ (ji9)
        ·rw [if_pos c10] at H
         have c10b0 : decide (0 ≤ (ji9)) = true:=decide_eq_true c10
         clear c10
         by_cases c11 : (ji9) < (l0.length : Int)
         ·rw [if_pos c11] at H
          have c11b0 : decide ((ji9) < (l0.length : Int)) = true:=decide_eq_true c11
          clear c11
          by_cases c12 : ((rd_T35 l0 (ji9)).f0) > ((rd_T35 l0 x3_1).f0)
          ·rw [if_pos c12] at H
           have c12b0 : decide (((rd_T35 l0 x3_1).f0) < ((rd_T35 l0 (ji9)).f0)) = true:=decide_eq_true c12
           clear c12
           obtain rfl:=Option.some.inj H
           have p108 : 0 ≤ (x3_1 : Int):=od_ qa_
           have q108 : x3_1 < (l0.length : Int):=od_ qa_
           obtain ⟨ad108,e108,hx108_0,hx108_1⟩:=at_T35 HR0.out x3_1 p108 q108
           cases e108
           replace hx108_0:=(HB.out.cell (wl_ w _ hx108_0)).trans hx108_0
           replace hx108_1:=(HB.out.cell (wl_ w _ hx108_1)).trans hx108_1
           replace p108:=eq_true p108
           replace q108:=eq_true q108
           go_wp2_with (first|((with_reducible refine gate_dst (N:=4) rfl ?_);refine box_event ?hg (N:=4) ?hd (cs:=#[.int .i64 0,.int .i64 0]) (t:=35) ?hr ?_;(case hd => rfl);(case hg => rfl);(case hr => first|(go_simp;done)|(go_simp;rfl));intro gb109 hg w13 hbox hb;have n0_:=mk_ (st_ (qb_ HB) hb);have n1_:=mk_ (hbox);have n2_:=mk_ ((by rw [hg];exact (bz_ (qb_ HB)) : w.heap.size ≤ gb109));have n3_:=mk_ ((by rw [hg];exact (bz_ (qb_ HB)) : w.heap.size ≤ gb109));clear HB;have HB:=n0_;have BK109:=n1_;have GW109:=n2_;have GE109:=n3_;clear n0_ n1_ n2_ n3_ hb hbox hg;have hcz14_0 : w13.cell? ⟨gb109,0,none⟩ = some (.int .i64 0):=(bc_ BK109.out 0).trans rfl;have hcz14_1 : w13.cell? ⟨gb109,1,none⟩ = some (.int .i64 0):=(bc_ BK109.out 1).trans rfl;have hfz14_0:=bf_ BK109.out 0;have hfz14_1:=bf_ BK109.out 1)|(go_at_call 41;(with_reducible refine (spec_l1In.calls ((rd_T35 l0 x3_1).f0) 0 2000 true _ A4.out).mono ?_);rintro e w' ⟨rfl,⟨nd,rfl⟩⟩;(try first|exact ⟨rfl,_,World.drewN_drewN _ _ _⟩|exact ⟨rfl,_,Eq.trans (World.drewN_drewN _ _ _) (congrArg (World.drewN _) (Nat.add_assoc _ _ _))⟩))|(go_at_call 41;(with_reducible refine (spec_l1In.calls ((rd_T35 l0 x3_1).f1) 1 50 true _ A6.out).mono ?_);rintro e w' ⟨rfl,⟨nd,rfl⟩⟩;(try first|exact ⟨rfl,_,World.drewN_drewN _ _ _⟩|exact ⟨rfl,_,Eq.trans (World.drewN_drewN _ _ _) (congrArg (World.drewN _) (Nat.add_assoc _ _ _))⟩);have p112 : 0 ≤ ((ji9) : Int):=od_ qa_;have q112 : (ji9) < (l0.length : Int):=od_ qa_;obtain ⟨ad112,e112,hx112_0,hx112_1⟩:=at_T35 HR0.out (ji9) p112 q112;obtain rfl : ad108 = ad112:=(by injection e112);have hn112_0 : ad108.block ≠ gb109:=Nat.ne_of_lt (Nat.lt_of_lt_of_le (by have:=wl_ _ _ hx112_0;first|rwa [add_block] at this|exact this) GW109.out);have hn112_1 : ad108.block ≠ gb109:=Nat.ne_of_lt (Nat.lt_of_lt_of_le (by have:=wl_ _ _ hx112_0;first|rwa [add_block] at this|exact this) GW109.out);replace hx112_0:=(HB.out.cell (wl_ w _ hx112_0)).trans hx112_0;replace hx112_1:=(HB.out.cell (wl_ w _ hx112_1)).trans hx112_1;replace hx112_0:=(cell_far (p:=⟨gb109,0,none⟩) (by first|(rw [add_block];exact hn112_0)|(show (Addr.add _ _).block ≠ _;rw [add_block];exact hn112_0)|exact hn112_0) (.int .i64 ((rd_T35 l0 x3_1).f0))).trans hx112_0;replace hx112_1:=(cell_far (p:=⟨gb109,0,none⟩) (by first|(rw [add_block];exact hn112_0)|(show (Addr.add _ _).block ≠ _;rw [add_block];exact hn112_0)|exact hn112_0) (.int .i64 ((rd_T35 l0 x3_1).f0))).trans hx112_1;replace hx112_0:=(cell_far (p:=⟨gb109,1,none⟩) (by first|(rw [add_block];exact hn112_1)|(show (Addr.add _ _).block ≠ _;rw [add_block];exact hn112_1)|exact hn112_1) (.int .i64 ((rd_T35 l0 x3_1).f1))).trans hx112_0;replace hx112_1:=(cell_far (p:=⟨gb109,1,none⟩) (by first|(rw [add_block];exact hn112_1)|(show (Addr.add _ _).block ≠ _;rw [add_block];exact hn112_1)|exact hn112_1) (.int .i64 ((rd_T35 l0 x3_1).f1))).trans hx112_1;(try have hy112_0:=fun (n_ : Nat) => (show ((((w13.drewN n_).setCell ⟨gb109,0,none⟩ (.int .i64 ((rd_T35 l0 x3_1).f0))).setCell ⟨gb109,1,none⟩ (.int .i64 ((rd_T35 l0 x3_1).f1)))).cell? _ = some _ from hx112_0));(try have hy112_1:=fun (n_ : Nat) => (show ((((w13.drewN n_).setCell ⟨gb109,0,none⟩ (.int .i64 ((rd_T35 l0 x3_1).f0))).setCell ⟨gb109,1,none⟩ (.int .i64 ((rd_T35 l0 x3_1).f1)))).cell? _ = some _ from hx112_1));clear hn112_0 hn112_1;replace p112:=eq_true p112;replace q112:=eq_true q112))
           repeat (go_quiet (first|((with_reducible refine gate_dst (N:=4) rfl ?_);refine box_event ?hg (N:=4) ?hd (cs:=#[.int .i64 0,.int .i64 0]) (t:=35) ?hr ?_;(case hd => rfl);(case hg => rfl);(case hr => first|(go_simp;done)|(go_simp;rfl));intro gb109 hg w13 hbox hb;have n0_:=mk_ (st_ (qb_ HB) hb);have n1_:=mk_ (hbox);have n2_:=mk_ ((by rw [hg];exact (bz_ (qb_ HB)) : w.heap.size ≤ gb109));have n3_:=mk_ ((by rw [hg];exact (bz_ (qb_ HB)) : w.heap.size ≤ gb109));clear HB;have HB:=n0_;have BK109:=n1_;have GW109:=n2_;have GE109:=n3_;clear n0_ n1_ n2_ n3_ hb hbox hg;have hcz14_0 : w13.cell? ⟨gb109,0,none⟩ = some (.int .i64 0):=(bc_ BK109.out 0).trans rfl;have hcz14_1 : w13.cell? ⟨gb109,1,none⟩ = some (.int .i64 0):=(bc_ BK109.out 1).trans rfl;have hfz14_0:=bf_ BK109.out 0;have hfz14_1:=bf_ BK109.out 1)|(go_at_call 41;(with_reducible refine (spec_l1In.calls ((rd_T35 l0 x3_1).f0) 0 2000 true _ A4.out).mono ?_);rintro e w' ⟨rfl,⟨nd,rfl⟩⟩;(try first|exact ⟨rfl,_,World.drewN_drewN _ _ _⟩|exact ⟨rfl,_,Eq.trans (World.drewN_drewN _ _ _) (congrArg (World.drewN _) (Nat.add_assoc _ _ _))⟩))|(go_at_call 41;(with_reducible refine (spec_l1In.calls ((rd_T35 l0 x3_1).f1) 1 50 true _ A6.out).mono ?_);rintro e w' ⟨rfl,⟨nd,rfl⟩⟩;(try first|exact ⟨rfl,_,World.drewN_drewN _ _ _⟩|exact ⟨rfl,_,Eq.trans (World.drewN_drewN _ _ _) (congrArg (World.drewN _) (Nat.add_assoc _ _ _))⟩);have p112 : 0 ≤ ((ji9) : Int):=od_ qa_;have q112 : (ji9) < (l0.length : Int):=od_ qa_;obtain ⟨ad112,e112,hx112_0,hx112_1⟩:=at_T35 HR0.out (ji9) p112 q112;obtain rfl : ad108 = ad112:=(by injection e112);have hn112_0 : ad108.block ≠ gb109:=Nat.ne_of_lt (Nat.lt_of_lt_of_le (by have:=wl_ _ _ hx112_0;first|rwa [add_block] at this|exact this) GW109.out);have hn112_1 : ad108.block ≠ gb109:=Nat.ne_of_lt (Nat.lt_of_lt_of_le (by have:=wl_ _ _ hx112_0;first|rwa [add_block] at this|exact this) GW109.out);replace hx112_0:=(HB.out.cell (wl_ w _ hx112_0)).trans hx112_0;replace hx112_1:=(HB.out.cell (wl_ w _ hx112_1)).trans hx112_1;replace hx112_0:=(cell_far (p:=⟨gb109,0,none⟩) (by first|(rw [add_block];exact hn112_0)|(show (Addr.add _ _).block ≠ _;rw [add_block];exact hn112_0)|exact hn112_0) (.int .i64 ((rd_T35 l0 x3_1).f0))).trans hx112_0;replace hx112_1:=(cell_far (p:=⟨gb109,0,none⟩) (by first|(rw [add_block];exact hn112_0)|(show (Addr.add _ _).block ≠ _;rw [add_block];exact hn112_0)|exact hn112_0) (.int .i64 ((rd_T35 l0 x3_1).f0))).trans hx112_1;replace hx112_0:=(cell_far (p:=⟨gb109,1,none⟩) (by first|(rw [add_block];exact hn112_1)|(show (Addr.add _ _).block ≠ _;rw [add_block];exact hn112_1)|exact hn112_1) (.int .i64 ((rd_T35 l0 x3_1).f1))).trans hx112_0;replace hx112_1:=(cell_far (p:=⟨gb109,1,none⟩) (by first|(rw [add_block];exact hn112_1)|(show (Addr.add _ _).block ≠ _;rw [add_block];exact hn112_1)|exact hn112_1) (.int .i64 ((rd_T35 l0 x3_1).f1))).trans hx112_1;(try have hy112_0:=fun (n_ : Nat) => (show ((((w13.drewN n_).setCell ⟨gb109,0,none⟩ (.int .i64 ((rd_T35 l0 x3_1).f0))).setCell ⟨gb109,1,none⟩ (.int .i64 ((rd_T35 l0 x3_1).f1)))).cell? _ = some _ from hx112_0));(try have hy112_1:=fun (n_ : Nat) => (show ((((w13.drewN n_).setCell ⟨gb109,0,none⟩ (.int .i64 ((rd_T35 l0 x3_1).f0))).setCell ⟨gb109,1,none⟩ (.int .i64 ((rd_T35 l0 x3_1).f1)))).cell? _ = some _ from hx112_1));clear hn112_0 hn112_1;replace p112:=eq_true p112;replace q112:=eq_true q112));try go_wp2_with (first|((with_reducible refine gate_dst (N:=4) rfl ?_);refine box_event ?hg (N:=4) ?hd (cs:=#[.int .i64 0,.int .i64 0]) (t:=35) ?hr ?_;(case hd => rfl);(case hg => rfl);(case hr => first|(go_simp;done)|(go_simp;rfl));intro gb109 hg w13 hbox hb;have n0_:=mk_ (st_ (qb_ HB) hb);have n1_:=mk_ (hbox);have n2_:=mk_ ((by rw [hg];exact (bz_ (qb_ HB)) : w.heap.size ≤ gb109));have n3_:=mk_ ((by rw [hg];exact (bz_ (qb_ HB)) : w.heap.size ≤ gb109));clear HB;have HB:=n0_;have BK109:=n1_;have GW109:=n2_;have GE109:=n3_;clear n0_ n1_ n2_ n3_ hb hbox hg;have hcz14_0 : w13.cell? ⟨gb109,0,none⟩ = some (.int .i64 0):=(bc_ BK109.out 0).trans rfl;have hcz14_1 : w13.cell? ⟨gb109,1,none⟩ = some (.int .i64 0):=(bc_ BK109.out 1).trans rfl;have hfz14_0:=bf_ BK109.out 0;have hfz14_1:=bf_ BK109.out 1)|(go_at_call 41;(with_reducible refine (spec_l1In.calls ((rd_T35 l0 x3_1).f0) 0 2000 true _ A4.out).mono ?_);rintro e w' ⟨rfl,⟨nd,rfl⟩⟩;(try first|exact ⟨rfl,_,World.drewN_drewN _ _ _⟩|exact ⟨rfl,_,Eq.trans (World.drewN_drewN _ _ _) (congrArg (World.drewN _) (Nat.add_assoc _ _ _))⟩))|(go_at_call 41;(with_reducible refine (spec_l1In.calls ((rd_T35 l0 x3_1).f1) 1 50 true _ A6.out).mono ?_);rintro e w' ⟨rfl,⟨nd,rfl⟩⟩;(try first|exact ⟨rfl,_,World.drewN_drewN _ _ _⟩|exact ⟨rfl,_,Eq.trans (World.drewN_drewN _ _ _) (congrArg (World.drewN _) (Nat.add_assoc _ _ _))⟩);have p112 : 0 ≤ ((ji9) : Int):=od_ qa_;have q112 : (ji9) < (l0.length : Int):=od_ qa_;obtain ⟨ad112,e112,hx112_0,hx112_1⟩:=at_T35 HR0.out (ji9) p112 q112;obtain rfl : ad108 = ad112:=(by injection e112);have hn112_0 : ad108.block ≠ gb109:=Nat.ne_of_lt (Nat.lt_of_lt_of_le (by have:=wl_ _ _ hx112_0;first|rwa [add_block] at this|exact this) GW109.out);have hn112_1 : ad108.block ≠ gb109:=Nat.ne_of_lt (Nat.lt_of_lt_of_le (by have:=wl_ _ _ hx112_0;first|rwa [add_block] at this|exact this) GW109.out);replace hx112_0:=(HB.out.cell (wl_ w _ hx112_0)).trans hx112_0;replace hx112_1:=(HB.out.cell (wl_ w _ hx112_1)).trans hx112_1;replace hx112_0:=(cell_far (p:=⟨gb109,0,none⟩) (by first|(rw [add_block];exact hn112_0)|(show (Addr.add _ _).block ≠ _;rw [add_block];exact hn112_0)|exact hn112_0) (.int .i64 ((rd_T35 l0 x3_1).f0))).trans hx112_0;replace hx112_1:=(cell_far (p:=⟨gb109,0,none⟩) (by first|(rw [add_block];exact hn112_0)|(show (Addr.add _ _).block ≠ _;rw [add_block];exact hn112_0)|exact hn112_0) (.int .i64 ((rd_T35 l0 x3_1).f0))).trans hx112_1;replace hx112_0:=(cell_far (p:=⟨gb109,1,none⟩) (by first|(rw [add_block];exact hn112_1)|(show (Addr.add _ _).block ≠ _;rw [add_block];exact hn112_1)|exact hn112_1) (.int .i64 ((rd_T35 l0 x3_1).f1))).trans hx112_0;replace hx112_1:=(cell_far (p:=⟨gb109,1,none⟩) (by first|(rw [add_block];exact hn112_1)|(show (Addr.add _ _).block ≠ _;rw [add_block];exact hn112_1)|exact hn112_1) (.int .i64 ((rd_T35 l0 x3_1).f1))).trans hx112_1;(try have hy112_0:=fun (n_ : Nat) => (show ((((w13.drewN n_).setCell ⟨gb109,0,none⟩ (.int .i64 ((rd_T35 l0 x3_1).f0))).setCell ⟨gb109,1,none⟩ (.int .i64 ((rd_T35 l0 x3_1).f1)))).cell? _ = some _ from hx112_0));(try have hy112_1:=fun (n_ : Nat) => (show ((((w13.drewN n_).setCell ⟨gb109,0,none⟩ (.int .i64 ((rd_T35 l0 x3_1).f0))).setCell ⟨gb109,1,none⟩ (.int .i64 ((rd_T35 l0 x3_1).f1)))).cell? _ = some _ from hx112_1));clear hn112_0 hn112_1;replace p112:=eq_true p112;replace q112:=eq_true q112)))
           go_ret
           exact ⟨by first|rfl|(simp [errW_none,errW_some] <;> rfl)|(simp only [← hji9];first|rfl|(simp [errW_none,errW_some] <;> rfl))|(simp [*,errW_none,errW_some] <;> rfl),u1_ HB GE109⟩
          ·rw [if_neg c12] at H
           have c12b0 : decide (((rd_T35 l0 x3_1).f0) < ((rd_T35 l0 (ji9)).f0)) = false:=decide_eq_false c12
           clear c12
           have H':=mk_ H
           clear H
           have p108 : 0 ≤ (x3_1 : Int):=od_ qa_
           have q108 : x3_1 < (l0.length : Int):=od_ qa_
           obtain ⟨ad108,e108,hx108_0,hx108_1⟩:=at_T35 HR0.out x3_1 p108 q108
           cases e108
           replace hx108_0:=(HB.out.cell (wl_ w _ hx108_0)).trans hx108_0
           replace hx108_1:=(HB.out.cell (wl_ w _ hx108_1)).trans hx108_1
           replace p108:=eq_true p108
           replace q108:=eq_true q108
           go_wp2_with (first|((with_reducible refine gate_dst (N:=4) rfl ?_);refine box_event ?hg (N:=4) ?hd (cs:=#[.int .i64 0,.int .i64 0]) (t:=35) ?hr ?_;(case hd => rfl);(case hg => rfl);(case hr => first|(go_simp;done)|(go_simp;rfl));intro gb109 hg w15 hbox hb;have n0_:=mk_ (st_ (qb_ HB) hb);have n1_:=mk_ (hbox);have n2_:=mk_ ((by rw [hg];exact (bz_ (qb_ HB)) : w.heap.size ≤ gb109));have n3_:=mk_ ((by rw [hg];exact (bz_ (qb_ HB)) : w.heap.size ≤ gb109));clear HB;have HB:=n0_;have BK109:=n1_;have GW109:=n2_;have GE109:=n3_;clear n0_ n1_ n2_ n3_ hb hbox hg;have hcz16_0 : w15.cell? ⟨gb109,0,none⟩ = some (.int .i64 0):=(bc_ BK109.out 0).trans rfl;have hcz16_1 : w15.cell? ⟨gb109,1,none⟩ = some (.int .i64 0):=(bc_ BK109.out 1).trans rfl;have hfz16_0:=bf_ BK109.out 0;have hfz16_1:=bf_ BK109.out 1)|(go_at_call 41;(with_reducible refine (spec_l1In.calls ((rd_T35 l0 x3_1).f0) 0 2000 true _ A4.out).mono ?_);rintro e w' ⟨rfl,⟨nd,rfl⟩⟩;(try first|exact ⟨rfl,_,World.drewN_drewN _ _ _⟩|exact ⟨rfl,_,Eq.trans (World.drewN_drewN _ _ _) (congrArg (World.drewN _) (Nat.add_assoc _ _ _))⟩))|(go_at_call 41;(with_reducible refine (spec_l1In.calls ((rd_T35 l0 x3_1).f1) 1 50 true _ A6.out).mono ?_);rintro e w' ⟨rfl,⟨nd,rfl⟩⟩;(try first|exact ⟨rfl,_,World.drewN_drewN _ _ _⟩|exact ⟨rfl,_,Eq.trans (World.drewN_drewN _ _ _) (congrArg (World.drewN _) (Nat.add_assoc _ _ _))⟩);have p112 : 0 ≤ ((ji9) : Int):=od_ qa_;have q112 : (ji9) < (l0.length : Int):=od_ qa_;obtain ⟨ad112,e112,hx112_0,hx112_1⟩:=at_T35 HR0.out (ji9) p112 q112;obtain rfl : ad108 = ad112:=(by injection e112);have hn112_0 : ad108.block ≠ gb109:=Nat.ne_of_lt (Nat.lt_of_lt_of_le (by have:=wl_ _ _ hx112_0;first|rwa [add_block] at this|exact this) GW109.out);have hn112_1 : ad108.block ≠ gb109:=Nat.ne_of_lt (Nat.lt_of_lt_of_le (by have:=wl_ _ _ hx112_0;first|rwa [add_block] at this|exact this) GW109.out);replace hx112_0:=(HB.out.cell (wl_ w _ hx112_0)).trans hx112_0;replace hx112_1:=(HB.out.cell (wl_ w _ hx112_1)).trans hx112_1;replace hx112_0:=(cell_far (p:=⟨gb109,0,none⟩) (by first|(rw [add_block];exact hn112_0)|(show (Addr.add _ _).block ≠ _;rw [add_block];exact hn112_0)|exact hn112_0) (.int .i64 ((rd_T35 l0 x3_1).f0))).trans hx112_0;replace hx112_1:=(cell_far (p:=⟨gb109,0,none⟩) (by first|(rw [add_block];exact hn112_0)|(show (Addr.add _ _).block ≠ _;rw [add_block];exact hn112_0)|exact hn112_0) (.int .i64 ((rd_T35 l0 x3_1).f0))).trans hx112_1;replace hx112_0:=(cell_far (p:=⟨gb109,1,none⟩) (by first|(rw [add_block];exact hn112_1)|(show (Addr.add _ _).block ≠ _;rw [add_block];exact hn112_1)|exact hn112_1) (.int .i64 ((rd_T35 l0 x3_1).f1))).trans hx112_0;replace hx112_1:=(cell_far (p:=⟨gb109,1,none⟩) (by first|(rw [add_block];exact hn112_1)|(show (Addr.add _ _).block ≠ _;rw [add_block];exact hn112_1)|exact hn112_1) (.int .i64 ((rd_T35 l0 x3_1).f1))).trans hx112_1;(try have hy112_0:=fun (n_ : Nat) => (show ((((w15.drewN n_).setCell ⟨gb109,0,none⟩ (.int .i64 ((rd_T35 l0 x3_1).f0))).setCell ⟨gb109,1,none⟩ (.int .i64 ((rd_T35 l0 x3_1).f1)))).cell? _ = some _ from hx112_0));(try have hy112_1:=fun (n_ : Nat) => (show ((((w15.drewN n_).setCell ⟨gb109,0,none⟩ (.int .i64 ((rd_T35 l0 x3_1).f0))).setCell ⟨gb109,1,none⟩ (.int .i64 ((rd_T35 l0 x3_1).f1)))).cell? _ = some _ from hx112_1));clear hn112_0 hn112_1;replace p112:=eq_true p112;replace q112:=eq_true q112))
           repeat (go_quiet (first|((with_reducible refine gate_dst (N:=4) rfl ?_);refine box_event ?hg (N:=4) ?hd (cs:=#[.int .i64 0,.int .i64 0]) (t:=35) ?hr ?_;(case hd => rfl);(case hg => rfl);(case hr => first|(go_simp;done)|(go_simp;rfl));intro gb109 hg w15 hbox hb;have n0_:=mk_ (st_ (qb_ HB) hb);have n1_:=mk_ (hbox);have n2_:=mk_ ((by rw [hg];exact (bz_ (qb_ HB)) : w.heap.size ≤ gb109));have n3_:=mk_ ((by rw [hg];exact (bz_ (qb_ HB)) : w.heap.size ≤ gb109));clear HB;have HB:=n0_;have BK109:=n1_;have GW109:=n2_;have GE109:=n3_;clear n0_ n1_ n2_ n3_ hb hbox hg;have hcz16_0 : w15.cell? ⟨gb109,0,none⟩ = some (.int .i64 0):=(bc_ BK109.out 0).trans rfl;have hcz16_1 : w15.cell? ⟨gb109,1,none⟩ = some (.int .i64 0):=(bc_ BK109.out 1).trans rfl;have hfz16_0:=bf_ BK109.out 0;have hfz16_1:=bf_ BK109.out 1)|(go_at_call 41;(with_reducible refine (spec_l1In.calls ((rd_T35 l0 x3_1).f0) 0 2000 true _ A4.out).mono ?_);rintro e w' ⟨rfl,⟨nd,rfl⟩⟩;(try first|exact ⟨rfl,_,World.drewN_drewN _ _ _⟩|exact ⟨rfl,_,Eq.trans (World.drewN_drewN _ _ _) (congrArg (World.drewN _) (Nat.add_assoc _ _ _))⟩))|(go_at_call 41;(with_reducible refine (spec_l1In.calls ((rd_T35 l0 x3_1).f1) 1 50 true _ A6.out).mono ?_);rintro e w' ⟨rfl,⟨nd,rfl⟩⟩;(try first|exact ⟨rfl,_,World.drewN_drewN _ _ _⟩|exact ⟨rfl,_,Eq.trans (World.drewN_drewN _ _ _) (congrArg (World.drewN _) (Nat.add_assoc _ _ _))⟩);have p112 : 0 ≤ ((ji9) : Int):=od_ qa_;have q112 : (ji9) < (l0.length : Int):=od_ qa_;obtain ⟨ad112,e112,hx112_0,hx112_1⟩:=at_T35 HR0.out (ji9) p112 q112;obtain rfl : ad108 = ad112:=(by injection e112);have hn112_0 : ad108.block ≠ gb109:=Nat.ne_of_lt (Nat.lt_of_lt_of_le (by have:=wl_ _ _ hx112_0;first|rwa [add_block] at this|exact this) GW109.out);have hn112_1 : ad108.block ≠ gb109:=Nat.ne_of_lt (Nat.lt_of_lt_of_le (by have:=wl_ _ _ hx112_0;first|rwa [add_block] at this|exact this) GW109.out);replace hx112_0:=(HB.out.cell (wl_ w _ hx112_0)).trans hx112_0;replace hx112_1:=(HB.out.cell (wl_ w _ hx112_1)).trans hx112_1;replace hx112_0:=(cell_far (p:=⟨gb109,0,none⟩) (by first|(rw [add_block];exact hn112_0)|(show (Addr.add _ _).block ≠ _;rw [add_block];exact hn112_0)|exact hn112_0) (.int .i64 ((rd_T35 l0 x3_1).f0))).trans hx112_0;replace hx112_1:=(cell_far (p:=⟨gb109,0,none⟩) (by first|(rw [add_block];exact hn112_0)|(show (Addr.add _ _).block ≠ _;rw [add_block];exact hn112_0)|exact hn112_0) (.int .i64 ((rd_T35 l0 x3_1).f0))).trans hx112_1;replace hx112_0:=(cell_far (p:=⟨gb109,1,none⟩) (by first|(rw [add_block];exact hn112_1)|(show (Addr.add _ _).block ≠ _;rw [add_block];exact hn112_1)|exact hn112_1) (.int .i64 ((rd_T35 l0 x3_1).f1))).trans hx112_0;replace hx112_1:=(cell_far (p:=⟨gb109,1,none⟩) (by first|(rw [add_block];exact hn112_1)|(show (Addr.add _ _).block ≠ _;rw [add_block];exact hn112_1)|exact hn112_1) (.int .i64 ((rd_T35 l0 x3_1).f1))).trans hx112_1;(try have hy112_0:=fun (n_ : Nat) => (show ((((w15.drewN n_).setCell ⟨gb109,0,none⟩ (.int .i64 ((rd_T35 l0 x3_1).f0))).setCell ⟨gb109,1,none⟩ (.int .i64 ((rd_T35 l0 x3_1).f1)))).cell? _ = some _ from hx112_0));(try have hy112_1:=fun (n_ : Nat) => (show ((((w15.drewN n_).setCell ⟨gb109,0,none⟩ (.int .i64 ((rd_T35 l0 x3_1).f0))).setCell ⟨gb109,1,none⟩ (.int .i64 ((rd_T35 l0 x3_1).f1)))).cell? _ = some _ from hx112_1));clear hn112_0 hn112_1;replace p112:=eq_true p112;replace q112:=eq_true q112));try go_wp2_with (first|((with_reducible refine gate_dst (N:=4) rfl ?_);refine box_event ?hg (N:=4) ?hd (cs:=#[.int .i64 0,.int .i64 0]) (t:=35) ?hr ?_;(case hd => rfl);(case hg => rfl);(case hr => first|(go_simp;done)|(go_simp;rfl));intro gb109 hg w15 hbox hb;have n0_:=mk_ (st_ (qb_ HB) hb);have n1_:=mk_ (hbox);have n2_:=mk_ ((by rw [hg];exact (bz_ (qb_ HB)) : w.heap.size ≤ gb109));have n3_:=mk_ ((by rw [hg];exact (bz_ (qb_ HB)) : w.heap.size ≤ gb109));clear HB;have HB:=n0_;have BK109:=n1_;have GW109:=n2_;have GE109:=n3_;clear n0_ n1_ n2_ n3_ hb hbox hg;have hcz16_0 : w15.cell? ⟨gb109,0,none⟩ = some (.int .i64 0):=(bc_ BK109.out 0).trans rfl;have hcz16_1 : w15.cell? ⟨gb109,1,none⟩ = some (.int .i64 0):=(bc_ BK109.out 1).trans rfl;have hfz16_0:=bf_ BK109.out 0;have hfz16_1:=bf_ BK109.out 1)|(go_at_call 41;(with_reducible refine (spec_l1In.calls ((rd_T35 l0 x3_1).f0) 0 2000 true _ A4.out).mono ?_);rintro e w' ⟨rfl,⟨nd,rfl⟩⟩;(try first|exact ⟨rfl,_,World.drewN_drewN _ _ _⟩|exact ⟨rfl,_,Eq.trans (World.drewN_drewN _ _ _) (congrArg (World.drewN _) (Nat.add_assoc _ _ _))⟩))|(go_at_call 41;(with_reducible refine (spec_l1In.calls ((rd_T35 l0 x3_1).f1) 1 50 true _ A6.out).mono ?_);rintro e w' ⟨rfl,⟨nd,rfl⟩⟩;(try first|exact ⟨rfl,_,World.drewN_drewN _ _ _⟩|exact ⟨rfl,_,Eq.trans (World.drewN_drewN _ _ _) (congrArg (World.drewN _) (Nat.add_assoc _ _ _))⟩);have p112 : 0 ≤ ((ji9) : Int):=od_ qa_;have q112 : (ji9) < (l0.length : Int):=od_ qa_;obtain ⟨ad112,e112,hx112_0,hx112_1⟩:=at_T35 HR0.out (ji9) p112 q112;obtain rfl : ad108 = ad112:=(by injection e112);have hn112_0 : ad108.block ≠ gb109:=Nat.ne_of_lt (Nat.lt_of_lt_of_le (by have:=wl_ _ _ hx112_0;first|rwa [add_block] at this|exact this) GW109.out);have hn112_1 : ad108.block ≠ gb109:=Nat.ne_of_lt (Nat.lt_of_lt_of_le (by have:=wl_ _ _ hx112_0;first|rwa [add_block] at this|exact this) GW109.out);replace hx112_0:=(HB.out.cell (wl_ w _ hx112_0)).trans hx112_0;replace hx112_1:=(HB.out.cell (wl_ w _ hx112_1)).trans hx112_1;replace hx112_0:=(cell_far (p:=⟨gb109,0,none⟩) (by first|(rw [add_block];exact hn112_0)|(show (Addr.add _ _).block ≠ _;rw [add_block];exact hn112_0)|exact hn112_0) (.int .i64 ((rd_T35 l0 x3_1).f0))).trans hx112_0;replace hx112_1:=(cell_far (p:=⟨gb109,0,none⟩) (by first|(rw [add_block];exact hn112_0)|(show (Addr.add _ _).block ≠ _;rw [add_block];exact hn112_0)|exact hn112_0) (.int .i64 ((rd_T35 l0 x3_1).f0))).trans hx112_1;replace hx112_0:=(cell_far (p:=⟨gb109,1,none⟩) (by first|(rw [add_block];exact hn112_1)|(show (Addr.add _ _).block ≠ _;rw [add_block];exact hn112_1)|exact hn112_1) (.int .i64 ((rd_T35 l0 x3_1).f1))).trans hx112_0;replace hx112_1:=(cell_far (p:=⟨gb109,1,none⟩) (by first|(rw [add_block];exact hn112_1)|(show (Addr.add _ _).block ≠ _;rw [add_block];exact hn112_1)|exact hn112_1) (.int .i64 ((rd_T35 l0 x3_1).f1))).trans hx112_1;(try have hy112_0:=fun (n_ : Nat) => (show ((((w15.drewN n_).setCell ⟨gb109,0,none⟩ (.int .i64 ((rd_T35 l0 x3_1).f0))).setCell ⟨gb109,1,none⟩ (.int .i64 ((rd_T35 l0 x3_1).f1)))).cell? _ = some _ from hx112_0));(try have hy112_1:=fun (n_ : Nat) => (show ((((w15.drewN n_).setCell ⟨gb109,0,none⟩ (.int .i64 ((rd_T35 l0 x3_1).f0))).setCell ⟨gb109,1,none⟩ (.int .i64 ((rd_T35 l0 x3_1).f1)))).cell? _ = some _ from hx112_1));clear hn112_0 hn112_1;replace p112:=eq_true p112;replace q112:=eq_true q112)))
           go_roundg k1
           case measure => have:=HK1.out;omega
           case rel => exact ⟨(wrap64 (x3_1 + 1)),qf_,H',⟨by have:=HK1.out;omega⟩,⟨u1_ HB GE109⟩⟩
         ·rw [if_neg c11] at H
          exact absurd H (by simp)
        ·rw [if_neg c10] at H
         exact absurd H (by simp)
       ·rw [if_neg c8] at H
        have c8b0 : decide (0 < x3_1) = false:=decide_eq_false c8
        clear c8
        have H':=mk_ H
        clear H
        have p108 : 0 ≤ (x3_1 : Int):=od_ qa_
        have q108 : x3_1 < (l0.length : Int):=od_ qa_
        obtain ⟨ad108,e108,hx108_0,hx108_1⟩:=at_T35 HR0.out x3_1 p108 q108
        cases e108
        replace hx108_0:=(HB.out.cell (wl_ w _ hx108_0)).trans hx108_0
        replace hx108_1:=(HB.out.cell (wl_ w _ hx108_1)).trans hx108_1
        replace p108:=eq_true p108
        replace q108:=eq_true q108
        go_wp2_with (first|((with_reducible refine gate_dst (N:=4) rfl ?_);refine box_event ?hg (N:=4) ?hd (cs:=#[.int .i64 0,.int .i64 0]) (t:=35) ?hr ?_;(case hd => rfl);(case hg => rfl);(case hr => first|(go_simp;done)|(go_simp;rfl));intro gb109 hg w17 hbox hb;have n0_:=mk_ (st_ (qb_ HB) hb);have n1_:=mk_ (hbox);have n2_:=mk_ ((by rw [hg];exact (bz_ (qb_ HB)) : w.heap.size ≤ gb109));have n3_:=mk_ ((by rw [hg];exact (bz_ (qb_ HB)) : w.heap.size ≤ gb109));clear HB;have HB:=n0_;have BK109:=n1_;have GW109:=n2_;have GE109:=n3_;clear n0_ n1_ n2_ n3_ hb hbox hg;have hcz18_0 : w17.cell? ⟨gb109,0,none⟩ = some (.int .i64 0):=(bc_ BK109.out 0).trans rfl;have hcz18_1 : w17.cell? ⟨gb109,1,none⟩ = some (.int .i64 0):=(bc_ BK109.out 1).trans rfl;have hfz18_0:=bf_ BK109.out 0;have hfz18_1:=bf_ BK109.out 1)|(go_at_call 41;(with_reducible refine (spec_l1In.calls ((rd_T35 l0 x3_1).f0) 0 2000 true _ A4.out).mono ?_);rintro e w' ⟨rfl,⟨nd,rfl⟩⟩;(try first|exact ⟨rfl,_,World.drewN_drewN _ _ _⟩|exact ⟨rfl,_,Eq.trans (World.drewN_drewN _ _ _) (congrArg (World.drewN _) (Nat.add_assoc _ _ _))⟩))|(go_at_call 41;(with_reducible refine (spec_l1In.calls ((rd_T35 l0 x3_1).f1) 1 50 true _ A6.out).mono ?_);rintro e w' ⟨rfl,⟨nd,rfl⟩⟩;(try first|exact ⟨rfl,_,World.drewN_drewN _ _ _⟩|exact ⟨rfl,_,Eq.trans (World.drewN_drewN _ _ _) (congrArg (World.drewN _) (Nat.add_assoc _ _ _))⟩)))
        repeat (go_quiet (first|((with_reducible refine gate_dst (N:=4) rfl ?_);refine box_event ?hg (N:=4) ?hd (cs:=#[.int .i64 0,.int .i64 0]) (t:=35) ?hr ?_;(case hd => rfl);(case hg => rfl);(case hr => first|(go_simp;done)|(go_simp;rfl));intro gb109 hg w17 hbox hb;have n0_:=mk_ (st_ (qb_ HB) hb);have n1_:=mk_ (hbox);have n2_:=mk_ ((by rw [hg];exact (bz_ (qb_ HB)) : w.heap.size ≤ gb109));have n3_:=mk_ ((by rw [hg];exact (bz_ (qb_ HB)) : w.heap.size ≤ gb109));clear HB;have HB:=n0_;have BK109:=n1_;have GW109:=n2_;have GE109:=n3_;clear n0_ n1_ n2_ n3_ hb hbox hg;have hcz18_0 : w17.cell? ⟨gb109,0,none⟩ = some (.int .i64 0):=(bc_ BK109.out 0).trans rfl;have hcz18_1 : w17.cell? ⟨gb109,1,none⟩ = some (.int .i64 0):=(bc_ BK109.out 1).trans rfl;have hfz18_0:=bf_ BK109.out 0;have hfz18_1:=bf_ BK109.out 1)|(go_at_call 41;(with_reducible refine (spec_l1In.calls ((rd_T35 l0 x3_1).f0) 0 2000 true _ A4.out).mono ?_);rintro e w' ⟨rfl,⟨nd,rfl⟩⟩;(try first|exact ⟨rfl,_,World.drewN_drewN _ _ _⟩|exact ⟨rfl,_,Eq.trans (World.drewN_drewN _ _ _) (congrArg (World.drewN _) (Nat.add_assoc _ _ _))⟩))|(go_at_call 41;(with_reducible refine (spec_l1In.calls ((rd_T35 l0 x3_1).f1) 1 50 true _ A6.out).mono ?_);rintro e w' ⟨rfl,⟨nd,rfl⟩⟩;(try first|exact ⟨rfl,_,World.drewN_drewN _ _ _⟩|exact ⟨rfl,_,Eq.trans (World.drewN_drewN _ _ _) (congrArg (World.drewN _) (Nat.add_assoc _ _ _))⟩)));try go_wp2_with (first|((with_reducible refine gate_dst (N:=4) rfl ?_);refine box_event ?hg (N:=4) ?hd (cs:=#[.int .i64 0,.int .i64 0]) (t:=35) ?hr ?_;(case hd => rfl);(case hg => rfl);(case hr => first|(go_simp;done)|(go_simp;rfl));intro gb109 hg w17 hbox hb;have n0_:=mk_ (st_ (qb_ HB) hb);have n1_:=mk_ (hbox);have n2_:=mk_ ((by rw [hg];exact (bz_ (qb_ HB)) : w.heap.size ≤ gb109));have n3_:=mk_ ((by rw [hg];exact (bz_ (qb_ HB)) : w.heap.size ≤ gb109));clear HB;have HB:=n0_;have BK109:=n1_;have GW109:=n2_;have GE109:=n3_;clear n0_ n1_ n2_ n3_ hb hbox hg;have hcz18_0 : w17.cell? ⟨gb109,0,none⟩ = some (.int .i64 0):=(bc_ BK109.out 0).trans rfl;have hcz18_1 : w17.cell? ⟨gb109,1,none⟩ = some (.int .i64 0):=(bc_ BK109.out 1).trans rfl;have hfz18_0:=bf_ BK109.out 0;have hfz18_1:=bf_ BK109.out 1)|(go_at_call 41;(with_reducible refine (spec_l1In.calls ((rd_T35 l0 x3_1).f0) 0 2000 true _ A4.out).mono ?_);rintro e w' ⟨rfl,⟨nd,rfl⟩⟩;(try first|exact ⟨rfl,_,World.drewN_drewN _ _ _⟩|exact ⟨rfl,_,Eq.trans (World.drewN_drewN _ _ _) (congrArg (World.drewN _) (Nat.add_assoc _ _ _))⟩))|(go_at_call 41;(with_reducible refine (spec_l1In.calls ((rd_T35 l0 x3_1).f1) 1 50 true _ A6.out).mono ?_);rintro e w' ⟨rfl,⟨nd,rfl⟩⟩;(try first|exact ⟨rfl,_,World.drewN_drewN _ _ _⟩|exact ⟨rfl,_,Eq.trans (World.drewN_drewN _ _ _) (congrArg (World.drewN _) (Nat.add_assoc _ _ _))⟩))))
        go_roundg k1
        case measure => have:=HK1.out;omega
        case rel => exact ⟨(wrap64 (x3_1 + 1)),qf_,H',⟨by have:=HK1.out;omega⟩,⟨u1_ HB GE109⟩⟩
      ·replace c7:=Bool.eq_false_iff.mpr c7
       subst c7
       have H1 : (some false) = some r:=by rw [if_neg (show ¬ (false = true) by decide)] at H;exact H
       clear H
       have H:=H1
       clear H1
       obtain rfl:=Option.some.inj H
       have p108 : 0 ≤ (x3_1 : Int):=od_ qa_
       have q108 : x3_1 < (l0.length : Int):=od_ qa_
       obtain ⟨ad108,e108,hx108_0,hx108_1⟩:=at_T35 HR0.out x3_1 p108 q108
       cases e108
       replace hx108_0:=(HB.out.cell (wl_ w _ hx108_0)).trans hx108_0
       replace hx108_1:=(HB.out.cell (wl_ w _ hx108_1)).trans hx108_1
       replace p108:=eq_true p108
       replace q108:=eq_true q108
       go_wp2_with (first|((with_reducible refine gate_dst (N:=4) rfl ?_);refine box_event ?hg (N:=4) ?hd (cs:=#[.int .i64 0,.int .i64 0]) (t:=35) ?hr ?_;(case hd => rfl);(case hg => rfl);(case hr => first|(go_simp;done)|(go_simp;rfl));intro gb109 hg w19 hbox hb;have n0_:=mk_ (st_ (qb_ HB) hb);have n1_:=mk_ (hbox);have n2_:=mk_ ((by rw [hg];exact (bz_ (qb_ HB)) : w.heap.size ≤ gb109));have n3_:=mk_ ((by rw [hg];exact (bz_ (qb_ HB)) : w.heap.size ≤ gb109));clear HB;have HB:=n0_;have BK109:=n1_;have GW109:=n2_;have GE109:=n3_;clear n0_ n1_ n2_ n3_ hb hbox hg;have hcz20_0 : w19.cell? ⟨gb109,0,none⟩ = some (.int .i64 0):=(bc_ BK109.out 0).trans rfl;have hcz20_1 : w19.cell? ⟨gb109,1,none⟩ = some (.int .i64 0):=(bc_ BK109.out 1).trans rfl;have hfz20_0:=bf_ BK109.out 0;have hfz20_1:=bf_ BK109.out 1)|(go_at_call 41;(with_reducible refine (spec_l1In.calls ((rd_T35 l0 x3_1).f0) 0 2000 true _ A4.out).mono ?_);rintro e w' ⟨rfl,⟨nd,rfl⟩⟩;(try first|exact ⟨rfl,_,World.drewN_drewN _ _ _⟩|exact ⟨rfl,_,Eq.trans (World.drewN_drewN _ _ _) (congrArg (World.drewN _) (Nat.add_assoc _ _ _))⟩))|(go_at_call 41;(with_reducible refine (spec_l1In.calls ((rd_T35 l0 x3_1).f1) 1 50 false _ A6.out).mono ?_);rintro e w' ⟨rfl,⟨nd,rfl⟩⟩;(try first|exact ⟨rfl,_,World.drewN_drewN _ _ _⟩|exact ⟨rfl,_,Eq.trans (World.drewN_drewN _ _ _) (congrArg (World.drewN _) (Nat.add_assoc _ _ _))⟩)))
       repeat (go_quiet (first|((with_reducible refine gate_dst (N:=4) rfl ?_);refine box_event ?hg (N:=4) ?hd (cs:=#[.int .i64 0,.int .i64 0]) (t:=35) ?hr ?_;(case hd => rfl);(case hg => rfl);(case hr => first|(go_simp;done)|(go_simp;rfl));intro gb109 hg w19 hbox hb;have n0_:=mk_ (st_ (qb_ HB) hb);have n1_:=mk_ (hbox);have n2_:=mk_ ((by rw [hg];exact (bz_ (qb_ HB)) : w.heap.size ≤ gb109));have n3_:=mk_ ((by rw [hg];exact (bz_ (qb_ HB)) : w.heap.size ≤ gb109));clear HB;have HB:=n0_;have BK109:=n1_;have GW109:=n2_;have GE109:=n3_;clear n0_ n1_ n2_ n3_ hb hbox hg;have hcz20_0 : w19.cell? ⟨gb109,0,none⟩ = some (.int .i64 0):=(bc_ BK109.out 0).trans rfl;have hcz20_1 : w19.cell? ⟨gb109,1,none⟩ = some (.int .i64 0):=(bc_ BK109.out 1).trans rfl;have hfz20_0:=bf_ BK109.out 0;have hfz20_1:=bf_ BK109.out 1)|(go_at_call 41;(with_reducible refine (spec_l1In.calls ((rd_T35 l0 x3_1).f0) 0 2000 true _ A4.out).mono ?_);rintro e w' ⟨rfl,⟨nd,rfl⟩⟩;(try first|exact ⟨rfl,_,World.drewN_drewN _ _ _⟩|exact ⟨rfl,_,Eq.trans (World.drewN_drewN _ _ _) (congrArg (World.drewN _) (Nat.add_assoc _ _ _))⟩))|(go_at_call 41;(with_reducible refine (spec_l1In.calls ((rd_T35 l0 x3_1).f1) 1 50 false _ A6.out).mono ?_);rintro e w' ⟨rfl,⟨nd,rfl⟩⟩;(try first|exact ⟨rfl,_,World.drewN_drewN _ _ _⟩|exact ⟨rfl,_,Eq.trans (World.drewN_drewN _ _ _) (congrArg (World.drewN _) (Nat.add_assoc _ _ _))⟩)));try go_wp2_with (first|((with_reducible refine gate_dst (N:=4) rfl ?_);refine box_event ?hg (N:=4) ?hd (cs:=#[.int .i64 0,.int .i64 0]) (t:=35) ?hr ?_;(case hd => rfl);(case hg => rfl);(case hr => first|(go_simp;done)|(go_simp;rfl));intro gb109 hg w19 hbox hb;have n0_:=mk_ (st_ (qb_ HB) hb);have n1_:=mk_ (hbox);have n2_:=mk_ ((by rw [hg];exact (bz_ (qb_ HB)) : w.heap.size ≤ gb109));have n3_:=mk_ ((by rw [hg];exact (bz_ (qb_ HB)) : w.heap.size ≤ gb109));clear HB;have HB:=n0_;have BK109:=n1_;have GW109:=n2_;have GE109:=n3_;clear n0_ n1_ n2_ n3_ hb hbox hg;have hcz20_0 : w19.cell? ⟨gb109,0,none⟩ = some (.int .i64 0):=(bc_ BK109.out 0).trans rfl;have hcz20_1 : w19.cell? ⟨gb109,1,none⟩ = some (.int .i64 0):=(bc_ BK109.out 1).trans rfl;have hfz20_0:=bf_ BK109.out 0;have hfz20_1:=bf_ BK109.out 1)|(go_at_call 41;(with_reducible refine (spec_l1In.calls ((rd_T35 l0 x3_1).f0) 0 2000 true _ A4.out).mono ?_);rintro e w' ⟨rfl,⟨nd,rfl⟩⟩;(try first|exact ⟨rfl,_,World.drewN_drewN _ _ _⟩|exact ⟨rfl,_,Eq.trans (World.drewN_drewN _ _ _) (congrArg (World.drewN _) (Nat.add_assoc _ _ _))⟩))|(go_at_call 41;(with_reducible refine (spec_l1In.calls ((rd_T35 l0 x3_1).f1) 1 50 false _ A6.out).mono ?_);rintro e w' ⟨rfl,⟨nd,rfl⟩⟩;(try first|exact ⟨rfl,_,World.drewN_drewN _ _ _⟩|exact ⟨rfl,_,Eq.trans (World.drewN_drewN _ _ _) (congrArg (World.drewN _) (Nat.add_assoc _ _ _))⟩))))
       go_ret
       exact ⟨qe_,u1_ HB GE109⟩
     ·replace c5:=Bool.eq_false_iff.mpr c5
      subst c5
      have H1 : (some false) = some r:=by rw [if_neg (show ¬ (false = true) by decide)] at H;exact H
      clear H
      have H:=H1
      clear H1
      obtain rfl:=Option.some.inj H
      have p108 : 0 ≤ (x3_1 : Int):=od_ qa_
      have q108 : x3_1 < (l0.length : Int):=od_ qa_
      obtain ⟨ad108,e108,hx108_0,hx108_1⟩:=at_T35 HR0.out x3_1 p108 q108
      cases e108
      replace hx108_0:=(HB.out.cell (wl_ w _ hx108_0)).trans hx108_0
      replace hx108_1:=(HB.out.cell (wl_ w _ hx108_1)).trans hx108_1
      replace p108:=eq_true p108
      replace q108:=eq_true q108
      go_wp2_with (first|((with_reducible refine gate_dst (N:=4) rfl ?_);refine box_event ?hg (N:=4) ?hd (cs:=#[.int .i64 0,.int .i64 0]) (t:=35) ?hr ?_;(case hd => rfl);(case hg => rfl);(case hr => first|(go_simp;done)|(go_simp;rfl));intro gb109 hg w21 hbox hb;have n0_:=mk_ (st_ (qb_ HB) hb);have n1_:=mk_ (hbox);have n2_:=mk_ ((by rw [hg];exact (bz_ (qb_ HB)) : w.heap.size ≤ gb109));have n3_:=mk_ ((by rw [hg];exact (bz_ (qb_ HB)) : w.heap.size ≤ gb109));clear HB;have HB:=n0_;have BK109:=n1_;have GW109:=n2_;have GE109:=n3_;clear n0_ n1_ n2_ n3_ hb hbox hg;have hcz22_0 : w21.cell? ⟨gb109,0,none⟩ = some (.int .i64 0):=(bc_ BK109.out 0).trans rfl;have hcz22_1 : w21.cell? ⟨gb109,1,none⟩ = some (.int .i64 0):=(bc_ BK109.out 1).trans rfl;have hfz22_0:=bf_ BK109.out 0;have hfz22_1:=bf_ BK109.out 1)|(go_at_call 41;(with_reducible refine (spec_l1In.calls ((rd_T35 l0 x3_1).f0) 0 2000 false _ A4.out).mono ?_);rintro e w' ⟨rfl,⟨nd,rfl⟩⟩;(try first|exact ⟨rfl,_,World.drewN_drewN _ _ _⟩|exact ⟨rfl,_,Eq.trans (World.drewN_drewN _ _ _) (congrArg (World.drewN _) (Nat.add_assoc _ _ _))⟩)))
      repeat (go_quiet (first|((with_reducible refine gate_dst (N:=4) rfl ?_);refine box_event ?hg (N:=4) ?hd (cs:=#[.int .i64 0,.int .i64 0]) (t:=35) ?hr ?_;(case hd => rfl);(case hg => rfl);(case hr => first|(go_simp;done)|(go_simp;rfl));intro gb109 hg w21 hbox hb;have n0_:=mk_ (st_ (qb_ HB) hb);have n1_:=mk_ (hbox);have n2_:=mk_ ((by rw [hg];exact (bz_ (qb_ HB)) : w.heap.size ≤ gb109));have n3_:=mk_ ((by rw [hg];exact (bz_ (qb_ HB)) : w.heap.size ≤ gb109));clear HB;have HB:=n0_;have BK109:=n1_;have GW109:=n2_;have GE109:=n3_;clear n0_ n1_ n2_ n3_ hb hbox hg;have hcz22_0 : w21.cell? ⟨gb109,0,none⟩ = some (.int .i64 0):=(bc_ BK109.out 0).trans rfl;have hcz22_1 : w21.cell? ⟨gb109,1,none⟩ = some (.int .i64 0):=(bc_ BK109.out 1).trans rfl;have hfz22_0:=bf_ BK109.out 0;have hfz22_1:=bf_ BK109.out 1)|(go_at_call 41;(with_reducible refine (spec_l1In.calls ((rd_T35 l0 x3_1).f0) 0 2000 false _ A4.out).mono ?_);rintro e w' ⟨rfl,⟨nd,rfl⟩⟩;(try first|exact ⟨rfl,_,World.drewN_drewN _ _ _⟩|exact ⟨rfl,_,Eq.trans (World.drewN_drewN _ _ _) (congrArg (World.drewN _) (Nat.add_assoc _ _ _))⟩)));try go_wp2_with (first|((with_reducible refine gate_dst (N:=4) rfl ?_);refine box_event ?hg (N:=4) ?hd (cs:=#[.int .i64 0,.int .i64 0]) (t:=35) ?hr ?_;(case hd => rfl);(case hg => rfl);(case hr => first|(go_simp;done)|(go_simp;rfl));intro gb109 hg w21 hbox hb;have n0_:=mk_ (st_ (qb_ HB) hb);have n1_:=mk_ (hbox);have n2_:=mk_ ((by rw [hg];exact (bz_ (qb_ HB)) : w.heap.size ≤ gb109));have n3_:=mk_ ((by rw [hg];exact (bz_ (qb_ HB)) : w.heap.size ≤ gb109));clear HB;have HB:=n0_;have BK109:=n1_;have GW109:=n2_;have GE109:=n3_;clear n0_ n1_ n2_ n3_ hb hbox hg;have hcz22_0 : w21.cell? ⟨gb109,0,none⟩ = some (.int .i64 0):=(bc_ BK109.out 0).trans rfl;have hcz22_1 : w21.cell? ⟨gb109,1,none⟩ = some (.int .i64 0):=(bc_ BK109.out 1).trans rfl;have hfz22_0:=bf_ BK109.out 0;have hfz22_1:=bf_ BK109.out 1)|(go_at_call 41;(with_reducible refine (spec_l1In.calls ((rd_T35 l0 x3_1).f0) 0 2000 false _ A4.out).mono ?_);rintro e w' ⟨rfl,⟨nd,rfl⟩⟩;(try first|exact ⟨rfl,_,World.drewN_drewN _ _ _⟩|exact ⟨rfl,_,Eq.trans (World.drewN_drewN _ _ _) (congrArg (World.drewN _) (Nat.add_assoc _ _ _))⟩))))
      go_ret
      exact ⟨qe_,u1_ HB GE109⟩
    ·rw [if_neg c3] at H
     exact absurd H (by simp)
   ·rw [if_neg c2] at H
    have c2b0 : decide (x3_1 < (l0.length : Int)) = false:=decide_eq_false c2
    clear c2
    obtain rfl:=Option.some.inj H
    go_wp2
    repeat (go_quiet (fail);try go_wp2)
    go_ret
    exact ⟨qe_,u0_ HB⟩

/-! ### spec_l14Fits: function 40 -/
def spec_l14Fits.f (k : Nat) (a0 : Int) (a1 : Int) (l2 : List (S35)) : Option (Bool):=(spec_l1In.f a0 1 20).bind fun t113 => (if t113 = true then ((spec_l1In.f a1 1 100).bind fun t114 => (if t114 = true then ((spec_PulsesValid.f k l2).bind fun t115 => (some t115)) else (some false))) else (some false))
theorem spec_l14Fits.mono : ∀ a0 a1 a2 k,LeO (spec_l14Fits.f k a0 a1 a2) (spec_l14Fits.f (k + 1) a0 a1 a2):=by
 intro a0 a1 a2 k
 unfold spec_l14Fits.f
 repeat' first
   | (with_reducible exact spec_PulsesValid.mono _ _)
   | (with_reducible exact LeO.refl _)
   | (with_reducible exact LeO.none _)
   | (with_reducible refine LeO.ite ?_ ?_)
   | (with_reducible refine LeO.bind ?_ (fun _ => ?_))
   | exact spec_PulsesValid.mono _ _
   | exact LeO.none _
   | refine LeO.ite ?_ ?_
   | refine LeO.bind ?_ (fun _ => ?_)
set_option maxHeartbeats 8000000 in
set_option maxRecDepth 100000 in
theorem spec_l14Fits.calls (k : Nat) (a0 : Int) (a1 : Int) (A2 : Option Addr) (c2 : Nat) (l2 : List (S35)) (r : Bool) (w : World) (hr2 : Kd.C k35 w A2 l2.length l2) (hc2 : l2.length ≤ c2) (h : spec_l14Fits.f k a0 a1 l2 = some r) :
  Calls Try.prog 40 #[.int .i64 a0,.int .i64 a1,.slice A2 l2.length c2] w fun e w' => e = .returned (.bool r) ∧ Below w.heap.size w w':=by
 have HR2:=mk_ hr2
 have HC2:=mk_ hc2
 clear hr2 hc2
 have HB:=mk_ (Below.refl w.heap.size w)
 have H : ((spec_l1In.f a0 1 20).bind fun t113 => (if t113 = true then ((spec_l1In.f a1 1 100).bind fun t114 => (if t114 = true then ((spec_PulsesValid.f k l2).bind fun t115 => (some t115)) else (some false))) else (some false))) = some r:=h
 clear h
 replace H:=Option.bind_eq_some_iff.mp H
 obtain ⟨t113,A40,H⟩:=H
 replace H : (if t113 = true then ((spec_l1In.f a1 1 100).bind fun t114 => (if t114 = true then ((spec_PulsesValid.f k l2).bind fun t115 => (some t115)) else (some false))) else (some false)) = some r:=H
 have A4:=mk_ A40
 clear A40
 by_cases c5 : t113 = true
 ·subst c5
  have H1 : ((spec_l1In.f a1 1 100).bind fun t114 => (if t114 = true then ((spec_PulsesValid.f k l2).bind fun t115 => (some t115)) else (some false))) = some r:=by rw [if_pos rfl] at H;exact H
  clear H
  have H:=H1
  clear H1
  replace H:=Option.bind_eq_some_iff.mp H
  obtain ⟨t114,A60,H⟩:=H
  replace H : (if t114 = true then ((spec_PulsesValid.f k l2).bind fun t115 => (some t115)) else (some false)) = some r:=H
  have A6:=mk_ A60
  clear A60
  by_cases c7 : t114 = true
  ·subst c7
   have H1 : ((spec_PulsesValid.f k l2).bind fun t115 => (some t115)) = some r:=by rw [if_pos rfl] at H;exact H
   clear H
   have H:=H1
   clear H1
   replace H:=Option.bind_eq_some_iff.mp H
   obtain ⟨t115,A80,H⟩:=H
   replace H : (some t115) = some r:=H
   have A8:=mk_ A80
   clear A80
   obtain rfl:=Option.some.inj H
   go_enter Try.func40,Try.ntmps40
   go_wp2_with (first|((with_reducible refine gate_callee (f:=41) rfl ?_);refine goesL_ (some 8) rfl rfl Try.func41 (by kernel_rfl) rfl #[.int .i64 a0,.int .i64 1,.int .i64 20] rfl qm_ ?_;(with_reducible refine (spec_l1In.calls a0 1 20 true _ A4.out).mono ?_);rintro e w' ⟨rfl,⟨nd,rfl⟩⟩;refine ⟨_,rfl,?_⟩)|(go_at_call 41;(with_reducible refine (spec_l1In.calls a1 1 100 true _ A6.out).mono ?_);rintro e w' ⟨rfl,⟨nd,rfl⟩⟩)|(go_at_call 34;(with_reducible refine (spec_PulsesValid.calls k _ _ l2 t115 _ ?side1 ?side2 A8.out).mono ?_);(case side1 => repeat (first|exact HR2.out|(with_reducible refine ca_ ?_ _)|(with_reducible refine cn_ ?_ _)|(with_reducible refine cd_ ?_)));(case side2 => exact HC2.out);rintro e w9 ⟨rfl,hb⟩;have n0_:=mk_ (st_ (qb_ HB) hb);clear HB;have HB:=n0_;clear n0_;(try clear hb);(try clear hb2);(try clear hk);(try clear hi)))
   go_ret
   exact ⟨qe_,u0_ HB⟩
  ·replace c7:=Bool.eq_false_iff.mpr c7
   subst c7
   have H1 : (some false) = some r:=by rw [if_neg (show ¬ (false = true) by decide)] at H;exact H
   clear H
   have H:=H1
   clear H1
   obtain rfl:=Option.some.inj H
   go_enter Try.func40,Try.ntmps40
   go_wp2_with (first|((with_reducible refine gate_callee (f:=41) rfl ?_);refine goesL_ (some 8) rfl rfl Try.func41 (by kernel_rfl) rfl #[.int .i64 a0,.int .i64 1,.int .i64 20] rfl qm_ ?_;(with_reducible refine (spec_l1In.calls a0 1 20 true _ A4.out).mono ?_);rintro e w' ⟨rfl,⟨nd,rfl⟩⟩;refine ⟨_,rfl,?_⟩)|(go_at_call 41;(with_reducible refine (spec_l1In.calls a1 1 100 false _ A6.out).mono ?_);rintro e w' ⟨rfl,⟨nd,rfl⟩⟩))
   go_ret
   exact ⟨qe_,u0_ HB⟩
 ·replace c5:=Bool.eq_false_iff.mpr c5
  subst c5
  have H1 : (some false) = some r:=by rw [if_neg (show ¬ (false = true) by decide)] at H;exact H
  clear H
  have H:=H1
  clear H1
  obtain rfl:=Option.some.inj H
  go_enter Try.func40,Try.ntmps40
  go_wp2_with (first|((with_reducible refine gate_callee (f:=41) rfl ?_);refine goesL_ (some 8) rfl rfl Try.func41 (by kernel_rfl) rfl #[.int .i64 a0,.int .i64 1,.int .i64 20] rfl qm_ ?_;(with_reducible refine (spec_l1In.calls a0 1 20 false _ A4.out).mono ?_);rintro e w' ⟨rfl,⟨nd,rfl⟩⟩;refine ⟨_,rfl,?_⟩))
  go_ret
  exact ⟨qe_,u0_ HB⟩

/-! ### spec_PolicePulses: function 21 -/
def spec_PolicePulses.l0 : Nat → Int → Int → List (S35) → List Bool → Int → Int → Int → Option (List Bool)
 | 0,_,_,_,_,_,_,_ => none
 | k + 1,x0,x1,x2,x7,x8,x9,x10 => if x10 < (x2.length : Int) then (if 0 ≤ x10 then (if (mn x1 (wrap64 (x8 + (wrap64 (x0 * (wrap64 (((rd_T35 x2 x10).f0) - x9))))))) ≥ ((rd_T35 x2 x10).f1) then (if x7.length < 140737488355328 then (spec_PolicePulses.l0 k x0 x1 x2 (x7 ++ [decide ((mn x1 (wrap64 (x8 + (wrap64 (x0 * (wrap64 (((rd_T35 x2 x10).f0) - x9))))))) ≥ ((rd_T35 x2 x10).f1))]) (wrap64 ((mn x1 (wrap64 (x8 + (wrap64 (x0 * (wrap64 (((rd_T35 x2 x10).f0) - x9))))))) - ((rd_T35 x2 x10).f1))) ((rd_T35 x2 x10).f0) (wrap64 (x10 + 1))) else (none)) else (if x7.length < 140737488355328 then (spec_PolicePulses.l0 k x0 x1 x2 (x7 ++ [decide ((mn x1 (wrap64 (x8 + (wrap64 (x0 * (wrap64 (((rd_T35 x2 x10).f0) - x9))))))) ≥ ((rd_T35 x2 x10).f1))]) (mn x1 (wrap64 (x8 + (wrap64 (x0 * (wrap64 (((rd_T35 x2 x10).f0) - x9))))))) ((rd_T35 x2 x10).f0) (wrap64 (x10 + 1))) else (none))) else (none)) else (some x7)
def spec_PolicePulses.f (k : Nat) (a0 : Int) (a1 : Int) (l2 : List (S35)) : Option (List Bool):=(some (([] : List Bool) : List Bool)).bind fun y116 => ((spec_l14Fits.f k a0 a1 l2).bind fun t119 => (if t119 = true then (spec_PolicePulses.l0 k a0 a1 l2 y116 a1 0 0) else (some y116)))
theorem spec_PolicePulses.mono_l : ∀ k,(∀ y0 y1 y2 y3 y4 y5 y6,LeO (spec_PolicePulses.l0 k y0 y1 y2 y3 y4 y5 y6) (spec_PolicePulses.l0 (k + 1) y0 y1 y2 y3 y4 y5 y6))
 | 0 => fun _ _ _ _ _ _ _ r h => by simp [spec_PolicePulses.l0] at h
 | k + 1 => by
  have ih0:=spec_PolicePulses.mono_l k
  ·intro y0 y1 y2 y3 y4 y5 y6
   unfold spec_PolicePulses.l0
   repeat' first
   | (with_reducible exact ih0 _ _ _ _ _ _ _)
   | (with_reducible exact spec_l14Fits.mono _ _ _ _)
   | (with_reducible exact LeO.refl _)
   | (with_reducible exact LeO.none _)
   | (with_reducible refine LeO.ite ?_ ?_)
   | (with_reducible refine LeO.bind ?_ (fun _ => ?_))
   | exact ih0 _ _ _ _ _ _ _
   | exact spec_l14Fits.mono _ _ _ _
   | exact LeO.none _
   | refine LeO.ite ?_ ?_
   | refine LeO.bind ?_ (fun _ => ?_)
theorem spec_PolicePulses.mono : ∀ a0 a1 a2 k,LeO (spec_PolicePulses.f k a0 a1 a2) (spec_PolicePulses.f (k + 1) a0 a1 a2):=by
 intro a0 a1 a2 k
 have ih0:=spec_PolicePulses.mono_l k
 unfold spec_PolicePulses.f
 repeat' first
   | (with_reducible exact ih0 _ _ _ _ _ _ _)
   | (with_reducible exact spec_l14Fits.mono _ _ _ _)
   | (with_reducible exact LeO.refl _)
   | (with_reducible exact LeO.none _)
   | (with_reducible refine LeO.ite ?_ ?_)
   | (with_reducible refine LeO.bind ?_ (fun _ => ?_))
   | exact ih0 _ _ _ _ _ _ _
   | exact spec_l14Fits.mono _ _ _ _
   | exact LeO.none _
   | refine LeO.ite ?_ ?_
   | refine LeO.bind ?_ (fun _ => ?_)
set_option maxHeartbeats 8000000 in
set_option maxRecDepth 100000 in
theorem spec_PolicePulses.calls (k : Nat) (a0 : Int) (a1 : Int) (A2 : Option Addr) (c2 : Nat) (l2 : List (S35)) (r : List Bool) (w : World) (hr2 : Kd.C k35 w A2 l2.length l2) (hc2 : l2.length ≤ c2) (h : spec_PolicePulses.f k a0 a1 l2 = some r) :
  Calls Try.prog 21 #[.int .i64 a0,.int .i64 a1,.slice A2 l2.length c2] w fun e w' => ∃ v0_ : Value,e = .returned (v0_) ∧ Kd.R Kd.bool 4 w' w.heap.size (fun _ => True) v0_ r ∧ Below w.heap.size w w':=by
 have HR2:=mk_ hr2
 have HC2:=mk_ hc2
 clear hr2 hc2
 have HB:=mk_ (Below.refl w.heap.size w)
 have H : ((some (([] : List Bool) : List Bool)).bind fun y116 => ((spec_l14Fits.f k a0 a1 l2).bind fun t119 => (if t119 = true then (spec_PolicePulses.l0 k a0 a1 l2 y116 a1 0 0) else (some y116)))) = some r:=h
 clear h
 obtain ⟨y116,hy116⟩ : ∃ y_ : List Bool,y_ = (([] : List Bool)):=⟨_,rfl⟩
 replace H : ((spec_l14Fits.f k a0 a1 l2).bind fun t119 => (if t119 = true then (spec_PolicePulses.l0 k a0 a1 l2 y116 a1 0 0) else (some y116))) = some r:=by first|(rw [hy116];with_reducible exact H)|(have H2_:=(Option.bind_some _ _).symm.trans H;rw [hy116];with_reducible exact H2_)|(have H2_:=(Option.bind_some _ _).symm.trans H;with_reducible exact H2_)|with_reducible exact H|(rw [hy116];exact H)|exact H
 have Ny116:=mk_ hy116
 clear hy116
 replace H:=Option.bind_eq_some_iff.mp H
 obtain ⟨t119,A40,H⟩:=H
 replace H : (if t119 = true then (spec_PolicePulses.l0 k a0 a1 l2 y116 a1 0 0) else (some y116)) = some r:=H
 have A4:=mk_ A40
 clear A40
 by_cases c5 : t119 = true
 ·subst c5
  have H1 : (spec_PolicePulses.l0 k a0 a1 l2 y116 a1 0 0) = some r:=by rw [if_pos rfl] at H;exact H
  clear H
  have H:=H1
  clear H1
  have H':=mk_ H
  clear H
  go_enter Try.func21,Try.ntmps21
  go_wp2_with (first|((with_reducible refine gate_dst (N:=12) rfl ?_);refine Kd.R_lit Kd.bool _ 4 ?hg (N:=12) ?hd (xs:=([] : List Bool)) (inner:=[]) (ok:=fun _ => True) (okp:=fun _ => True) ?hr ?hp (fun _ hk => hk) trivial (Below.refl _ _) (Nat.le_refl _) (by simp) ?_;(case hd => rfl);(case hg => rfl);(case hr => first|(go_simp;done)|(go_simp;rfl));(case hp => exact (Reps.none _ _));intro v117 w6 ho7 hb hg_ hnew_;clear hg_ hnew_;(first|rw [← Ny116.out] at ho7|(simp only [Int.reduceToNat] at ho7;rw [← Ny116.out] at ho7));have n0_:=mk_ (Kd.R_lower ho7 (bz_ (qb_ HB)));have n1_:=mk_ (st_ (qb_ HB) hb);clear HB;have HO118:=n0_;have HB:=n1_;clear n0_ n1_ hb ho7)|((with_reducible refine gate_callee (f:=40) rfl ?_);refine goesL_ (some 16) rfl rfl Try.func40 (by kernel_rfl) rfl #[.int .i64 a0,.int .i64 a1,.slice A2 l2.length c2] rfl qm_ ?_;(with_reducible refine (spec_l14Fits.calls k a0 a1 _ _ l2 true _ ?side1 ?side2 A4.out).mono ?_);(case side1 => exact qn_ HR2 HB);(case side2 => exact HC2.out);rintro e w8 ⟨rfl,hb⟩;refine ⟨_,rfl,?_⟩;have n0_:=mk_ (rb_ (qr_ HO118) hb);have n1_:=mk_ (st_ (qb_ HB) hb);clear HO118 HB;have HO118:=n0_;have HB:=n1_;clear n0_ n1_;(try clear hb);(try clear hb2);(try clear hk);(try clear hi)))
  go_loopg [7,8,9,10] k (fun kq v7 v8 v9 v10 w' => ∃ (x7_1 : List Bool) (x8_1 : Int) (x9_1 : Int) (x10_1 : Int),v8 = .int .i64 x8_1 ∧ v9 = .int .i64 x9_1 ∧ v10 = .int .i64 x10_1 ∧ Aside0 (spec_PolicePulses.l0 kq a0 a1 l2 x7_1 x8_1 x9_1 x10_1 = some r) ∧ Aside0 (kq ≤ k) ∧ Aside0 (Kd.R Kd.bool 4 w' w.heap.size (fun _ => True) v7 x7_1) ∧ Aside0 (Below w.heap.size w w'))
  case atStart => exact ⟨(y116),(a1),(0),(0),qf_,qf_,qf_,H',⟨Nat.le_refl _⟩,⟨qr_ HO118⟩,⟨u0_ HB⟩⟩
  case round =>
   clear H'
   try clear c2
   try clear p2
   try clear c4
   try clear c5
   obtain ⟨x7_1,x8_1,x9_1,x10_1,rfl,rfl,rfl,HA,HK1,HO_7,HB⟩:=hrel
   cases gk with
   | zero => exact absurd HA.out (by simp [spec_PolicePulses.l0])
   | succ k1 =>
    have H:=HA.out
    clear HA
    simp only [spec_PolicePulses.l0] at H
    by_cases c9 : x10_1 < (l2.length : Int)
    ·rw [if_pos c9] at H
     have c9b0 : decide (x10_1 < (l2.length : Int)) = true:=decide_eq_true c9
     clear c9
     by_cases c10 : 0 ≤ x10_1
     ·rw [if_pos c10] at H
      have c10b0 : decide (0 ≤ x10_1) = true:=decide_eq_true c10
      clear c10
      obtain ⟨ji11,hji11⟩ : ∃ j_ : Int,(mn a1 (wrap64 (x8_1 + (wrap64 (a0 * (wrap64 (((rd_T35 l2 x10_1).f0) - x9_1))))))) = j_:=⟨_,rfl⟩
      replace H : (if (ji11) ≥ ((rd_T35 l2 x10_1).f1) then (if x7_1.length < 140737488355328 then (spec_PolicePulses.l0 k1 a0 a1 l2 (x7_1 ++ [decide ((ji11) ≥ ((rd_T35 l2 x10_1).f1))]) (wrap64 ((ji11) - ((rd_T35 l2 x10_1).f1))) ((rd_T35 l2 x10_1).f0) (wrap64 (x10_1 + 1))) else (none)) else (if x7_1.length < 140737488355328 then (spec_PolicePulses.l0 k1 a0 a1 l2 (x7_1 ++ [decide ((ji11) ≥ ((rd_T35 l2 x10_1).f1))]) ji11 ((rd_T35 l2 x10_1).f0) (wrap64 (x10_1 + 1))) else (none))) = some r:=by first|(rw [hji11] at H;exact H)|(simp only [hji11] at H ⊢;exact H)
      have hji11_ : (if (wrap64 (x8_1 + (wrap64 (a0 * (wrap64 (((rd_T35 l2 x10_1).f0) - x9_1)))))) < a1 then (wrap64 (x8_1 + (wrap64 (a0 * (wrap64 (((rd_T35 l2 x10_1).f0) - x9_1)))))) else a1) = ji11:=hji11
      by_cases c12 : (ji11) ≥ ((rd_T35 l2 x10_1).f1)
      ·rw [if_pos c12] at H
       have c12b0 : decide (((rd_T35 l2 x10_1).f1) ≤ (ji11)) = true:=decide_eq_true c12
       clear c12
       by_cases c13 : x7_1.length < 140737488355328
       ·rw [if_pos c13] at H
        have LMc13:=mk_ c13
        clear c13
        obtain ⟨y124,hy124⟩ : ∃ y_ : List Bool,y_ = (x7_1 ++ [decide ((ji11) ≥ ((rd_T35 l2 x10_1).f1))]):=⟨_,rfl⟩
        replace H : (spec_PolicePulses.l0 k1 a0 a1 l2 y124 (wrap64 ((ji11) - ((rd_T35 l2 x10_1).f1))) ((rd_T35 l2 x10_1).f0) (wrap64 (x10_1 + 1))) = some r:=by first|(rw [hy124];with_reducible exact H)|(have H2_:=(Option.bind_some _ _).symm.trans H;rw [hy124];with_reducible exact H2_)|(have H2_:=(Option.bind_some _ _).symm.trans H;with_reducible exact H2_)|with_reducible exact H|(rw [hy124];exact H)|exact H
        have Ny124 : Aside0 (y124 = x7_1 ++ [true]):=⟨by rw [hy124,show decide ((ji11) ≥ ((rd_T35 l2 x10_1).f1)) = true from c12b0]⟩
        clear hy124
        have H':=mk_ H
        clear H
        have p120 : 0 ≤ (x10_1 : Int):=od_ qa_
        have q120 : x10_1 < (l2.length : Int):=od_ qa_
        obtain ⟨ad120,e120,hx120_0,hx120_1⟩:=at_T35 HR2.out x10_1 p120 q120
        cases e120
        replace hx120_0:=(HB.out.cell (wl_ w _ hx120_0)).trans hx120_0
        replace hx120_1:=(HB.out.cell (wl_ w _ hx120_1)).trans hx120_1
        replace p120:=eq_true p120
        replace q120:=eq_true q120
        have p121 : 0 ≤ (x10_1 : Int):=od_ qa_
        have q121 : x10_1 < (l2.length : Int):=od_ qa_
        obtain ⟨ad121,e121,hx121_0,hx121_1⟩:=at_T35 HR2.out x10_1 p121 q121
        obtain rfl : ad120 = ad121:=(by injection e121)
        replace hx121_0:=(HB.out.cell (wl_ w _ hx121_0)).trans hx121_0
        replace hx121_1:=(HB.out.cell (wl_ w _ hx121_1)).trans hx121_1
        replace p121:=eq_true p121
        replace q121:=eq_true q121
        have p122 : 0 ≤ (x10_1 : Int):=od_ qa_
        have q122 : x10_1 < (l2.length : Int):=od_ qa_
        obtain ⟨ad122,e122,hx122_0,hx122_1⟩:=at_T35 HR2.out x10_1 p122 q122
        obtain rfl : ad120 = ad122:=(by injection e122)
        replace hx122_0:=(HB.out.cell (wl_ w _ hx122_0)).trans hx122_0
        replace hx122_1:=(HB.out.cell (wl_ w _ hx122_1)).trans hx122_1
        replace p122:=eq_true p122
        replace q122:=eq_true q122
        have p123 : 0 ≤ (x10_1 : Int):=od_ qa_
        have q123 : x10_1 < (l2.length : Int):=od_ qa_
        obtain ⟨ad123,e123,hx123_0,hx123_1⟩:=at_T35 HR2.out x10_1 p123 q123
        obtain rfl : ad120 = ad123:=(by injection e123)
        replace hx123_0:=(HB.out.cell (wl_ w _ hx123_0)).trans hx123_0
        replace hx123_1:=(HB.out.cell (wl_ w _ hx123_1)).trans hx123_1
        replace p123:=eq_true p123
        replace q123:=eq_true q123
        go_wp2_with (first|((with_reducible refine gate_builtin (b:=.append) (xs:=#[.tmp 59,.tmp 61]) rfl ?_);at_builtin;refine Kd.R_append Kd.bool (w0:=w) w.heap.size rfl (.tmp 59) (.tmp 61) 32 4 (.bool false) 1 rfl Try.underlying32 info4 rfl (by decide) (by omega) u7 x7_1 true [.bool true] (fun _ => True) (fun _ => False) rfl rfl ?aP (fun _ hk => hk.elim) ?aF ?aO ?aB ?aS ?aL ?_;(case aP => exact rfl);(case aB => exact (qb_ HB));(case aF => exact (fun _ _ => trivial));(case aO => exact (qr_ HO_7));(case aS => exact (bz_ (qb_ HB)));(case aL => have:=LMc13.out;omega);intro v125 w14 ho hb hg hat;rw [← Ny124.out] at ho;have n0_:=mk_ (hb);have n1_:=mk_ (ho);clear HB HO_7;have HB:=n0_;have HO126:=n1_;clear n0_ n1_ ho hb hg hat))
        go_roundg k1
        case measure => have:=HK1.out;omega
        case rel => exact ⟨(y124),(wrap64 ((ji11) - ((rd_T35 l2 x10_1).f1))),((rd_T35 l2 x10_1).f0),(wrap64 (x10_1 + 1)),(by first|rfl|(simp;done)|(simp only [← hji11] <;> (first|rfl|simp))|(simp [*];done)),qf_,qf_,H',⟨by have:=HK1.out;omega⟩,⟨qr_ HO126⟩,⟨u0_ HB⟩⟩
       ·rw [if_neg c13] at H
        exact absurd H (by simp)
      ·rw [if_neg c12] at H
       have c12b0 : decide (((rd_T35 l2 x10_1).f1) ≤ (ji11)) = false:=decide_eq_false c12
       clear c12
       by_cases c15 : x7_1.length < 140737488355328
       ·rw [if_pos c15] at H
        have LMc15:=mk_ c15
        clear c15
        obtain ⟨y127,hy127⟩ : ∃ y_ : List Bool,y_ = (x7_1 ++ [decide ((ji11) ≥ ((rd_T35 l2 x10_1).f1))]):=⟨_,rfl⟩
        replace H : (spec_PolicePulses.l0 k1 a0 a1 l2 y127 ji11 ((rd_T35 l2 x10_1).f0) (wrap64 (x10_1 + 1))) = some r:=by first|(rw [hy127];with_reducible exact H)|(have H2_:=(Option.bind_some _ _).symm.trans H;rw [hy127];with_reducible exact H2_)|(have H2_:=(Option.bind_some _ _).symm.trans H;with_reducible exact H2_)|with_reducible exact H|(rw [hy127];exact H)|exact H
        have Ny127 : Aside0 (y127 = x7_1 ++ [false]):=⟨by rw [hy127,show decide ((ji11) ≥ ((rd_T35 l2 x10_1).f1)) = false from c12b0]⟩
        clear hy127
        have H':=mk_ H
        clear H
        have p120 : 0 ≤ (x10_1 : Int):=od_ qa_
        have q120 : x10_1 < (l2.length : Int):=od_ qa_
        obtain ⟨ad120,e120,hx120_0,hx120_1⟩:=at_T35 HR2.out x10_1 p120 q120
        cases e120
        replace hx120_0:=(HB.out.cell (wl_ w _ hx120_0)).trans hx120_0
        replace hx120_1:=(HB.out.cell (wl_ w _ hx120_1)).trans hx120_1
        replace p120:=eq_true p120
        replace q120:=eq_true q120
        have p121 : 0 ≤ (x10_1 : Int):=od_ qa_
        have q121 : x10_1 < (l2.length : Int):=od_ qa_
        obtain ⟨ad121,e121,hx121_0,hx121_1⟩:=at_T35 HR2.out x10_1 p121 q121
        obtain rfl : ad120 = ad121:=(by injection e121)
        replace hx121_0:=(HB.out.cell (wl_ w _ hx121_0)).trans hx121_0
        replace hx121_1:=(HB.out.cell (wl_ w _ hx121_1)).trans hx121_1
        replace p121:=eq_true p121
        replace q121:=eq_true q121
        have p122 : 0 ≤ (x10_1 : Int):=od_ qa_
        have q122 : x10_1 < (l2.length : Int):=od_ qa_
        obtain ⟨ad122,e122,hx122_0,hx122_1⟩:=at_T35 HR2.out x10_1 p122 q122
        obtain rfl : ad120 = ad122:=(by injection e122)
        replace hx122_0:=(HB.out.cell (wl_ w _ hx122_0)).trans hx122_0
        replace hx122_1:=(HB.out.cell (wl_ w _ hx122_1)).trans hx122_1
        replace p122:=eq_true p122
        replace q122:=eq_true q122
        go_wp2_with (first|((with_reducible refine gate_builtin (b:=.append) (xs:=#[.tmp 59,.tmp 61]) rfl ?_);at_builtin;refine Kd.R_append Kd.bool (w0:=w) w.heap.size rfl (.tmp 59) (.tmp 61) 32 4 (.bool false) 1 rfl Try.underlying32 info4 rfl (by decide) (by omega) u7 x7_1 false [.bool false] (fun _ => True) (fun _ => False) rfl rfl ?aP (fun _ hk => hk.elim) ?aF ?aO ?aB ?aS ?aL ?_;(case aP => exact rfl);(case aB => exact (qb_ HB));(case aF => exact (fun _ _ => trivial));(case aO => exact (qr_ HO_7));(case aS => exact (bz_ (qb_ HB)));(case aL => have:=LMc15.out;omega);intro v128 w16 ho hb hg hat;rw [← Ny127.out] at ho;have n0_:=mk_ (hb);have n1_:=mk_ (ho);clear HB HO_7;have HB:=n0_;have HO129:=n1_;clear n0_ n1_ ho hb hg hat))
        go_roundg k1
        case measure => have:=HK1.out;omega
        case rel => exact ⟨(y127),(ji11),((rd_T35 l2 x10_1).f0),(wrap64 (x10_1 + 1)),(by first|rfl|(simp;done)|(simp only [← hji11] <;> (first|rfl|simp))|(simp [*];done)),qf_,qf_,H',⟨by have:=HK1.out;omega⟩,⟨qr_ HO129⟩,⟨u0_ HB⟩⟩
       ·rw [if_neg c15] at H
        exact absurd H (by simp)
     ·rw [if_neg c10] at H
      exact absurd H (by simp)
    ·rw [if_neg c9] at H
     have c9b0 : decide (x10_1 < (l2.length : Int)) = false:=decide_eq_false c9
     clear c9
     obtain rfl:=Option.some.inj H
     go_wp2
     go_ret
     exact ⟨_,qe_,qr_ HO_7,u0_ HB⟩
 ·replace c5:=Bool.eq_false_iff.mpr c5
  subst c5
  have H1 : (some y116) = some r:=by rw [if_neg (show ¬ (false = true) by decide)] at H;exact H
  clear H
  have H:=H1
  clear H1
  obtain rfl:=Option.some.inj H
  go_enter Try.func21,Try.ntmps21
  go_wp2_with (first|((with_reducible refine gate_dst (N:=12) rfl ?_);refine Kd.R_lit Kd.bool _ 4 ?hg (N:=12) ?hd (xs:=([] : List Bool)) (inner:=[]) (ok:=fun _ => True) (okp:=fun _ => True) ?hr ?hp (fun _ hk => hk) trivial (Below.refl _ _) (Nat.le_refl _) (by simp) ?_;(case hd => rfl);(case hg => rfl);(case hr => first|(go_simp;done)|(go_simp;rfl));(case hp => exact (Reps.none _ _));intro v117 w17 ho18 hb hg_ hnew_;clear hg_ hnew_;(first|rw [← Ny116.out] at ho18|(simp only [Int.reduceToNat] at ho18;rw [← Ny116.out] at ho18));have n0_:=mk_ (Kd.R_lower ho18 (bz_ (qb_ HB)));have n1_:=mk_ (st_ (qb_ HB) hb);clear HB;have HO118:=n0_;have HB:=n1_;clear n0_ n1_ hb ho18)|((with_reducible refine gate_callee (f:=40) rfl ?_);refine goesL_ (some 16) rfl rfl Try.func40 (by kernel_rfl) rfl #[.int .i64 a0,.int .i64 a1,.slice A2 l2.length c2] rfl qm_ ?_;(with_reducible refine (spec_l14Fits.calls k a0 a1 _ _ l2 false _ ?side1 ?side2 A4.out).mono ?_);(case side1 => exact qn_ HR2 HB);(case side2 => exact HC2.out);rintro e w19 ⟨rfl,hb⟩;refine ⟨_,rfl,?_⟩;have n0_:=mk_ (rb_ (qr_ HO118) hb);have n1_:=mk_ (st_ (qb_ HB) hb);clear HO118 HB;have HO118:=n0_;have HB:=n1_;clear n0_ n1_;(try clear hb);(try clear hb2);(try clear hk);(try clear hi)))
  go_ret
  exact ⟨_,qe_,qr_ HO118,u0_ HB⟩

/-! ### spec_Conforms: function 23 -/
def spec_Conforms.l0 : Nat → Int → Int → List (S35) → List Bool → Int → Option (Bool)
 | 0,_,_,_,_,_ => none
 | k + 1,x0,x1,x2,x7,x8 => if x8 < (x7.length : Int) then (if 0 ≤ x8 then (if rdOf false x7 x8 = true then (spec_Conforms.l0 k x0 x1 x2 x7 (wrap64 (x8 + 1))) else (some false)) else (none)) else ((spec_l14Fits.f k x0 x1 x2).bind fun t134 => (some t134))
def spec_Conforms.f (k : Nat) (a0 : Int) (a1 : Int) (l2 : List (S35)) : Option (Bool):=(spec_PolicePulses.f k a0 a1 l2).bind fun t130 => (spec_Conforms.l0 k a0 a1 l2 t130 0)
theorem spec_Conforms.mono_l : ∀ k,(∀ y0 y1 y2 y3 y4,LeO (spec_Conforms.l0 k y0 y1 y2 y3 y4) (spec_Conforms.l0 (k + 1) y0 y1 y2 y3 y4))
 | 0 => fun _ _ _ _ _ r h => by simp [spec_Conforms.l0] at h
 | k + 1 => by
  have ih0:=spec_Conforms.mono_l k
  ·intro y0 y1 y2 y3 y4
   unfold spec_Conforms.l0
   repeat' first
   | (with_reducible exact ih0 _ _ _ _ _)
   | (with_reducible exact spec_PolicePulses.mono _ _ _ _)
   | (with_reducible exact spec_l14Fits.mono _ _ _ _)
   | (with_reducible exact LeO.refl _)
   | (with_reducible exact LeO.none _)
   | (with_reducible refine LeO.ite ?_ ?_)
   | (with_reducible refine LeO.bind ?_ (fun _ => ?_))
   | exact ih0 _ _ _ _ _
   | exact spec_PolicePulses.mono _ _ _ _
   | exact spec_l14Fits.mono _ _ _ _
   | exact LeO.none _
   | refine LeO.ite ?_ ?_
   | refine LeO.bind ?_ (fun _ => ?_)
theorem spec_Conforms.mono : ∀ a0 a1 a2 k,LeO (spec_Conforms.f k a0 a1 a2) (spec_Conforms.f (k + 1) a0 a1 a2):=by
 intro a0 a1 a2 k
 have ih0:=spec_Conforms.mono_l k
 unfold spec_Conforms.f
 repeat' first
   | (with_reducible exact ih0 _ _ _ _ _)
   | (with_reducible exact spec_PolicePulses.mono _ _ _ _)
   | (with_reducible exact spec_l14Fits.mono _ _ _ _)
   | (with_reducible exact LeO.refl _)
   | (with_reducible exact LeO.none _)
   | (with_reducible refine LeO.ite ?_ ?_)
   | (with_reducible refine LeO.bind ?_ (fun _ => ?_))
   | exact ih0 _ _ _ _ _
   | exact spec_PolicePulses.mono _ _ _ _
   | exact spec_l14Fits.mono _ _ _ _
   | exact LeO.none _
   | refine LeO.ite ?_ ?_
   | refine LeO.bind ?_ (fun _ => ?_)
set_option maxHeartbeats 8000000 in
set_option maxRecDepth 100000 in
theorem spec_Conforms.calls (k : Nat) (a0 : Int) (a1 : Int) (A2 : Option Addr) (c2 : Nat) (l2 : List (S35)) (r : Bool) (w : World) (hr2 : Kd.C k35 w A2 l2.length l2) (hc2 : l2.length ≤ c2) (h : spec_Conforms.f k a0 a1 l2 = some r) :
  Calls Try.prog 23 #[.int .i64 a0,.int .i64 a1,.slice A2 l2.length c2] w fun e w' => e = .returned (.bool r) ∧ Below w.heap.size w w':=by
 have HR2:=mk_ hr2
 have HC2:=mk_ hc2
 clear hr2 hc2
 have HB:=mk_ (Below.refl w.heap.size w)
 have H : ((spec_PolicePulses.f k a0 a1 l2).bind fun t130 => (spec_Conforms.l0 k a0 a1 l2 t130 0)) = some r:=h
 clear h
 replace H:=Option.bind_eq_some_iff.mp H
 obtain ⟨t130,A40,H⟩:=H
 replace H : (spec_Conforms.l0 k a0 a1 l2 t130 0) = some r:=H
 have A4:=mk_ A40
 clear A40
 have H':=mk_ H
 clear H
 go_enter Try.func23,Try.ntmps23
 go_wp2_with (first|((with_reducible refine gate_callee (f:=21) rfl ?_);refine goesL_ (some 12) rfl rfl Try.func21 (by kernel_rfl) rfl #[.int .i64 a0,.int .i64 a1,.slice A2 l2.length c2] rfl qm_ ?_;(with_reducible refine (spec_PolicePulses.calls k a0 a1 _ _ l2 t130 _ ?side1 ?side2 A4.out).mono ?_);(case side1 => repeat (first|exact HR2.out|(with_reducible refine ca_ ?_ _)|(with_reducible refine cn_ ?_ _)|(with_reducible refine cd_ ?_)));(case side2 => exact HC2.out);rintro e w5 ⟨v131,rfl,ho0,hb⟩;refine ⟨_,rfl,?_⟩;have n0_:=mk_ (Kd.R_lower ho0 (bz_ (qb_ HB)));have n1_:=mk_ (st_ (qb_ HB) hb);clear HB;have HO132:=n0_;have HB:=n1_;clear n0_ n1_;(try clear hb);(try clear hb2);(try clear hk);(try clear hi);(try clear ho0)))
 go_loopg [8] k (fun kq v8 w' => ∃ (x8_1 : Int),v8 = .int .i64 x8_1 ∧ Aside0 (spec_Conforms.l0 kq a0 a1 l2 t130 x8_1 = some r) ∧ Aside0 (kq ≤ k) ∧ Aside0 (Kd.R Kd.bool 4 w' w.heap.size (fun _ => True) v131 t130) ∧ Aside0 (Below w.heap.size w w'))
 case atStart => exact ⟨(0),qf_,H',⟨Nat.le_refl _⟩,⟨qr_ HO132⟩,⟨u0_ HB⟩⟩
 case round =>
  clear H'
  try clear c2
  try clear p2
  obtain ⟨x8_1,rfl,HA,HK1,HO_7,HB⟩:=hrel
  cases gk with
  | zero => exact absurd HA.out (by simp [spec_Conforms.l0])
  | succ k1 =>
   have H:=HA.out
   clear HA
   simp only [spec_Conforms.l0] at H
   by_cases c6 : x8_1 < (t130.length : Int)
   ·rw [if_pos c6] at H
    have c6b0 : decide (x8_1 < (t130.length : Int)) = true:=decide_eq_true c6
    clear c6
    by_cases c7 : 0 ≤ x8_1
    ·rw [if_pos c7] at H
     have c7b0 : decide (0 ≤ x8_1) = true:=decide_eq_true c7
     clear c7
     obtain ⟨bq8,hbq8⟩ : ∃ b_ : Bool,b_ = (rdOf false t130 x8_1):=⟨_,rfl⟩
     replace H : (if bq8 = true then (spec_Conforms.l0 k1 a0 a1 l2 t130 (wrap64 (x8_1 + 1))) else (some false)) = some r:=by rw [← hbq8] at H;exact H
     have Nbq8:=mk_ hbq8
     clear hbq8
     by_cases c9 : bq8 = true
     ·subst c9
      have H1 : (spec_Conforms.l0 k1 a0 a1 l2 t130 (wrap64 (x8_1 + 1))) = some r:=by rw [if_pos rfl] at H;exact H
      clear H
      have H:=H1
      clear H1
      have H':=mk_ H
      clear H
      obtain ⟨Ao10,co10,eo10⟩:=Kd.R_slice HO_7.out
      subst eo10
      have p133 : 0 ≤ (x8_1 : Int):=od_ qa_
      have q133 : x8_1 < (t130.length : Int):=od_ qa_
      obtain ⟨ad133,e133,hx133_0⟩:=Kd.at_bool (rr_ HO_7.out).2.2 x8_1 p133 q133
      (try rw [← Nbq8.out] at hx133_0)
      cases e133
      replace p133:=eq_true p133
      replace q133:=eq_true q133
      go_wp2
      go_roundg k1
      case measure => have:=HK1.out;omega
      case rel => exact ⟨(wrap64 (x8_1 + 1)),qf_,H',⟨by have:=HK1.out;omega⟩,⟨qr_ HO_7⟩,⟨u0_ HB⟩⟩
     ·replace c9:=Bool.eq_false_iff.mpr c9
      subst c9
      have H1 : (some false) = some r:=by rw [if_neg (show ¬ (false = true) by decide)] at H;exact H
      clear H
      have H:=H1
      clear H1
      obtain rfl:=Option.some.inj H
      obtain ⟨Ao11,co11,eo11⟩:=Kd.R_slice HO_7.out
      subst eo11
      have p133 : 0 ≤ (x8_1 : Int):=od_ qa_
      have q133 : x8_1 < (t130.length : Int):=od_ qa_
      obtain ⟨ad133,e133,hx133_0⟩:=Kd.at_bool (rr_ HO_7.out).2.2 x8_1 p133 q133
      (try rw [← Nbq8.out] at hx133_0)
      cases e133
      replace p133:=eq_true p133
      replace q133:=eq_true q133
      go_wp2
      go_ret
      exact ⟨qe_,u0_ HB⟩
    ·rw [if_neg c7] at H
     exact absurd H (by simp)
   ·rw [if_neg c6] at H
    have c6b0 : decide (x8_1 < (t130.length : Int)) = false:=decide_eq_false c6
    clear c6
    replace H:=Option.bind_eq_some_iff.mp H
    obtain ⟨t134,A120,H⟩:=H
    replace H : (some t134) = some r:=H
    have A12:=mk_ A120
    clear A120
    obtain rfl:=Option.some.inj H
    obtain ⟨Ao13,co13,eo13⟩:=Kd.R_slice HO_7.out
    subst eo13
    go_wp2_with (first|((with_reducible refine gate_callee (f:=40) rfl ?_);refine goesL_ (some 27) rfl rfl Try.func40 (by kernel_rfl) rfl #[.int .i64 a0,.int .i64 a1,.slice A2 l2.length c2] rfl qm_ ?_;(with_reducible refine (spec_l14Fits.calls k1 a0 a1 _ _ l2 t134 _ ?side1 ?side2 A12.out).mono ?_);(case side1 => exact qn_ HR2 HB);(case side2 => exact HC2.out);rintro e w14 ⟨rfl,hb⟩;refine ⟨_,rfl,?_⟩;have n0_:=mk_ (rb_ (qr_ HO_7) hb);have n1_:=mk_ (st_ (qb_ HB) hb);clear HO_7 HB;have HO_7:=n0_;have HB:=n1_;clear n0_ n1_;(try clear hb);(try clear hb2);(try clear hk);(try clear hi)))
    go_ret
    exact ⟨qe_,u0_ HB⟩

end Go.Proofs.Ytfbicfnokibobaa.PAll
