/- Proved here: contracts of functions of the given program, or lemmas on them, for the laws of this seat. Written by xprint.py, a program of this session, on the ground of the kit's print; parts by hand: wip/x/ext. -/
import Derived.Test.YtdamdcdjodmemaaPAllx0
import Derived.Test.YtdamdcdjodmemaaPAllx1
import Derived.Test.YtdamdcdjodmemaaPAllx2
namespace Go.Proofs.Ytdamdcdjodmemaa.PAll
open Go.RowKit Go.Proofs.YtdamdcdjodmemaaW.PrintWords Go.Proofs.YtdamdcdjodmemaaW.PrintLast Go.Proofs.YtdamdcdjodmemaaW.PrintMore
attribute [local go_sem] max2_int min2_int max_two min_two max_three min_three max_four min_four   -- for this text's walks alone
set_option linter.unusedVariables false
set_option linter.unusedSimpArgs false

/-! ### impl_NetValid: function 15 (by hand) -/
/-- A bridge of so many;a network. -/
def brB (n x : Int) : Bool:=decide (0 ≤ x) && decide (x ≤ wrap64 (n - 1))
def vlB (x : Int) : Bool:=decide (1 ≤ x) && decide (x ≤ 9)
def netB (n : Int) (cs : List S51) (hs vs : List Int) : Bool:=cabsB n cs && (decide (hs.length ≤ 15) && (decide (vs.length = hs.length) && (hs.all (brB n) && vs.all vlB)))
set_option maxHeartbeats 4000000 in
set_option maxRecDepth 100000 in
theorem x_NetValid_1 {n : Int} {b : Nat} {w : World} (hb : b < w.heap.size) (hc : w.cell? ⟨b,0,none⟩ = some (.int .i64 n)) :
  PredB Try.prog 47 #[.pointer (some ⟨b,0,none⟩)] (Value.int .i64) (brB n) w:=by
 intro W x hB
 have hc':=(hB.cell (p:=⟨b,0,none⟩) hb).trans hc
 have hu:=Try.underlying30
 have hw:=x_win x 0 (wrap64 (n - 1)) W
 have HZ : Aside0 (brB n x = (decide (0 ≤ x) && decide (x ≤ wrap64 (n - 1)))):=⟨rfl⟩
 clear hc hB hb
 generalize brB n x = z at HZ ⊢
 generalize (decide (0 ≤ x) && decide (x ≤ wrap64 (n - 1))) = z2 at HZ hw
 obtain ⟨x1,hx1⟩ : ∃ x1,x1 = wrap64 (n - 1):=⟨_,rfl⟩
 rw [← hx1] at hw
 have y1 : IntKind.i64.wrap (n - 1) = x1:=(i64_w _).trans hx1.symm
 clear hx1
 go_enter Try.func47,Try.ntmps47
 go_wp2_with fail
 refine hw.mono ?_
 rintro e w' ⟨rfl,hb'⟩
 go_wp2_with fail
 go_ret
 exact ⟨by rw [HZ.out];rfl,hb'⟩
theorem isNet_eq (x : Int) : impl_isNetwork.f x = some (vlB x):=by
 unfold impl_isNetwork.f
 rw [win_is]
 rfl
theorem x_isNet (w : World) : PredB Try.prog 49 #[] (Value.int .i64) vlB w:=by
 intro W x hB
 exact (impl_isNetwork.calls x _ W (isNet_eq x)).mono fun e w' ⟨he,hd⟩ => ⟨he,hd.below⟩
def impl_NetValid.f (a0_0 : Int) (l0_1 : List (S51)) (l0_2 : List Int) (l0_3 : List Int) : Option (Bool) :=
 some (netB a0_0 l0_1 l0_2 l0_3)
set_option maxHeartbeats 4000000 in
set_option maxRecDepth 100000 in
theorem impl_NetValid.calls (a0_0 : Int) (A0_1 : Option Addr) (c0_1 : Nat) (l0_1 : List (S51)) (A0_2 : Option Addr) (c0_2 : Nat) (l0_2 : List Int) (A0_3 : Option Addr) (c0_3 : Nat) (l0_3 : List Int) (r : Bool) (w : World) (hr0_1 : Kd.C k51 w A0_1 l0_1.length l0_1) (hc0_1 : l0_1.length ≤ c0_1) (hr0_2 : Kd.C (Kd.int .i64) w A0_2 l0_2.length l0_2) (hc0_2 : l0_2.length ≤ c0_2) (hr0_3 : Kd.C (Kd.int .i64) w A0_3 l0_3.length l0_3) (hc0_3 : l0_3.length ≤ c0_3) (h : impl_NetValid.f a0_0 l0_1 l0_2 l0_3 = some r) :
  Calls Try.prog 15 #[.agg #[.int .i64 a0_0,.slice A0_1 l0_1.length c0_1,.slice A0_2 l0_2.length c0_2,.slice A0_3 l0_3.length c0_3]] w fun e w' => e = .returned (.bool r) ∧ Below w.heap.size w w':=by
 obtain rfl:=Option.some.inj h
 have hu:=Try.underlying30
 have hl2:=Kd.C_max hr0_2
 have hl3:=Kd.C_max hr0_3
 have hmf : ∀ (fn : Fn) (first cap : Array Value) (w : World),(Instr.makeFunc fn first cap).run Try.prog w = .ok (.func fn first cap) w:=fun _ _ _ _ => rfl
 have hb0 : Below w.heap.size w (w.alloc (.cells #[.int .i64 a0_0,.slice A0_1 l0_1.length c0_1,.slice A0_2 l0_2.length c0_2,.slice A0_3 l0_3.length c0_3] 30)):=(Below.refl _ w).alloc (Nat.le_refl _) _
 have hn0:=blk_new w (.cells #[.int .i64 a0_0,.slice A0_1 l0_1.length c0_1,.slice A0_2 l0_2.length c0_2,.slice A0_3 l0_3.length c0_3] 30)
 have hsz : w.heap.size < (w.alloc (.cells #[.int .i64 a0_0,.slice A0_1 l0_1.length c0_1,.slice A0_2 l0_2.length c0_2,.slice A0_3 l0_3.length c0_3] 30)).heap.size:=by simp
 obtain ⟨W0,hW0⟩ : ∃ W0,W0 = w.alloc (.cells #[.int .i64 a0_0,.slice A0_1 l0_1.length c0_1,.slice A0_2 l0_2.length c0_2,.slice A0_3 l0_3.length c0_3] 30):=⟨_,rfl⟩
 rw [← hW0] at hb0 hn0 hsz
 have hp0 : PredB Try.prog 47 #[.pointer (some ⟨w.heap.size,0,none⟩)] (Value.int .i64) (brB a0_0) W0:=x_NetValid_1 hsz ((bc_ hn0 0).trans rfl)
 have hcv:=impl_CablesValid.calls a0_0 A0_1 c0_1 l0_1 _ W0 (cb_ hr0_1 hb0) hc0_1 rfl
 have HA : Aside0 (∀ W,Below W0.heap.size W0 W → Calls Try.prog 46 #[.slice A0_2 l0_2.length c0_2,.func (.func 47) #[] #[.pointer (some ⟨w.heap.size,0,none⟩)]] W fun e w' => e = .returned (.bool (l0_2.all (brB a0_0))) ∧ Below W.heap.size W w'):=⟨fun W hW => x_all_int (brB a0_0) 47 _ (enters_of Try.func47 (by kernel_rfl) rfl) A0_2 c0_2 l0_2 W (hp0.later hW) (cb_ hr0_2 (st_ hb0 hW))⟩
 have HV : Aside0 (∀ W,Below W0.heap.size W0 W → Calls Try.prog 46 #[.slice A0_3 l0_3.length c0_3,.func (.func 49) #[] #[]] W fun e w' => e = .returned (.bool (l0_3.all vlB)) ∧ Below W.heap.size W w'):=⟨fun W hW => x_all_int vlB 49 #[] (enters_of Try.func49 (by kernel_rfl) rfl) A0_3 c0_3 l0_3 W (x_isNet W) (cb_ hr0_3 (st_ hb0 hW))⟩
 have HB0:=mk_ hb0
 have HN0:=mk_ hn0
 have HZ : Aside0 (netB a0_0 l0_1 l0_2 l0_3 = (cabsB a0_0 l0_1 && (decide (l0_2.length ≤ 15) && (decide (l0_3.length = l0_2.length) && (l0_2.all (brB a0_0) && l0_3.all vlB))))):=⟨rfl⟩
 clear h hr0_1 hc0_1 hr0_2 hc0_2 hr0_3 hc0_3 hp0 hb0 hn0 hsz
 generalize netB a0_0 l0_1 l0_2 l0_3 = z at HZ ⊢
 generalize cabsB a0_0 l0_1 = z1 at HZ hcv
 generalize l0_2.all (brB a0_0) = z3 at HZ HA
 generalize l0_3.all vlB = z4 at HZ HV
 subst hW0
 cases z1 with
 | false =>
  have HZ2 : Aside0 (z = false):=⟨by rw [HZ.out];rfl⟩
  go_enter Try.func15,Try.ntmps15
  go_wp2_with fail
  refine hcv.mono ?_
  rintro e w1 ⟨rfl,hb1⟩
  go_wp2_with fail
  go_ret
  exact ⟨by rw [HZ2.out];rfl,st_ HB0.out hb1⟩
 | true =>
 by_cases h15 : (l0_2.length : Int) ≤ 15
 ·by_cases heq : l0_3.length = l0_2.length
  ·have e1 : ((l0_3.length : Int) == (l0_2.length : Int)) = true:=beq_iff_eq.mpr (by omega)
   have e2 : (l0_3.length == l0_2.length) = true:=beq_iff_eq.mpr heq
   have e3 : decide (l0_3.length = l0_2.length) = true:=decide_eq_true heq
   replace HZ : Aside0 (z = (z3 && z4)):=⟨by rw [HZ.out,decide_eq_true (show l0_2.length ≤ 15 by omega),e3];rfl⟩
   clear heq
   cases z3 with
   | false =>
    have HZ2 : Aside0 (z = false):=⟨by rw [HZ.out];rfl⟩
    go_enter Try.func15,Try.ntmps15
    go_wp2_with fail
    refine hcv.mono ?_
    rintro e w1 ⟨rfl,hb1⟩
    have ha:=HA.out _ hb1
    have g2 : w1.cell? ⟨w.heap.size,2,none⟩ = some (.slice A0_2 l0_2.length c0_2):=(bc_ (blk_below HN0.out hb1) 2).trans rfl
    have g3 : w1.cell? ⟨w.heap.size,3,none⟩ = some (.slice A0_3 l0_3.length c0_3):=(bc_ (blk_below HN0.out hb1) 3).trans rfl
    have HB1:=mk_ (st_ HB0.out hb1)
    clear hb1 hcv
    go_wp2_with fail
    refine ha.mono ?_
    rintro e w2 ⟨rfl,hb2⟩
    go_wp2_with fail
    go_ret
    exact ⟨by rw [HZ2.out];rfl,st_ HB1.out hb2⟩
   | true =>
    have HZ2 : Aside0 (z = z4):=⟨by rw [HZ.out];rfl⟩
    go_enter Try.func15,Try.ntmps15
    go_wp2_with fail
    refine hcv.mono ?_
    rintro e w1 ⟨rfl,hb1⟩
    have ha:=HA.out _ hb1
    have g2 : w1.cell? ⟨w.heap.size,2,none⟩ = some (.slice A0_2 l0_2.length c0_2):=(bc_ (blk_below HN0.out hb1) 2).trans rfl
    have g3 : w1.cell? ⟨w.heap.size,3,none⟩ = some (.slice A0_3 l0_3.length c0_3):=(bc_ (blk_below HN0.out hb1) 3).trans rfl
    have HB1:=mk_ hb1
    clear hb1 hcv
    go_wp2_with fail
    refine ha.mono ?_
    rintro e w2 ⟨rfl,hb2⟩
    have HB2:=mk_ (st_ HB1.out hb2)
    have hv:=HV.out _ HB2.out
    have k3 : w2.cell? ⟨w.heap.size,3,none⟩ = some (.slice A0_3 l0_3.length c0_3):=(bc_ (blk_below HN0.out HB2.out) 3).trans rfl
    clear hb2 g2 g3 ha
    go_wp2_with fail
    refine hv.mono ?_
    rintro e w3 ⟨rfl,hb3⟩
    go_wp2_with fail
    go_ret
    exact ⟨by rw [HZ2.out];rfl,st_ HB0.out (st_ HB2.out hb3)⟩
  ·have e1 : ((l0_3.length : Int) == (l0_2.length : Int)) = false:=beq_eq_false_iff_ne.mpr (by omega)
   have e2 : (l0_3.length == l0_2.length) = false:=beq_eq_false_iff_ne.mpr heq
   have e3 : decide (l0_3.length = l0_2.length) = false:=decide_eq_false heq
   have HZ2 : Aside0 (z = false):=⟨by rw [HZ.out,e3];simp⟩
   clear heq
   go_enter Try.func15,Try.ntmps15
   go_wp2_with fail
   refine hcv.mono ?_
   rintro e w1 ⟨rfl,hb1⟩
   have g2 : w1.cell? ⟨w.heap.size,2,none⟩ = some (.slice A0_2 l0_2.length c0_2):=(bc_ (blk_below HN0.out hb1) 2).trans rfl
   have g3 : w1.cell? ⟨w.heap.size,3,none⟩ = some (.slice A0_3 l0_3.length c0_3):=(bc_ (blk_below HN0.out hb1) 3).trans rfl
   have HB1:=mk_ (st_ HB0.out hb1)
   clear hb1 hcv
   go_wp2_with fail
   go_ret
   exact ⟨by rw [HZ2.out];rfl,HB1.out⟩
 ·have HZ2 : Aside0 (z = false):=⟨by rw [HZ.out,decide_eq_false (show ¬ l0_2.length ≤ 15 by omega)];rfl⟩
  go_enter Try.func15,Try.ntmps15
  go_wp2_with fail
  refine hcv.mono ?_
  rintro e w1 ⟨rfl,hb1⟩
  have g2 : w1.cell? ⟨w.heap.size,2,none⟩ = some (.slice A0_2 l0_2.length c0_2):=(bc_ (blk_below HN0.out hb1) 2).trans rfl
  have HB1:=mk_ (st_ HB0.out hb1)
  clear hb1 hcv
  go_wp2_with fail
  go_ret
  exact ⟨by rw [HZ2.out];rfl,HB1.out⟩

/-! ### impl_Net_station: function 54 -/
def impl_Net_station.f (a0_0 : Int) (l0_1 : List (S51)) (l0_2 : List Int) (l0_3 : List Int) (a1 : Int) : Option (Bool):=(impl_NetValid.f a0_0 l0_1 l0_2 l0_3).bind fun t263 => (if t263 = true then ((impl_within.f a1 0 (wrap64 ((l0_2.length : Int) - 1))).bind fun t264 => (some t264)) else (some false))
set_option maxHeartbeats 8000000 in
set_option maxRecDepth 100000 in
theorem impl_Net_station.calls (a0_0 : Int) (A0_1 : Option Addr) (c0_1 : Nat) (l0_1 : List (S51)) (A0_2 : Option Addr) (c0_2 : Nat) (l0_2 : List Int) (A0_3 : Option Addr) (c0_3 : Nat) (l0_3 : List Int) (a1 : Int) (r : Bool) (w : World) (hr0_1 : Kd.C k51 w A0_1 l0_1.length l0_1) (hc0_1 : l0_1.length ≤ c0_1) (hr0_2 : Kd.C (Kd.int .i64) w A0_2 l0_2.length l0_2) (hc0_2 : l0_2.length ≤ c0_2) (hr0_3 : Kd.C (Kd.int .i64) w A0_3 l0_3.length l0_3) (hc0_3 : l0_3.length ≤ c0_3) (h : impl_Net_station.f a0_0 l0_1 l0_2 l0_3 a1 = some r) :
  Calls Try.prog 54 #[.agg #[.int .i64 a0_0,.slice A0_1 l0_1.length c0_1,.slice A0_2 l0_2.length c0_2,.slice A0_3 l0_3.length c0_3],.int .i64 a1] w fun e w' => e = .returned (.bool r) ∧ Below w.heap.size w w':=by
 have hu30:=Try.underlying30
 have HR0_1:=mk_ hr0_1
 have HC0_1:=mk_ hc0_1
 clear hr0_1 hc0_1
 have HR0_2:=mk_ hr0_2
 have HC0_2:=mk_ hc0_2
 clear hr0_2 hc0_2
 have HR0_3:=mk_ hr0_3
 have HC0_3:=mk_ hc0_3
 clear hr0_3 hc0_3
 have HB:=mk_ (Below.refl w.heap.size w)
 have H : ((impl_NetValid.f a0_0 l0_1 l0_2 l0_3).bind fun t263 => (if t263 = true then ((impl_within.f a1 0 (wrap64 ((l0_2.length : Int) - 1))).bind fun t264 => (some t264)) else (some false))) = some r:=h
 clear h
 replace H:=Option.bind_eq_some_iff.mp H
 obtain ⟨t263,A30,H⟩:=H
 replace H : (if t263 = true then ((impl_within.f a1 0 (wrap64 ((l0_2.length : Int) - 1))).bind fun t264 => (some t264)) else (some false)) = some r:=H
 have A3:=mk_ A30
 clear A30
 by_cases c4 : t263 = true
 ·subst c4
  have H1 : ((impl_within.f a1 0 (wrap64 ((l0_2.length : Int) - 1))).bind fun t264 => (some t264)) = some r:=by rw [if_pos rfl] at H;exact H
  clear H
  have H:=H1
  clear H1
  replace H:=Option.bind_eq_some_iff.mp H
  obtain ⟨t264,A50,H⟩:=H
  replace H : (some t264) = some r:=H
  have A5:=mk_ A50
  clear A50
  obtain rfl:=Option.some.inj H
  go_enter Try.func54,Try.ntmps54
  go_wp2_with (first|((with_reducible refine gate_dst (N:=2) rfl ?_);(try (refine gate_guard (by rfl) ?_;dsimp only));refine box_event ?hg (N:=2) ?hd (cs:=#[.int .i64 a0_0,.slice A0_1 l0_1.length c0_1,.slice A0_2 l0_2.length c0_2,.slice A0_3 l0_3.length c0_3]) (t:=30) ?hr ?_;(case hd => rfl);(case hg => rfl);(case hr => first|(go_simp;done)|(go_simp;rfl));intro gb262 hg w6 hbox hb;have n0_:=mk_ (st_ (qb_ HB) hb);have n1_:=mk_ (hbox);have n2_:=mk_ ((by rw [hg];exact (bz_ (qb_ HB)) : w.heap.size ≤ gb262));have n3_:=mk_ ((by rw [hg];exact (bz_ (qb_ HB)) : w.heap.size ≤ gb262));clear HB;have HB:=n0_;have BK262:=n1_;have GW262:=n2_;have GE262:=n3_;clear n0_ n1_ n2_ n3_;clear hb hbox hg;have hcz7_0 : w6.cell? ⟨gb262,0,none⟩ = some (.int .i64 a0_0):=(bc_ BK262.out 0).trans rfl;have hcz7_1 : w6.cell? ⟨gb262,1,none⟩ = some (.slice A0_1 l0_1.length c0_1):=(bc_ BK262.out 1).trans rfl;have hcz7_2 : w6.cell? ⟨gb262,2,none⟩ = some (.slice A0_2 l0_2.length c0_2):=(bc_ BK262.out 2).trans rfl;have hcz7_3 : w6.cell? ⟨gb262,3,none⟩ = some (.slice A0_3 l0_3.length c0_3):=(bc_ BK262.out 3).trans rfl;have hfz7_0:=bf_ BK262.out 0;have hfz7_1:=bf_ BK262.out 1;have hfz7_2:=bf_ BK262.out 2;have hfz7_3:=bf_ BK262.out 3)|((with_reducible refine gate_callee (f:=15) rfl ?_);refine goesL_ (some 6) rfl rfl Try.func15 (by kernel_rfl) rfl #[.agg #[.int .i64 a0_0,.slice A0_1 l0_1.length c0_1,.slice A0_2 l0_2.length c0_2,.slice A0_3 l0_3.length c0_3]] rfl qm_ ?_;(with_reducible refine (impl_NetValid.calls a0_0 _ _ l0_1 _ _ l0_2 _ _ l0_3 true _ ?side1 ?side2 ?side3 ?side4 ?side5 ?side6 A3.out).mono ?_);(case side1 => exact qn_ HR0_1 HB);(case side2 => exact HC0_1.out);(case side3 => exact qn_ HR0_2 HB);(case side4 => exact HC0_2.out);(case side5 => exact qn_ HR0_3 HB);(case side6 => exact HC0_3.out);rintro e w8 ⟨rfl,hb⟩;refine ⟨_,rfl,?_⟩;have n0_:=mk_ (blk_below (g:=gb262) (o:=.cells #[.int .i64 a0_0,.slice A0_1 l0_1.length c0_1,.slice A0_2 l0_2.length c0_2,.slice A0_3 l0_3.length c0_3] 30 (0,0)) (qk_ BK262) hb);have n1_:=mk_ (st_ (qc_ HB GE262) hb);clear BK262;clear HB;have BK262:=n0_;have HB:=n1_;clear n0_ n1_;(try clear hb);(try clear hb2);(try clear hk);(try clear hi);have hcz9_0 : w8.cell? ⟨gb262,0,none⟩ = some (.int .i64 a0_0):=(bc_ BK262.out 0).trans rfl;have hcz9_1 : w8.cell? ⟨gb262,1,none⟩ = some (.slice A0_1 l0_1.length c0_1):=(bc_ BK262.out 1).trans rfl;have hcz9_2 : w8.cell? ⟨gb262,2,none⟩ = some (.slice A0_2 l0_2.length c0_2):=(bc_ BK262.out 2).trans rfl;have hcz9_3 : w8.cell? ⟨gb262,3,none⟩ = some (.slice A0_3 l0_3.length c0_3):=(bc_ BK262.out 3).trans rfl;have hfz9_0:=bf_ BK262.out 0;have hfz9_1:=bf_ BK262.out 1;have hfz9_2:=bf_ BK262.out 2;have hfz9_3:=bf_ BK262.out 3)|(go_at_call 48;(with_reducible refine (impl_within.calls a1 0 (wrap64 ((l0_2.length : Int) - 1)) t264 _ A5.out).mono ?_);rintro e w' ⟨rfl,⟨nd,rfl⟩⟩))
  go_ret
  exact ⟨qe_,u1_ HB GE262⟩
 ·replace c4:=Bool.eq_false_iff.mpr c4
  subst c4
  have H1 : (some false) = some r:=by rw [if_neg (show ¬ (false = true) by decide)] at H;exact H
  clear H
  have H:=H1
  clear H1
  obtain rfl:=Option.some.inj H
  go_enter Try.func54,Try.ntmps54
  go_wp2_with (first|((with_reducible refine gate_dst (N:=2) rfl ?_);(try (refine gate_guard (by rfl) ?_;dsimp only));refine box_event ?hg (N:=2) ?hd (cs:=#[.int .i64 a0_0,.slice A0_1 l0_1.length c0_1,.slice A0_2 l0_2.length c0_2,.slice A0_3 l0_3.length c0_3]) (t:=30) ?hr ?_;(case hd => rfl);(case hg => rfl);(case hr => first|(go_simp;done)|(go_simp;rfl));intro gb262 hg w10 hbox hb;have n0_:=mk_ (st_ (qb_ HB) hb);have n1_:=mk_ (hbox);have n2_:=mk_ ((by rw [hg];exact (bz_ (qb_ HB)) : w.heap.size ≤ gb262));have n3_:=mk_ ((by rw [hg];exact (bz_ (qb_ HB)) : w.heap.size ≤ gb262));clear HB;have HB:=n0_;have BK262:=n1_;have GW262:=n2_;have GE262:=n3_;clear n0_ n1_ n2_ n3_;clear hb hbox hg;have hcz11_0 : w10.cell? ⟨gb262,0,none⟩ = some (.int .i64 a0_0):=(bc_ BK262.out 0).trans rfl;have hcz11_1 : w10.cell? ⟨gb262,1,none⟩ = some (.slice A0_1 l0_1.length c0_1):=(bc_ BK262.out 1).trans rfl;have hcz11_2 : w10.cell? ⟨gb262,2,none⟩ = some (.slice A0_2 l0_2.length c0_2):=(bc_ BK262.out 2).trans rfl;have hcz11_3 : w10.cell? ⟨gb262,3,none⟩ = some (.slice A0_3 l0_3.length c0_3):=(bc_ BK262.out 3).trans rfl;have hfz11_0:=bf_ BK262.out 0;have hfz11_1:=bf_ BK262.out 1;have hfz11_2:=bf_ BK262.out 2;have hfz11_3:=bf_ BK262.out 3)|((with_reducible refine gate_callee (f:=15) rfl ?_);refine goesL_ (some 6) rfl rfl Try.func15 (by kernel_rfl) rfl #[.agg #[.int .i64 a0_0,.slice A0_1 l0_1.length c0_1,.slice A0_2 l0_2.length c0_2,.slice A0_3 l0_3.length c0_3]] rfl qm_ ?_;(with_reducible refine (impl_NetValid.calls a0_0 _ _ l0_1 _ _ l0_2 _ _ l0_3 false _ ?side1 ?side2 ?side3 ?side4 ?side5 ?side6 A3.out).mono ?_);(case side1 => exact qn_ HR0_1 HB);(case side2 => exact HC0_1.out);(case side3 => exact qn_ HR0_2 HB);(case side4 => exact HC0_2.out);(case side5 => exact qn_ HR0_3 HB);(case side6 => exact HC0_3.out);rintro e w12 ⟨rfl,hb⟩;refine ⟨_,rfl,?_⟩;have n0_:=mk_ (blk_below (g:=gb262) (o:=.cells #[.int .i64 a0_0,.slice A0_1 l0_1.length c0_1,.slice A0_2 l0_2.length c0_2,.slice A0_3 l0_3.length c0_3] 30 (0,0)) (qk_ BK262) hb);have n1_:=mk_ (st_ (qc_ HB GE262) hb);clear BK262;clear HB;have BK262:=n0_;have HB:=n1_;clear n0_ n1_;(try clear hb);(try clear hb2);(try clear hk);(try clear hi)))
  go_ret
  exact ⟨qe_,u1_ HB GE262⟩

/-! ### impl_FloodOver: function 32 -/
def impl_FloodOver.l0 : Nat → Int → List Int → List Int → List Int → Int → Int → Int → List (S51) → List Int → List Int → Option (List Int)
 | 0,_,_,_,_,_,_,_,_,_,_ => none
 | k + 1,x1,x5,x6,x22,x23,x24,x266000,x266001,x266002,x266003 => if x24 < x23 then (if 0 ≤ x24 then (if x24 < (x22.length : Int) then (if 0 ≤ (rd x22 x24) then (if (rd x22 x24) < (x266001.length : Int) then (if 0 ≤ ((rd_T51 x266001 (rd x22 x24)).f0) then (if ((rd_T51 x266001 (rd x22 x24)).f0) < (x5.length : Int) then (if 0 ≤ x1 then (if x1 < (x266002.length : Int) then (if 0 ≤ (rd x266002 x1) then (if (rd x266002 x1) < (x5.length : Int) then (if (rd x5 ((rd_T51 x266001 (rd x22 x24)).f0)) = (rd x5 (rd x266002 x1)) then (if x6.length < 17592186044416 then (impl_FloodOver.l0 k x1 x5 (x6 ++ [rd x22 x24]) x22 x23 (wrap64 (x24 + 1)) x266000 x266001 x266002 x266003) else (none)) else (impl_FloodOver.l0 k x1 x5 x6 x22 x23 (wrap64 (x24 + 1)) x266000 x266001 x266002 x266003)) else (none)) else (none)) else (none)) else (none)) else (none)) else (none)) else (none)) else (none)) else (none)) else (none)) else (some x6)
def impl_FloodOver.f (k : Nat) (a0_0 : Int) (l0_1 : List (S51)) (l0_2 : List Int) (l0_3 : List Int) (a1 : Int) : Option (List Int):=(impl_Net_station.f a0_0 l0_1 l0_2 l0_3 a1).bind fun t266 => (if t266 = true then ((impl_rootsOf.f a0_0 l0_1).bind fun t267 => ((impl_TreeOf.f k a0_0 l0_1).bind fun t270 => (impl_FloodOver.l0 k a1 t267 ([] : List Int) t270 (t270.length : Int) 0 a0_0 l0_1 l0_2 l0_3))) else (some ([] : List Int)))
theorem impl_FloodOver.mono_l : ∀ k,(∀ y0 y1 y2 y3 y4 y5 y6 y7 y8 y9,LeO (impl_FloodOver.l0 k y0 y1 y2 y3 y4 y5 y6 y7 y8 y9) (impl_FloodOver.l0 (k + 1) y0 y1 y2 y3 y4 y5 y6 y7 y8 y9))
 | 0 => fun _ _ _ _ _ _ _ _ _ _ r h => by simp [impl_FloodOver.l0] at h
 | k + 1 => by
  have ih0:=impl_FloodOver.mono_l k
  ·intro y0 y1 y2 y3 y4 y5 y6 y7 y8 y9
   unfold impl_FloodOver.l0
   repeat' first
   | (with_reducible exact ih0 _ _ _ _ _ _ _ _ _ _)
   | (with_reducible exact impl_TreeOf.mono _ _ _)
   | (with_reducible exact LeO.refl _)
   | (with_reducible exact LeO.none _)
   | (with_reducible refine LeO.ite ?_ ?_)
   | (with_reducible refine LeO.bind ?_ (fun _ => ?_))
   | exact ih0 _ _ _ _ _ _ _ _ _ _
   | exact impl_TreeOf.mono _ _ _
   | exact LeO.none _
   | refine LeO.ite ?_ ?_
   | refine LeO.bind ?_ (fun _ => ?_)
theorem impl_FloodOver.mono : ∀ a0 a1 a2 a3 a4 k,LeO (impl_FloodOver.f k a0 a1 a2 a3 a4) (impl_FloodOver.f (k + 1) a0 a1 a2 a3 a4):=by
 intro a0 a1 a2 a3 a4 k
 have ih0:=impl_FloodOver.mono_l k
 unfold impl_FloodOver.f
 repeat' first
   | (with_reducible exact ih0 _ _ _ _ _ _ _ _ _ _)
   | (with_reducible exact impl_TreeOf.mono _ _ _)
   | (with_reducible exact LeO.refl _)
   | (with_reducible exact LeO.none _)
   | (with_reducible refine LeO.ite ?_ ?_)
   | (with_reducible refine LeO.bind ?_ (fun _ => ?_))
   | exact ih0 _ _ _ _ _ _ _ _ _ _
   | exact impl_TreeOf.mono _ _ _
   | exact LeO.none _
   | refine LeO.ite ?_ ?_
   | refine LeO.bind ?_ (fun _ => ?_)
set_option maxHeartbeats 8000000 in
set_option maxRecDepth 100000 in
theorem impl_FloodOver.calls (k : Nat) (a0_0 : Int) (A0_1 : Option Addr) (c0_1 : Nat) (l0_1 : List (S51)) (A0_2 : Option Addr) (c0_2 : Nat) (l0_2 : List Int) (A0_3 : Option Addr) (c0_3 : Nat) (l0_3 : List Int) (a1 : Int) (r : List Int) (w : World) (hr0_1 : Kd.C k51 w A0_1 l0_1.length l0_1) (hc0_1 : l0_1.length ≤ c0_1) (hr0_2 : Kd.C (Kd.int .i64) w A0_2 l0_2.length l0_2) (hc0_2 : l0_2.length ≤ c0_2) (hr0_3 : Kd.C (Kd.int .i64) w A0_3 l0_3.length l0_3) (hc0_3 : l0_3.length ≤ c0_3) (h : impl_FloodOver.f k a0_0 l0_1 l0_2 l0_3 a1 = some r) :
  Calls Try.prog 32 #[.agg #[.int .i64 a0_0,.slice A0_1 l0_1.length c0_1,.slice A0_2 l0_2.length c0_2,.slice A0_3 l0_3.length c0_3],.int .i64 a1] w fun e w' => ∃ v0_ : Value,e = .returned (v0_) ∧ Kd.R (Kd.int .i64) 3 w' w.heap.size (fun _ => True) v0_ r ∧ Below w.heap.size w w':=by
 have hu30:=Try.underlying30
 have HR0_1:=mk_ hr0_1
 have HC0_1:=mk_ hc0_1
 clear hr0_1 hc0_1
 have HR0_2:=mk_ hr0_2
 have HC0_2:=mk_ hc0_2
 clear hr0_2 hc0_2
 have HR0_3:=mk_ hr0_3
 have HC0_3:=mk_ hc0_3
 clear hr0_3 hc0_3
 have HB:=mk_ (Below.refl w.heap.size w)
 have H : ((impl_Net_station.f a0_0 l0_1 l0_2 l0_3 a1).bind fun t266 => (if t266 = true then ((impl_rootsOf.f a0_0 l0_1).bind fun t267 => ((impl_TreeOf.f k a0_0 l0_1).bind fun t270 => (impl_FloodOver.l0 k a1 t267 ([] : List Int) t270 (t270.length : Int) 0 a0_0 l0_1 l0_2 l0_3))) else (some ([] : List Int)))) = some r:=h
 clear h
 replace H:=Option.bind_eq_some_iff.mp H
 obtain ⟨t266,A30,H⟩:=H
 replace H : (if t266 = true then ((impl_rootsOf.f a0_0 l0_1).bind fun t267 => ((impl_TreeOf.f k a0_0 l0_1).bind fun t270 => (impl_FloodOver.l0 k a1 t267 ([] : List Int) t270 (t270.length : Int) 0 a0_0 l0_1 l0_2 l0_3))) else (some ([] : List Int))) = some r:=H
 have A3:=mk_ A30
 clear A30
 by_cases c4 : t266 = true
 ·subst c4
  have H1 : ((impl_rootsOf.f a0_0 l0_1).bind fun t267 => ((impl_TreeOf.f k a0_0 l0_1).bind fun t270 => (impl_FloodOver.l0 k a1 t267 ([] : List Int) t270 (t270.length : Int) 0 a0_0 l0_1 l0_2 l0_3))) = some r:=by rw [if_pos rfl] at H;exact H
  clear H
  have H:=H1
  clear H1
  replace H:=Option.bind_eq_some_iff.mp H
  obtain ⟨t267,A50,H⟩:=H
  replace H : ((impl_TreeOf.f k a0_0 l0_1).bind fun t270 => (impl_FloodOver.l0 k a1 t267 ([] : List Int) t270 (t270.length : Int) 0 a0_0 l0_1 l0_2 l0_3)) = some r:=H
  have A5:=mk_ A50
  clear A50
  replace H:=Option.bind_eq_some_iff.mp H
  obtain ⟨t270,A60,H⟩:=H
  replace H : (impl_FloodOver.l0 k a1 t267 ([] : List Int) t270 (t270.length : Int) 0 a0_0 l0_1 l0_2 l0_3) = some r:=H
  have A6:=mk_ A60
  clear A60
  have H':=mk_ H
  clear H
  go_enter Try.func32,Try.ntmps32
  go_wp2_with (first|((with_reducible refine gate_dst (N:=2) rfl ?_);refine box_event ?hg (N:=2) ?hd (cs:=#[.int .i64 a0_0,.slice A0_1 l0_1.length c0_1,.slice A0_2 l0_2.length c0_2,.slice A0_3 l0_3.length c0_3]) (t:=30) ?hr ?_;(case hd => rfl);(case hg => rfl);(case hr => first|(go_simp;done)|(go_simp;rfl));intro gb265 hg w7 hbox hb;have n0_:=mk_ (st_ (qb_ HB) hb);have n1_:=mk_ (hbox);have n2_:=mk_ ((by rw [hg];exact (bz_ (qb_ HB)) : w.heap.size ≤ gb265));have n3_:=mk_ ((by rw [hg];exact (bz_ (qb_ HB)) : w.heap.size ≤ gb265));clear HB;have HB:=n0_;have BK265:=n1_;have GW265:=n2_;have GE265:=n3_;clear n0_ n1_ n2_ n3_;clear hb hbox hg;have hcz8_0 : w7.cell? ⟨gb265,0,none⟩ = some (.int .i64 a0_0):=(bc_ BK265.out 0).trans rfl;have hcz8_1 : w7.cell? ⟨gb265,1,none⟩ = some (.slice A0_1 l0_1.length c0_1):=(bc_ BK265.out 1).trans rfl;have hcz8_2 : w7.cell? ⟨gb265,2,none⟩ = some (.slice A0_2 l0_2.length c0_2):=(bc_ BK265.out 2).trans rfl;have hcz8_3 : w7.cell? ⟨gb265,3,none⟩ = some (.slice A0_3 l0_3.length c0_3):=(bc_ BK265.out 3).trans rfl;have hfz8_0:=bf_ BK265.out 0;have hfz8_1:=bf_ BK265.out 1;have hfz8_2:=bf_ BK265.out 2;have hfz8_3:=bf_ BK265.out 3)|(go_at_call 54;(with_reducible refine (impl_Net_station.calls a0_0 _ _ l0_1 _ _ l0_2 _ _ l0_3 a1 true _ ?side1 ?side2 ?side3 ?side4 ?side5 ?side6 A3.out).mono ?_);(case side1 => exact qn_ HR0_1 HB);(case side2 => exact HC0_1.out);(case side3 => exact qn_ HR0_2 HB);(case side4 => exact HC0_2.out);(case side5 => exact qn_ HR0_3 HB);(case side6 => exact HC0_3.out);rintro e w9 ⟨rfl,hb⟩;have n0_:=mk_ (blk_below (g:=gb265) (o:=.cells #[.int .i64 a0_0,.slice A0_1 l0_1.length c0_1,.slice A0_2 l0_2.length c0_2,.slice A0_3 l0_3.length c0_3] 30 (0,0)) (qk_ BK265) hb);have n1_:=mk_ (st_ (qc_ HB GE265) hb);clear BK265;clear HB;have BK265:=n0_;have HB:=n1_;clear n0_ n1_;(try clear hb);(try clear hb2);(try clear hk);(try clear hi);have hcz10_0 : w9.cell? ⟨gb265,0,none⟩ = some (.int .i64 a0_0):=(bc_ BK265.out 0).trans rfl;have hcz10_1 : w9.cell? ⟨gb265,1,none⟩ = some (.slice A0_1 l0_1.length c0_1):=(bc_ BK265.out 1).trans rfl;have hcz10_2 : w9.cell? ⟨gb265,2,none⟩ = some (.slice A0_2 l0_2.length c0_2):=(bc_ BK265.out 2).trans rfl;have hcz10_3 : w9.cell? ⟨gb265,3,none⟩ = some (.slice A0_3 l0_3.length c0_3):=(bc_ BK265.out 3).trans rfl;have hfz10_0:=bf_ BK265.out 0;have hfz10_1:=bf_ BK265.out 1;have hfz10_2:=bf_ BK265.out 2;have hfz10_3:=bf_ BK265.out 3)|(go_at_call 55;(with_reducible refine (impl_rootsOf.calls a0_0 _ _ l0_1 t267 _ ?side1 ?side2 A5.out).mono ?_);(case side1 => exact qn_ HR0_1 HB);(case side2 => exact HC0_1.out);rintro e w11 ⟨v268,rfl,ho0,hb⟩;have n0_:=mk_ (Kd.R_lower ho0 (bz_ (qc_ HB GE265)));have n1_:=mk_ (blk_below (g:=gb265) (o:=.cells #[.int .i64 a0_0,.slice A0_1 l0_1.length c0_1,.slice A0_2 l0_2.length c0_2,.slice A0_3 l0_3.length c0_3] 30 (0,0)) (qk_ BK265) hb);have n2_:=mk_ (st_ (qc_ HB GE265) hb);clear BK265;clear HB;have HO269:=n0_;have BK265:=n1_;have HB:=n2_;clear n0_ n1_ n2_;(try clear hb);(try clear hb2);(try clear hk);(try clear hi);(try clear ho0);have hcz12_0 : w11.cell? ⟨gb265,0,none⟩ = some (.int .i64 a0_0):=(bc_ BK265.out 0).trans rfl;have hcz12_1 : w11.cell? ⟨gb265,1,none⟩ = some (.slice A0_1 l0_1.length c0_1):=(bc_ BK265.out 1).trans rfl;have hcz12_2 : w11.cell? ⟨gb265,2,none⟩ = some (.slice A0_2 l0_2.length c0_2):=(bc_ BK265.out 2).trans rfl;have hcz12_3 : w11.cell? ⟨gb265,3,none⟩ = some (.slice A0_3 l0_3.length c0_3):=(bc_ BK265.out 3).trans rfl;have hfz12_0:=bf_ BK265.out 0;have hfz12_1:=bf_ BK265.out 1;have hfz12_2:=bf_ BK265.out 2;have hfz12_3:=bf_ BK265.out 3)|(go_at_call 30;(with_reducible refine (impl_TreeOf.calls k a0_0 _ _ l0_1 t270 _ ?side1 ?side2 A6.out).mono ?_);(case side1 => exact qn_ HR0_1 HB);(case side2 => exact HC0_1.out);rintro e w13 ⟨v271,rfl,ho0,hb⟩;have n0_:=mk_ (re_ (qr_ HO269) (Kd.R_base ho0) hb);have n1_:=mk_ (Kd.R_lower (Kd.R_new' ho0 (Kd.R_lt (qr_ HO269))) (bz_ (qc_ HB GE265)));have n2_:=mk_ (blk_below (g:=gb265) (o:=.cells #[.int .i64 a0_0,.slice A0_1 l0_1.length c0_1,.slice A0_2 l0_2.length c0_2,.slice A0_3 l0_3.length c0_3] 30 (0,0)) (qk_ BK265) hb);have n3_:=mk_ (st_ (qc_ HB GE265) hb);clear HO269;clear BK265;clear HB;have HO269:=n0_;have HO272:=n1_;have BK265:=n2_;have HB:=n3_;clear n0_ n1_ n2_ n3_;(try clear hb);(try clear hb2);(try clear hk);(try clear hi);(try clear ho0);obtain ⟨Ao14,co14,eo14⟩:=Kd.R_slice HO272.out;subst eo14))
  repeat (go_quiet (first|((with_reducible refine gate_dst (N:=2) rfl ?_);refine box_event ?hg (N:=2) ?hd (cs:=#[.int .i64 a0_0,.slice A0_1 l0_1.length c0_1,.slice A0_2 l0_2.length c0_2,.slice A0_3 l0_3.length c0_3]) (t:=30) ?hr ?_;(case hd => rfl);(case hg => rfl);(case hr => first|(go_simp;done)|(go_simp;rfl));intro gb265 hg w7 hbox hb;have n0_:=mk_ (st_ (qb_ HB) hb);have n1_:=mk_ (hbox);have n2_:=mk_ ((by rw [hg];exact (bz_ (qb_ HB)) : w.heap.size ≤ gb265));have n3_:=mk_ ((by rw [hg];exact (bz_ (qb_ HB)) : w.heap.size ≤ gb265));clear HB;have HB:=n0_;have BK265:=n1_;have GW265:=n2_;have GE265:=n3_;clear n0_ n1_ n2_ n3_;clear hb hbox hg;have hcz8_0 : w7.cell? ⟨gb265,0,none⟩ = some (.int .i64 a0_0):=(bc_ BK265.out 0).trans rfl;have hcz8_1 : w7.cell? ⟨gb265,1,none⟩ = some (.slice A0_1 l0_1.length c0_1):=(bc_ BK265.out 1).trans rfl;have hcz8_2 : w7.cell? ⟨gb265,2,none⟩ = some (.slice A0_2 l0_2.length c0_2):=(bc_ BK265.out 2).trans rfl;have hcz8_3 : w7.cell? ⟨gb265,3,none⟩ = some (.slice A0_3 l0_3.length c0_3):=(bc_ BK265.out 3).trans rfl;have hfz8_0:=bf_ BK265.out 0;have hfz8_1:=bf_ BK265.out 1;have hfz8_2:=bf_ BK265.out 2;have hfz8_3:=bf_ BK265.out 3)|(go_at_call 54;(with_reducible refine (impl_Net_station.calls a0_0 _ _ l0_1 _ _ l0_2 _ _ l0_3 a1 true _ ?side1 ?side2 ?side3 ?side4 ?side5 ?side6 A3.out).mono ?_);(case side1 => exact qn_ HR0_1 HB);(case side2 => exact HC0_1.out);(case side3 => exact qn_ HR0_2 HB);(case side4 => exact HC0_2.out);(case side5 => exact qn_ HR0_3 HB);(case side6 => exact HC0_3.out);rintro e w9 ⟨rfl,hb⟩;have n0_:=mk_ (blk_below (g:=gb265) (o:=.cells #[.int .i64 a0_0,.slice A0_1 l0_1.length c0_1,.slice A0_2 l0_2.length c0_2,.slice A0_3 l0_3.length c0_3] 30 (0,0)) (qk_ BK265) hb);have n1_:=mk_ (st_ (qc_ HB GE265) hb);clear BK265;clear HB;have BK265:=n0_;have HB:=n1_;clear n0_ n1_;(try clear hb);(try clear hb2);(try clear hk);(try clear hi);have hcz10_0 : w9.cell? ⟨gb265,0,none⟩ = some (.int .i64 a0_0):=(bc_ BK265.out 0).trans rfl;have hcz10_1 : w9.cell? ⟨gb265,1,none⟩ = some (.slice A0_1 l0_1.length c0_1):=(bc_ BK265.out 1).trans rfl;have hcz10_2 : w9.cell? ⟨gb265,2,none⟩ = some (.slice A0_2 l0_2.length c0_2):=(bc_ BK265.out 2).trans rfl;have hcz10_3 : w9.cell? ⟨gb265,3,none⟩ = some (.slice A0_3 l0_3.length c0_3):=(bc_ BK265.out 3).trans rfl;have hfz10_0:=bf_ BK265.out 0;have hfz10_1:=bf_ BK265.out 1;have hfz10_2:=bf_ BK265.out 2;have hfz10_3:=bf_ BK265.out 3)|(go_at_call 55;(with_reducible refine (impl_rootsOf.calls a0_0 _ _ l0_1 t267 _ ?side1 ?side2 A5.out).mono ?_);(case side1 => exact qn_ HR0_1 HB);(case side2 => exact HC0_1.out);rintro e w11 ⟨v268,rfl,ho0,hb⟩;have n0_:=mk_ (Kd.R_lower ho0 (bz_ (qc_ HB GE265)));have n1_:=mk_ (blk_below (g:=gb265) (o:=.cells #[.int .i64 a0_0,.slice A0_1 l0_1.length c0_1,.slice A0_2 l0_2.length c0_2,.slice A0_3 l0_3.length c0_3] 30 (0,0)) (qk_ BK265) hb);have n2_:=mk_ (st_ (qc_ HB GE265) hb);clear BK265;clear HB;have HO269:=n0_;have BK265:=n1_;have HB:=n2_;clear n0_ n1_ n2_;(try clear hb);(try clear hb2);(try clear hk);(try clear hi);(try clear ho0);have hcz12_0 : w11.cell? ⟨gb265,0,none⟩ = some (.int .i64 a0_0):=(bc_ BK265.out 0).trans rfl;have hcz12_1 : w11.cell? ⟨gb265,1,none⟩ = some (.slice A0_1 l0_1.length c0_1):=(bc_ BK265.out 1).trans rfl;have hcz12_2 : w11.cell? ⟨gb265,2,none⟩ = some (.slice A0_2 l0_2.length c0_2):=(bc_ BK265.out 2).trans rfl;have hcz12_3 : w11.cell? ⟨gb265,3,none⟩ = some (.slice A0_3 l0_3.length c0_3):=(bc_ BK265.out 3).trans rfl;have hfz12_0:=bf_ BK265.out 0;have hfz12_1:=bf_ BK265.out 1;have hfz12_2:=bf_ BK265.out 2;have hfz12_3:=bf_ BK265.out 3)|(go_at_call 30;(with_reducible refine (impl_TreeOf.calls k a0_0 _ _ l0_1 t270 _ ?side1 ?side2 A6.out).mono ?_);(case side1 => exact qn_ HR0_1 HB);(case side2 => exact HC0_1.out);rintro e w13 ⟨v271,rfl,ho0,hb⟩;have n0_:=mk_ (re_ (qr_ HO269) (Kd.R_base ho0) hb);have n1_:=mk_ (Kd.R_lower (Kd.R_new' ho0 (Kd.R_lt (qr_ HO269))) (bz_ (qc_ HB GE265)));have n2_:=mk_ (blk_below (g:=gb265) (o:=.cells #[.int .i64 a0_0,.slice A0_1 l0_1.length c0_1,.slice A0_2 l0_2.length c0_2,.slice A0_3 l0_3.length c0_3] 30 (0,0)) (qk_ BK265) hb);have n3_:=mk_ (st_ (qc_ HB GE265) hb);clear HO269;clear BK265;clear HB;have HO269:=n0_;have HO272:=n1_;have BK265:=n2_;have HB:=n3_;clear n0_ n1_ n2_ n3_;(try clear hb);(try clear hb2);(try clear hk);(try clear hi);(try clear ho0);obtain ⟨Ao14,co14,eo14⟩:=Kd.R_slice HO272.out;subst eo14));try go_wp2_with (first|((with_reducible refine gate_dst (N:=2) rfl ?_);refine box_event ?hg (N:=2) ?hd (cs:=#[.int .i64 a0_0,.slice A0_1 l0_1.length c0_1,.slice A0_2 l0_2.length c0_2,.slice A0_3 l0_3.length c0_3]) (t:=30) ?hr ?_;(case hd => rfl);(case hg => rfl);(case hr => first|(go_simp;done)|(go_simp;rfl));intro gb265 hg w7 hbox hb;have n0_:=mk_ (st_ (qb_ HB) hb);have n1_:=mk_ (hbox);have n2_:=mk_ ((by rw [hg];exact (bz_ (qb_ HB)) : w.heap.size ≤ gb265));have n3_:=mk_ ((by rw [hg];exact (bz_ (qb_ HB)) : w.heap.size ≤ gb265));clear HB;have HB:=n0_;have BK265:=n1_;have GW265:=n2_;have GE265:=n3_;clear n0_ n1_ n2_ n3_;clear hb hbox hg;have hcz8_0 : w7.cell? ⟨gb265,0,none⟩ = some (.int .i64 a0_0):=(bc_ BK265.out 0).trans rfl;have hcz8_1 : w7.cell? ⟨gb265,1,none⟩ = some (.slice A0_1 l0_1.length c0_1):=(bc_ BK265.out 1).trans rfl;have hcz8_2 : w7.cell? ⟨gb265,2,none⟩ = some (.slice A0_2 l0_2.length c0_2):=(bc_ BK265.out 2).trans rfl;have hcz8_3 : w7.cell? ⟨gb265,3,none⟩ = some (.slice A0_3 l0_3.length c0_3):=(bc_ BK265.out 3).trans rfl;have hfz8_0:=bf_ BK265.out 0;have hfz8_1:=bf_ BK265.out 1;have hfz8_2:=bf_ BK265.out 2;have hfz8_3:=bf_ BK265.out 3)|(go_at_call 54;(with_reducible refine (impl_Net_station.calls a0_0 _ _ l0_1 _ _ l0_2 _ _ l0_3 a1 true _ ?side1 ?side2 ?side3 ?side4 ?side5 ?side6 A3.out).mono ?_);(case side1 => exact qn_ HR0_1 HB);(case side2 => exact HC0_1.out);(case side3 => exact qn_ HR0_2 HB);(case side4 => exact HC0_2.out);(case side5 => exact qn_ HR0_3 HB);(case side6 => exact HC0_3.out);rintro e w9 ⟨rfl,hb⟩;have n0_:=mk_ (blk_below (g:=gb265) (o:=.cells #[.int .i64 a0_0,.slice A0_1 l0_1.length c0_1,.slice A0_2 l0_2.length c0_2,.slice A0_3 l0_3.length c0_3] 30 (0,0)) (qk_ BK265) hb);have n1_:=mk_ (st_ (qc_ HB GE265) hb);clear BK265;clear HB;have BK265:=n0_;have HB:=n1_;clear n0_ n1_;(try clear hb);(try clear hb2);(try clear hk);(try clear hi);have hcz10_0 : w9.cell? ⟨gb265,0,none⟩ = some (.int .i64 a0_0):=(bc_ BK265.out 0).trans rfl;have hcz10_1 : w9.cell? ⟨gb265,1,none⟩ = some (.slice A0_1 l0_1.length c0_1):=(bc_ BK265.out 1).trans rfl;have hcz10_2 : w9.cell? ⟨gb265,2,none⟩ = some (.slice A0_2 l0_2.length c0_2):=(bc_ BK265.out 2).trans rfl;have hcz10_3 : w9.cell? ⟨gb265,3,none⟩ = some (.slice A0_3 l0_3.length c0_3):=(bc_ BK265.out 3).trans rfl;have hfz10_0:=bf_ BK265.out 0;have hfz10_1:=bf_ BK265.out 1;have hfz10_2:=bf_ BK265.out 2;have hfz10_3:=bf_ BK265.out 3)|(go_at_call 55;(with_reducible refine (impl_rootsOf.calls a0_0 _ _ l0_1 t267 _ ?side1 ?side2 A5.out).mono ?_);(case side1 => exact qn_ HR0_1 HB);(case side2 => exact HC0_1.out);rintro e w11 ⟨v268,rfl,ho0,hb⟩;have n0_:=mk_ (Kd.R_lower ho0 (bz_ (qc_ HB GE265)));have n1_:=mk_ (blk_below (g:=gb265) (o:=.cells #[.int .i64 a0_0,.slice A0_1 l0_1.length c0_1,.slice A0_2 l0_2.length c0_2,.slice A0_3 l0_3.length c0_3] 30 (0,0)) (qk_ BK265) hb);have n2_:=mk_ (st_ (qc_ HB GE265) hb);clear BK265;clear HB;have HO269:=n0_;have BK265:=n1_;have HB:=n2_;clear n0_ n1_ n2_;(try clear hb);(try clear hb2);(try clear hk);(try clear hi);(try clear ho0);have hcz12_0 : w11.cell? ⟨gb265,0,none⟩ = some (.int .i64 a0_0):=(bc_ BK265.out 0).trans rfl;have hcz12_1 : w11.cell? ⟨gb265,1,none⟩ = some (.slice A0_1 l0_1.length c0_1):=(bc_ BK265.out 1).trans rfl;have hcz12_2 : w11.cell? ⟨gb265,2,none⟩ = some (.slice A0_2 l0_2.length c0_2):=(bc_ BK265.out 2).trans rfl;have hcz12_3 : w11.cell? ⟨gb265,3,none⟩ = some (.slice A0_3 l0_3.length c0_3):=(bc_ BK265.out 3).trans rfl;have hfz12_0:=bf_ BK265.out 0;have hfz12_1:=bf_ BK265.out 1;have hfz12_2:=bf_ BK265.out 2;have hfz12_3:=bf_ BK265.out 3)|(go_at_call 30;(with_reducible refine (impl_TreeOf.calls k a0_0 _ _ l0_1 t270 _ ?side1 ?side2 A6.out).mono ?_);(case side1 => exact qn_ HR0_1 HB);(case side2 => exact HC0_1.out);rintro e w13 ⟨v271,rfl,ho0,hb⟩;have n0_:=mk_ (re_ (qr_ HO269) (Kd.R_base ho0) hb);have n1_:=mk_ (Kd.R_lower (Kd.R_new' ho0 (Kd.R_lt (qr_ HO269))) (bz_ (qc_ HB GE265)));have n2_:=mk_ (blk_below (g:=gb265) (o:=.cells #[.int .i64 a0_0,.slice A0_1 l0_1.length c0_1,.slice A0_2 l0_2.length c0_2,.slice A0_3 l0_3.length c0_3] 30 (0,0)) (qk_ BK265) hb);have n3_:=mk_ (st_ (qc_ HB GE265) hb);clear HO269;clear BK265;clear HB;have HO269:=n0_;have HO272:=n1_;have BK265:=n2_;have HB:=n3_;clear n0_ n1_ n2_ n3_;(try clear hb);(try clear hb2);(try clear hk);(try clear hi);(try clear ho0);obtain ⟨Ao14,co14,eo14⟩:=Kd.R_slice HO272.out;subst eo14)))
  go_loopg [6,24] k (fun kq v6 v24 w' => ∃ (x6_1 : List Int) (x24_1 : Int),v24 = .int .i64 x24_1 ∧ Aside0 (impl_FloodOver.l0 kq a1 t267 x6_1 t270 (t270.length : Int) x24_1 a0_0 l0_1 l0_2 l0_3 = some r) ∧ Aside0 (kq ≤ k) ∧ Aside0 (Kd.R (Kd.int .i64) 3 w' w.heap.size (fun k_ => some k_ ≠ (v6 : Value).ownBlock ∧ some k_ ≠ ((.slice Ao14 t270.length co14) : Value).ownBlock) v268 t267) ∧ Aside0 (Kd.R (Kd.int .i64) 3 w' w.heap.size (fun k_ => some k_ ≠ (v268 : Value).ownBlock ∧ some k_ ≠ ((.slice Ao14 t270.length co14) : Value).ownBlock) v6 x6_1) ∧ Aside0 (Kd.R (Kd.int .i64) 3 w' w.heap.size (fun k_ => some k_ ≠ (v268 : Value).ownBlock ∧ some k_ ≠ (v6 : Value).ownBlock) (.slice Ao14 t270.length co14) t270) ∧ Aside0 (w'.heap[gb265]? = some (.cells #[.int .i64 a0_0,(.slice A0_1 l0_1.length c0_1),(.slice A0_2 l0_2.length c0_2),(.slice A0_3 l0_3.length c0_3)] 30 (0,0))) ∧ Aside0 (Below w.heap.size w w'))
  case atStart => exact ⟨(([] : List Int)),(0),qf_,H',⟨Nat.le_refl _⟩,⟨by (with_reducible repeat (first|apply ra_|apply rn_|apply rd_));exact rm_ HO269.out (fun _ hk => ⟨(by simp [Value.ownBlock]),hk.2⟩)⟩,⟨by first|exact Kd.R_nil _ _ _ _ _|exact Kd.N_nil _ _ _ _ _|exact Kd.V_nil _ _ _ _ _|exact Kd.Q_nil _ _ _ _ _|exact Kd.S_nil _ _ _ _ _⟩,⟨by (with_reducible repeat (first|apply ra_|apply rn_|apply rd_));exact rm_ HO272.out (fun _ hk => ⟨hk.2,(by simp [Value.ownBlock])⟩)⟩,⟨qk_ BK265⟩,⟨u1_ HB GE265⟩⟩
  case round =>
   clear H'
   try clear p2
   try clear c3
   try clear c4
   try clear hcz10_0
   try clear hcz10_1
   try clear hcz10_2
   try clear hcz10_3
   try clear hcz12_0
   try clear hcz12_1
   try clear hcz12_2
   try clear hcz12_3
   try clear hcz8_0
   try clear hcz8_1
   try clear hcz8_2
   try clear hcz8_3
   try clear hfz10_0
   try clear hfz10_1
   try clear hfz10_2
   try clear hfz10_3
   try clear hfz12_0
   try clear hfz12_1
   try clear hfz12_2
   try clear hfz12_3
   try clear hfz8_0
   try clear hfz8_1
   try clear hfz8_2
   try clear hfz8_3
   obtain ⟨x6_1,x24_1,rfl,HA,HK1,HO_5,HO_6,HO_22,BK265,HB⟩:=hrel
   cases gk with
   | zero => exact absurd HA.out (by simp [impl_FloodOver.l0])
   | succ k1 =>
    have H:=HA.out
    clear HA
    simp only [impl_FloodOver.l0] at H
    by_cases c15 : x24_1 < (t270.length : Int)
    ·rw [if_pos c15] at H
     have c15b0 : decide (x24_1 < (t270.length : Int)) = true:=decide_eq_true c15
     clear c15
     by_cases c16 : 0 ≤ x24_1
     ·rw [if_pos c16] at H
      have c16b0 : decide (0 ≤ x24_1) = true:=decide_eq_true c16
      clear c16
      by_cases c17 : x24_1 < (t270.length : Int)
      ·rw [if_pos c17] at H
       have c17b0 : decide (x24_1 < (t270.length : Int)) = true:=decide_eq_true c17
       clear c17
       by_cases c18 : 0 ≤ (rd t270 x24_1)
       ·rw [if_pos c18] at H
        have c18b0 : decide (0 ≤ (rd t270 x24_1)) = true:=decide_eq_true c18
        clear c18
        by_cases c19 : (rd t270 x24_1) < (l0_1.length : Int)
        ·rw [if_pos c19] at H
         have c19b0 : decide ((rd t270 x24_1) < (l0_1.length : Int)) = true:=decide_eq_true c19
         clear c19
         by_cases c20 : 0 ≤ ((rd_T51 l0_1 (rd t270 x24_1)).f0)
         ·rw [if_pos c20] at H
          have c20b0 : decide (0 ≤ ((rd_T51 l0_1 (rd t270 x24_1)).f0)) = true:=decide_eq_true c20
          clear c20
          by_cases c21 : ((rd_T51 l0_1 (rd t270 x24_1)).f0) < (t267.length : Int)
          ·rw [if_pos c21] at H
           have c21b0 : decide (((rd_T51 l0_1 (rd t270 x24_1)).f0) < (t267.length : Int)) = true:=decide_eq_true c21
           clear c21
           by_cases c22 : 0 ≤ a1
           ·rw [if_pos c22] at H
            have c22b0 : decide (0 ≤ a1) = true:=decide_eq_true c22
            clear c22
            by_cases c23 : a1 < (l0_2.length : Int)
            ·rw [if_pos c23] at H
             have c23b0 : decide (a1 < (l0_2.length : Int)) = true:=decide_eq_true c23
             clear c23
             by_cases c24 : 0 ≤ (rd l0_2 a1)
             ·rw [if_pos c24] at H
              have c24b0 : decide (0 ≤ (rd l0_2 a1)) = true:=decide_eq_true c24
              clear c24
              by_cases c25 : (rd l0_2 a1) < (t267.length : Int)
              ·rw [if_pos c25] at H
               have c25b0 : decide ((rd l0_2 a1) < (t267.length : Int)) = true:=decide_eq_true c25
               clear c25
               by_cases c26 : (rd t267 ((rd_T51 l0_1 (rd t270 x24_1)).f0)) = (rd t267 (rd l0_2 a1))
               ·rw [if_pos c26] at H
                have c26b0 : ((rd t267 ((rd_T51 l0_1 (rd t270 x24_1)).f0)) == (rd t267 (rd l0_2 a1))) = true:=beq_iff_eq.mpr c26
                have c26b1 : ((rd t267 ((rd_T51 l0_1 (rd t270 x24_1)).f0)) != (rd t267 (rd l0_2 a1))) = false:=bne_eq_false_iff_eq.mpr c26
                clear c26
                by_cases c27 : x6_1.length < 17592186044416
                ·rw [if_pos c27] at H
                 have LMc27:=mk_ c27
                 clear c27
                 obtain ⟨y278,hy278⟩ : ∃ y_ : List Int,y_ = (x6_1 ++ [rd t270 x24_1]):=⟨_,rfl⟩
                 replace H : (impl_FloodOver.l0 k1 a1 t267 y278 t270 (t270.length : Int) (wrap64 (x24_1 + 1)) a0_0 l0_1 l0_2 l0_3) = some r:=by first|(rw [hy278];with_reducible exact H)|(have H2_:=(Option.bind_some _ _).symm.trans H;rw [hy278];with_reducible exact H2_)|(have H2_:=(Option.bind_some _ _).symm.trans H;with_reducible exact H2_)|with_reducible exact H|(rw [hy278];exact H)|exact H
                 have Ny278:=mk_ hy278
                 clear hy278
                 have H':=mk_ H
                 clear H
                 have p273 : 0 ≤ (x24_1 : Int):=od_ qa_
                 have q273 : x24_1 < (t270.length : Int):=od_ qa_
                 obtain ⟨ad273,e273,hx273_0⟩:=Kd.at_int (rr_ HO_22.out).2.2 x24_1 p273 q273
                 cases e273
                 replace p273:=eq_true p273
                 replace q273:=eq_true q273
                 have hcz28_0 : wr.cell? ⟨gb265,0,none⟩ = some (.int .i64 a0_0):=(bc_ BK265.out 0).trans rfl
                 have hcz28_1 : wr.cell? ⟨gb265,1,none⟩ = some (.slice A0_1 l0_1.length c0_1):=(bc_ BK265.out 1).trans rfl
                 have hcz28_2 : wr.cell? ⟨gb265,2,none⟩ = some (.slice A0_2 l0_2.length c0_2):=(bc_ BK265.out 2).trans rfl
                 have hcz28_3 : wr.cell? ⟨gb265,3,none⟩ = some (.slice A0_3 l0_3.length c0_3):=(bc_ BK265.out 3).trans rfl
                 have hfz28_0:=bf_ BK265.out 0
                 have hfz28_1:=bf_ BK265.out 1
                 have hfz28_2:=bf_ BK265.out 2
                 have hfz28_3:=bf_ BK265.out 3
                 have p274 : 0 ≤ ((rd t270 x24_1) : Int):=od_ qa_
                 have q274 : (rd t270 x24_1) < (l0_1.length : Int):=od_ qa_
                 obtain ⟨ad274,e274,hx274_0,hx274_1,hx274_2⟩:=at_T51 HR0_1.out (rd t270 x24_1) p274 q274
                 cases e274
                 replace hx274_0:=(HB.out.cell (wl_ w _ hx274_0)).trans hx274_0
                 replace hx274_1:=(HB.out.cell (wl_ w _ hx274_1)).trans hx274_1
                 replace hx274_2:=(HB.out.cell (wl_ w _ hx274_2)).trans hx274_2
                 replace p274:=eq_true p274
                 replace q274:=eq_true q274
                 obtain ⟨Ao29,co29,eo29⟩:=Kd.R_slice HO_5.out
                 subst eo29
                 have p275 : 0 ≤ (((rd_T51 l0_1 (rd t270 x24_1)).f0) : Int):=od_ qa_
                 have q275 : ((rd_T51 l0_1 (rd t270 x24_1)).f0) < (t267.length : Int):=od_ qa_
                 obtain ⟨ad275,e275,hx275_0⟩:=Kd.at_int (rr_ HO_5.out).2.2 ((rd_T51 l0_1 (rd t270 x24_1)).f0) p275 q275
                 cases e275
                 replace p275:=eq_true p275
                 replace q275:=eq_true q275
                 have p276 : 0 ≤ (a1 : Int):=od_ qa_
                 have q276 : a1 < (l0_2.length : Int):=od_ qa_
                 obtain ⟨ad276,e276,hx276_0⟩:=Kd.at_int HR0_2.out a1 p276 q276
                 cases e276
                 replace hx276_0:=(HB.out.cell (wl_ w _ hx276_0)).trans hx276_0
                 replace p276:=eq_true p276
                 replace q276:=eq_true q276
                 have p277 : 0 ≤ ((rd l0_2 a1) : Int):=od_ qa_
                 have q277 : (rd l0_2 a1) < (t267.length : Int):=od_ qa_
                 obtain ⟨ad277,e277,hx277_0⟩:=Kd.at_int (rr_ HO_5.out).2.2 (rd l0_2 a1) p277 q277
                 obtain rfl : ad275 = ad277:=(by injection e277)
                 replace p277:=eq_true p277
                 replace q277:=eq_true q277
                 go_wp2_with (first|((with_reducible refine gate_builtin (b:=.append) (xs:=#[.tmp 46,.tmp 48]) rfl ?_);at_builtin;refine Kd.R_append (Kd.int .i64) (w0:=w) w.heap.size rfl (.tmp 46) (.tmp 48) 23 3 (.int .i64 0) 8 rfl Try.underlying23 info3 rfl (by decide) (by omega) u6 x6_1 (rd t270 x24_1) [.int .i64 (rd t270 x24_1)] (fun k_ => some k_ ≠ (.slice (some ad275) t267.length co29 : Value).ownBlock ∧ some k_ ≠ (.slice (some ad273) t270.length co14 : Value).ownBlock) (fun _ => False) rfl rfl ?aP (fun _ hk => hk.elim) ?aF ?aO ?aB ?aS ?aL ?_;(case aP => exact rfl);(case aB => exact (qc_ HB GE265));(case aF => exact (fun k_ hk => ⟨Kd.fresh' (Kd.R_lt (qr_ HO_5)) k_ hk,Kd.fresh' (Kd.R_lt (qr_ HO_22)) k_ hk⟩));(case aO => exact (qr_ HO_6));(case aS => exact (bz_ (qc_ HB GE265)));(case aL => have:=LMc27.out;omega);intro v279 w30 ho hb hg hat;rw [← Ny278.out] at ho;have n0_:=mk_ (Kd.R_after (ok:=(fun k_ => some k_ ≠ (.slice (some ad273) t270.length co14 : Value).ownBlock)) (by (with_reducible repeat (first|apply ra_|apply rn_|apply rd_));exact rm_ HO_5.out (fun _ hk => ⟨hk.2,hk.1⟩)) hg hat);have n1_:=mk_ (Kd.R_after (ok:=(fun k_ => some k_ ≠ (.slice (some ad275) t267.length co29 : Value).ownBlock)) (qr_ HO_22) hg hat);have n2_:=mk_ (blk_grown (g:=gb265) (o:=.cells #[.int .i64 a0_0,.slice (some ad274) l0_1.length c0_1,.slice (some ad276) l0_2.length c0_2,.slice A0_3 l0_3.length c0_3] 30 (0,0)) (qk_ BK265) hg (Kd.R_ne HO_6.out BK265.out (by decide)));have n3_:=mk_ (hb);have n4_:=mk_ (ho);clear HO_5;clear HO_22;clear BK265;clear HB;clear HO_6;have HO_5:=n0_;have HO_22:=n1_;have BK265:=n2_;have HB:=n3_;have HO280:=n4_;clear n0_ n1_ n2_ n3_ n4_;clear ho hb hg hat))
                 repeat (go_quiet (first|((with_reducible refine gate_builtin (b:=.append) (xs:=#[.tmp 46,.tmp 48]) rfl ?_);at_builtin;refine Kd.R_append (Kd.int .i64) (w0:=w) w.heap.size rfl (.tmp 46) (.tmp 48) 23 3 (.int .i64 0) 8 rfl Try.underlying23 info3 rfl (by decide) (by omega) u6 x6_1 (rd t270 x24_1) [.int .i64 (rd t270 x24_1)] (fun k_ => some k_ ≠ (.slice (some ad275) t267.length co29 : Value).ownBlock ∧ some k_ ≠ (.slice (some ad273) t270.length co14 : Value).ownBlock) (fun _ => False) rfl rfl ?aP (fun _ hk => hk.elim) ?aF ?aO ?aB ?aS ?aL ?_;(case aP => exact rfl);(case aB => exact (qc_ HB GE265));(case aF => exact (fun k_ hk => ⟨Kd.fresh' (Kd.R_lt (qr_ HO_5)) k_ hk,Kd.fresh' (Kd.R_lt (qr_ HO_22)) k_ hk⟩));(case aO => exact (qr_ HO_6));(case aS => exact (bz_ (qc_ HB GE265)));(case aL => have:=LMc27.out;omega);intro v279 w30 ho hb hg hat;rw [← Ny278.out] at ho;have n0_:=mk_ (Kd.R_after (ok:=(fun k_ => some k_ ≠ (.slice (some ad273) t270.length co14 : Value).ownBlock)) (by (with_reducible repeat (first|apply ra_|apply rn_|apply rd_));exact rm_ HO_5.out (fun _ hk => ⟨hk.2,hk.1⟩)) hg hat);have n1_:=mk_ (Kd.R_after (ok:=(fun k_ => some k_ ≠ (.slice (some ad275) t267.length co29 : Value).ownBlock)) (qr_ HO_22) hg hat);have n2_:=mk_ (blk_grown (g:=gb265) (o:=.cells #[.int .i64 a0_0,.slice (some ad274) l0_1.length c0_1,.slice (some ad276) l0_2.length c0_2,.slice A0_3 l0_3.length c0_3] 30 (0,0)) (qk_ BK265) hg (Kd.R_ne HO_6.out BK265.out (by decide)));have n3_:=mk_ (hb);have n4_:=mk_ (ho);clear HO_5;clear HO_22;clear BK265;clear HB;clear HO_6;have HO_5:=n0_;have HO_22:=n1_;have BK265:=n2_;have HB:=n3_;have HO280:=n4_;clear n0_ n1_ n2_ n3_ n4_;clear ho hb hg hat));try go_wp2_with (first|((with_reducible refine gate_builtin (b:=.append) (xs:=#[.tmp 46,.tmp 48]) rfl ?_);at_builtin;refine Kd.R_append (Kd.int .i64) (w0:=w) w.heap.size rfl (.tmp 46) (.tmp 48) 23 3 (.int .i64 0) 8 rfl Try.underlying23 info3 rfl (by decide) (by omega) u6 x6_1 (rd t270 x24_1) [.int .i64 (rd t270 x24_1)] (fun k_ => some k_ ≠ (.slice (some ad275) t267.length co29 : Value).ownBlock ∧ some k_ ≠ (.slice (some ad273) t270.length co14 : Value).ownBlock) (fun _ => False) rfl rfl ?aP (fun _ hk => hk.elim) ?aF ?aO ?aB ?aS ?aL ?_;(case aP => exact rfl);(case aB => exact (qc_ HB GE265));(case aF => exact (fun k_ hk => ⟨Kd.fresh' (Kd.R_lt (qr_ HO_5)) k_ hk,Kd.fresh' (Kd.R_lt (qr_ HO_22)) k_ hk⟩));(case aO => exact (qr_ HO_6));(case aS => exact (bz_ (qc_ HB GE265)));(case aL => have:=LMc27.out;omega);intro v279 w30 ho hb hg hat;rw [← Ny278.out] at ho;have n0_:=mk_ (Kd.R_after (ok:=(fun k_ => some k_ ≠ (.slice (some ad273) t270.length co14 : Value).ownBlock)) (by (with_reducible repeat (first|apply ra_|apply rn_|apply rd_));exact rm_ HO_5.out (fun _ hk => ⟨hk.2,hk.1⟩)) hg hat);have n1_:=mk_ (Kd.R_after (ok:=(fun k_ => some k_ ≠ (.slice (some ad275) t267.length co29 : Value).ownBlock)) (qr_ HO_22) hg hat);have n2_:=mk_ (blk_grown (g:=gb265) (o:=.cells #[.int .i64 a0_0,.slice (some ad274) l0_1.length c0_1,.slice (some ad276) l0_2.length c0_2,.slice A0_3 l0_3.length c0_3] 30 (0,0)) (qk_ BK265) hg (Kd.R_ne HO_6.out BK265.out (by decide)));have n3_:=mk_ (hb);have n4_:=mk_ (ho);clear HO_5;clear HO_22;clear BK265;clear HB;clear HO_6;have HO_5:=n0_;have HO_22:=n1_;have BK265:=n2_;have HB:=n3_;have HO280:=n4_;clear n0_ n1_ n2_ n3_ n4_;clear ho hb hg hat)))
                 go_roundg k1
                 case measure => have:=HK1.out;omega
                 case rel => exact ⟨(y278),(wrap64 (x24_1 + 1)),qf_,H',⟨by have:=HK1.out;omega⟩,⟨by (with_reducible repeat (first|apply ra_|apply rn_|apply rd_));exact rm_ HO_5.out (fun _ hk => ⟨hk.2,hk.1⟩)⟩,⟨qr_ HO280⟩,⟨qr_ HO_22⟩,⟨qk_ BK265⟩,⟨u1_ HB GE265⟩⟩
                ·rw [if_neg c27] at H
                 exact absurd H (by simp)
               ·rw [if_neg c26] at H
                have c26b0 : ((rd t267 ((rd_T51 l0_1 (rd t270 x24_1)).f0)) == (rd t267 (rd l0_2 a1))) = false:=beq_eq_false_iff_ne.mpr c26
                have c26b1 : ((rd t267 ((rd_T51 l0_1 (rd t270 x24_1)).f0)) != (rd t267 (rd l0_2 a1))) = true:=bne_iff_ne.mpr c26
                have H':=mk_ H
                clear H
                have p273 : 0 ≤ (x24_1 : Int):=od_ qa_
                have q273 : x24_1 < (t270.length : Int):=od_ qa_
                obtain ⟨ad273,e273,hx273_0⟩:=Kd.at_int (rr_ HO_22.out).2.2 x24_1 p273 q273
                cases e273
                replace p273:=eq_true p273
                replace q273:=eq_true q273
                have hcz31_0 : wr.cell? ⟨gb265,0,none⟩ = some (.int .i64 a0_0):=(bc_ BK265.out 0).trans rfl
                have hcz31_1 : wr.cell? ⟨gb265,1,none⟩ = some (.slice A0_1 l0_1.length c0_1):=(bc_ BK265.out 1).trans rfl
                have hcz31_2 : wr.cell? ⟨gb265,2,none⟩ = some (.slice A0_2 l0_2.length c0_2):=(bc_ BK265.out 2).trans rfl
                have hcz31_3 : wr.cell? ⟨gb265,3,none⟩ = some (.slice A0_3 l0_3.length c0_3):=(bc_ BK265.out 3).trans rfl
                have hfz31_0:=bf_ BK265.out 0
                have hfz31_1:=bf_ BK265.out 1
                have hfz31_2:=bf_ BK265.out 2
                have hfz31_3:=bf_ BK265.out 3
                have p274 : 0 ≤ ((rd t270 x24_1) : Int):=od_ qa_
                have q274 : (rd t270 x24_1) < (l0_1.length : Int):=od_ qa_
                obtain ⟨ad274,e274,hx274_0,hx274_1,hx274_2⟩:=at_T51 HR0_1.out (rd t270 x24_1) p274 q274
                cases e274
                replace hx274_0:=(HB.out.cell (wl_ w _ hx274_0)).trans hx274_0
                replace hx274_1:=(HB.out.cell (wl_ w _ hx274_1)).trans hx274_1
                replace hx274_2:=(HB.out.cell (wl_ w _ hx274_2)).trans hx274_2
                replace p274:=eq_true p274
                replace q274:=eq_true q274
                obtain ⟨Ao32,co32,eo32⟩:=Kd.R_slice HO_5.out
                subst eo32
                have p275 : 0 ≤ (((rd_T51 l0_1 (rd t270 x24_1)).f0) : Int):=od_ qa_
                have q275 : ((rd_T51 l0_1 (rd t270 x24_1)).f0) < (t267.length : Int):=od_ qa_
                obtain ⟨ad275,e275,hx275_0⟩:=Kd.at_int (rr_ HO_5.out).2.2 ((rd_T51 l0_1 (rd t270 x24_1)).f0) p275 q275
                cases e275
                replace p275:=eq_true p275
                replace q275:=eq_true q275
                have p276 : 0 ≤ (a1 : Int):=od_ qa_
                have q276 : a1 < (l0_2.length : Int):=od_ qa_
                obtain ⟨ad276,e276,hx276_0⟩:=Kd.at_int HR0_2.out a1 p276 q276
                cases e276
                replace hx276_0:=(HB.out.cell (wl_ w _ hx276_0)).trans hx276_0
                replace p276:=eq_true p276
                replace q276:=eq_true q276
                have p277 : 0 ≤ ((rd l0_2 a1) : Int):=od_ qa_
                have q277 : (rd l0_2 a1) < (t267.length : Int):=od_ qa_
                obtain ⟨ad277,e277,hx277_0⟩:=Kd.at_int (rr_ HO_5.out).2.2 (rd l0_2 a1) p277 q277
                obtain rfl : ad275 = ad277:=(by injection e277)
                replace p277:=eq_true p277
                replace q277:=eq_true q277
                go_wp2
                repeat (go_quiet (fail);try go_wp2)
                go_roundg k1
                case measure => have:=HK1.out;omega
                case rel => exact ⟨(x6_1),(wrap64 (x24_1 + 1)),qf_,H',⟨by have:=HK1.out;omega⟩,⟨qr_ HO_5⟩,⟨qr_ HO_6⟩,⟨qr_ HO_22⟩,⟨qk_ BK265⟩,⟨u1_ HB GE265⟩⟩
              ·rw [if_neg c25] at H
               exact absurd H (by simp)
             ·rw [if_neg c24] at H
              exact absurd H (by simp)
            ·rw [if_neg c23] at H
             exact absurd H (by simp)
           ·rw [if_neg c22] at H
            exact absurd H (by simp)
          ·rw [if_neg c21] at H
           exact absurd H (by simp)
         ·rw [if_neg c20] at H
          exact absurd H (by simp)
        ·rw [if_neg c19] at H
         exact absurd H (by simp)
       ·rw [if_neg c18] at H
        exact absurd H (by simp)
      ·rw [if_neg c17] at H
       exact absurd H (by simp)
     ·rw [if_neg c16] at H
      exact absurd H (by simp)
    ·rw [if_neg c15] at H
     have c15b0 : decide (x24_1 < (t270.length : Int)) = false:=decide_eq_false c15
     clear c15
     obtain rfl:=Option.some.inj H
     go_wp2
     repeat (go_quiet (fail);try go_wp2)
     go_ret
     exact ⟨_,qe_,by (with_reducible repeat (first|apply ra_|apply rn_|apply rd_));exact rm_ HO_6.out (fun _ hk => trivial),u1_ HB GE265⟩
 ·replace c4:=Bool.eq_false_iff.mpr c4
  subst c4
  have H1 : (some ([] : List Int)) = some r:=by rw [if_neg (show ¬ (false = true) by decide)] at H;exact H
  clear H
  have H:=H1
  clear H1
  obtain rfl:=Option.some.inj H
  go_enter Try.func32,Try.ntmps32
  go_wp2_with (first|((with_reducible refine gate_dst (N:=2) rfl ?_);refine box_event ?hg (N:=2) ?hd (cs:=#[.int .i64 a0_0,.slice A0_1 l0_1.length c0_1,.slice A0_2 l0_2.length c0_2,.slice A0_3 l0_3.length c0_3]) (t:=30) ?hr ?_;(case hd => rfl);(case hg => rfl);(case hr => first|(go_simp;done)|(go_simp;rfl));intro gb265 hg w33 hbox hb;have n0_:=mk_ (st_ (qb_ HB) hb);have n1_:=mk_ (hbox);have n2_:=mk_ ((by rw [hg];exact (bz_ (qb_ HB)) : w.heap.size ≤ gb265));have n3_:=mk_ ((by rw [hg];exact (bz_ (qb_ HB)) : w.heap.size ≤ gb265));clear HB;have HB:=n0_;have BK265:=n1_;have GW265:=n2_;have GE265:=n3_;clear n0_ n1_ n2_ n3_;clear hb hbox hg;have hcz34_0 : w33.cell? ⟨gb265,0,none⟩ = some (.int .i64 a0_0):=(bc_ BK265.out 0).trans rfl;have hcz34_1 : w33.cell? ⟨gb265,1,none⟩ = some (.slice A0_1 l0_1.length c0_1):=(bc_ BK265.out 1).trans rfl;have hcz34_2 : w33.cell? ⟨gb265,2,none⟩ = some (.slice A0_2 l0_2.length c0_2):=(bc_ BK265.out 2).trans rfl;have hcz34_3 : w33.cell? ⟨gb265,3,none⟩ = some (.slice A0_3 l0_3.length c0_3):=(bc_ BK265.out 3).trans rfl;have hfz34_0:=bf_ BK265.out 0;have hfz34_1:=bf_ BK265.out 1;have hfz34_2:=bf_ BK265.out 2;have hfz34_3:=bf_ BK265.out 3)|(go_at_call 54;(with_reducible refine (impl_Net_station.calls a0_0 _ _ l0_1 _ _ l0_2 _ _ l0_3 a1 false _ ?side1 ?side2 ?side3 ?side4 ?side5 ?side6 A3.out).mono ?_);(case side1 => exact qn_ HR0_1 HB);(case side2 => exact HC0_1.out);(case side3 => exact qn_ HR0_2 HB);(case side4 => exact HC0_2.out);(case side5 => exact qn_ HR0_3 HB);(case side6 => exact HC0_3.out);rintro e w35 ⟨rfl,hb⟩;have n0_:=mk_ (blk_below (g:=gb265) (o:=.cells #[.int .i64 a0_0,.slice A0_1 l0_1.length c0_1,.slice A0_2 l0_2.length c0_2,.slice A0_3 l0_3.length c0_3] 30 (0,0)) (qk_ BK265) hb);have n1_:=mk_ (st_ (qc_ HB GE265) hb);clear BK265;clear HB;have BK265:=n0_;have HB:=n1_;clear n0_ n1_;(try clear hb);(try clear hb2);(try clear hk);(try clear hi)))
  repeat (go_quiet (first|((with_reducible refine gate_dst (N:=2) rfl ?_);refine box_event ?hg (N:=2) ?hd (cs:=#[.int .i64 a0_0,.slice A0_1 l0_1.length c0_1,.slice A0_2 l0_2.length c0_2,.slice A0_3 l0_3.length c0_3]) (t:=30) ?hr ?_;(case hd => rfl);(case hg => rfl);(case hr => first|(go_simp;done)|(go_simp;rfl));intro gb265 hg w33 hbox hb;have n0_:=mk_ (st_ (qb_ HB) hb);have n1_:=mk_ (hbox);have n2_:=mk_ ((by rw [hg];exact (bz_ (qb_ HB)) : w.heap.size ≤ gb265));have n3_:=mk_ ((by rw [hg];exact (bz_ (qb_ HB)) : w.heap.size ≤ gb265));clear HB;have HB:=n0_;have BK265:=n1_;have GW265:=n2_;have GE265:=n3_;clear n0_ n1_ n2_ n3_;clear hb hbox hg;have hcz34_0 : w33.cell? ⟨gb265,0,none⟩ = some (.int .i64 a0_0):=(bc_ BK265.out 0).trans rfl;have hcz34_1 : w33.cell? ⟨gb265,1,none⟩ = some (.slice A0_1 l0_1.length c0_1):=(bc_ BK265.out 1).trans rfl;have hcz34_2 : w33.cell? ⟨gb265,2,none⟩ = some (.slice A0_2 l0_2.length c0_2):=(bc_ BK265.out 2).trans rfl;have hcz34_3 : w33.cell? ⟨gb265,3,none⟩ = some (.slice A0_3 l0_3.length c0_3):=(bc_ BK265.out 3).trans rfl;have hfz34_0:=bf_ BK265.out 0;have hfz34_1:=bf_ BK265.out 1;have hfz34_2:=bf_ BK265.out 2;have hfz34_3:=bf_ BK265.out 3)|(go_at_call 54;(with_reducible refine (impl_Net_station.calls a0_0 _ _ l0_1 _ _ l0_2 _ _ l0_3 a1 false _ ?side1 ?side2 ?side3 ?side4 ?side5 ?side6 A3.out).mono ?_);(case side1 => exact qn_ HR0_1 HB);(case side2 => exact HC0_1.out);(case side3 => exact qn_ HR0_2 HB);(case side4 => exact HC0_2.out);(case side5 => exact qn_ HR0_3 HB);(case side6 => exact HC0_3.out);rintro e w35 ⟨rfl,hb⟩;have n0_:=mk_ (blk_below (g:=gb265) (o:=.cells #[.int .i64 a0_0,.slice A0_1 l0_1.length c0_1,.slice A0_2 l0_2.length c0_2,.slice A0_3 l0_3.length c0_3] 30 (0,0)) (qk_ BK265) hb);have n1_:=mk_ (st_ (qc_ HB GE265) hb);clear BK265;clear HB;have BK265:=n0_;have HB:=n1_;clear n0_ n1_;(try clear hb);(try clear hb2);(try clear hk);(try clear hi)));try go_wp2_with (first|((with_reducible refine gate_dst (N:=2) rfl ?_);refine box_event ?hg (N:=2) ?hd (cs:=#[.int .i64 a0_0,.slice A0_1 l0_1.length c0_1,.slice A0_2 l0_2.length c0_2,.slice A0_3 l0_3.length c0_3]) (t:=30) ?hr ?_;(case hd => rfl);(case hg => rfl);(case hr => first|(go_simp;done)|(go_simp;rfl));intro gb265 hg w33 hbox hb;have n0_:=mk_ (st_ (qb_ HB) hb);have n1_:=mk_ (hbox);have n2_:=mk_ ((by rw [hg];exact (bz_ (qb_ HB)) : w.heap.size ≤ gb265));have n3_:=mk_ ((by rw [hg];exact (bz_ (qb_ HB)) : w.heap.size ≤ gb265));clear HB;have HB:=n0_;have BK265:=n1_;have GW265:=n2_;have GE265:=n3_;clear n0_ n1_ n2_ n3_;clear hb hbox hg;have hcz34_0 : w33.cell? ⟨gb265,0,none⟩ = some (.int .i64 a0_0):=(bc_ BK265.out 0).trans rfl;have hcz34_1 : w33.cell? ⟨gb265,1,none⟩ = some (.slice A0_1 l0_1.length c0_1):=(bc_ BK265.out 1).trans rfl;have hcz34_2 : w33.cell? ⟨gb265,2,none⟩ = some (.slice A0_2 l0_2.length c0_2):=(bc_ BK265.out 2).trans rfl;have hcz34_3 : w33.cell? ⟨gb265,3,none⟩ = some (.slice A0_3 l0_3.length c0_3):=(bc_ BK265.out 3).trans rfl;have hfz34_0:=bf_ BK265.out 0;have hfz34_1:=bf_ BK265.out 1;have hfz34_2:=bf_ BK265.out 2;have hfz34_3:=bf_ BK265.out 3)|(go_at_call 54;(with_reducible refine (impl_Net_station.calls a0_0 _ _ l0_1 _ _ l0_2 _ _ l0_3 a1 false _ ?side1 ?side2 ?side3 ?side4 ?side5 ?side6 A3.out).mono ?_);(case side1 => exact qn_ HR0_1 HB);(case side2 => exact HC0_1.out);(case side3 => exact qn_ HR0_2 HB);(case side4 => exact HC0_2.out);(case side5 => exact qn_ HR0_3 HB);(case side6 => exact HC0_3.out);rintro e w35 ⟨rfl,hb⟩;have n0_:=mk_ (blk_below (g:=gb265) (o:=.cells #[.int .i64 a0_0,.slice A0_1 l0_1.length c0_1,.slice A0_2 l0_2.length c0_2,.slice A0_3 l0_3.length c0_3] 30 (0,0)) (qk_ BK265) hb);have n1_:=mk_ (st_ (qc_ HB GE265) hb);clear BK265;clear HB;have BK265:=n0_;have HB:=n1_;clear n0_ n1_;(try clear hb);(try clear hb2);(try clear hk);(try clear hi))))
  go_ret
  exact ⟨_,qe_,by first|exact Kd.R_nil _ _ _ _ _|exact Kd.N_nil _ _ _ _ _|exact Kd.V_nil _ _ _ _ _|exact Kd.Q_nil _ _ _ _ _|exact Kd.S_nil _ _ _ _ _,u1_ HB GE265⟩

/-- A state of type 84 at block g of W;what its slices lead to came in by w0. -/
def IsS84 (w0 W : World) (g : Nat) (f0 : List Int) (f1 : Int) : Prop:=∃ A0 c0,W.heap[g]? = some (.cells #[.slice A0 f0.length c0,.int .i64 f1] 84 (0,0)) ∧ w0.heap.size ≤ g ∧ Kd.C (Kd.int .u8) w0 A0 f0.length f0
theorem IsS84.grown {w0 W : World} {g : Nat} {f0 : List Int} {f1 : Int} {W1 : World} {row : Option Nat} (h : IsS84 w0 W g f0 f1) (hw : W.grownBy W1 row) (hne : some g ≠ row) : IsS84 w0 W1 g f0 f1:=by
 obtain ⟨A0,c0,hb,hg,hr0⟩:=h
 exact ⟨A0,c0,blk_grown hb hw hne,hg,hr0⟩
theorem IsS84.own_neN {w0 W : World} {g : Nat} {f0 : List Int} {f1 : Int} {α : Type} {d : Kd α} {e : Nat} {base : Nat} {ok : Nat → Prop} {v : Value} {xs : List α} (h : IsS84 w0 W g f0 f1) (ho : Kd.N d e W base ok v xs) (ht : e ≠ 84) : some g ≠ v.ownBlock:=by
 obtain ⟨A0,c0,hb,hg,hr0⟩:=h
 exact Kd.N_ne ho hb ht
theorem IsS84.fresh {w0 W : World} {g : Nat} {f0 : List Int} {f1 : Int} (h : IsS84 w0 W g f0 f1) : ∀ k,W.heap.size ≤ k → k ≠ g:=by
 obtain ⟨A0,c0,hb,hg,hr0⟩:=h
 exact Kd.freshB hb
theorem IsS84.kept {w0 W : World} {g : Nat} {f0 : List Int} {f1 : Int} {W1 : World} {S : Nat → Prop} (h : IsS84 w0 W g f0 f1) (hk : Kept W W1 S) (hne : ¬ S g) : IsS84 w0 W1 g f0 f1:=by
 obtain ⟨A0,c0,hb,hg,hr0⟩:=h
 exact ⟨A0,c0,blk_kept hb hk hne,hg,hr0⟩
theorem IsS84.below {w0 W : World} {g : Nat} {f0 : List Int} {f1 : Int} {W1 : World} (h : IsS84 w0 W g f0 f1) (hw : Below W.heap.size W W1) : IsS84 w0 W1 g f0 f1:=h.grown (grown_of_below hw none) (by simp)
theorem IsS84.alloc {w0 W : World} {g : Nat} {f0 : List Int} {f1 : Int} (h : IsS84 w0 W g f0 f1) (o : Obj) : IsS84 w0 (W.alloc o) g f0 f1:=h.below (ba_ (Below.refl _ _) o)
theorem IsS84.drewN {w0 W : World} {g : Nat} {f0 : List Int} {f1 : Int} (h : IsS84 w0 W g f0 f1) (m : Nat) : IsS84 w0 (W.drewN m) g f0 f1:=h
theorem IsS84.drew {w0 W : World} {g : Nat} {f0 : List Int} {f1 : Int} (h : IsS84 w0 W g f0 f1) : IsS84 w0 W.drew g f0 f1:=h
theorem IsS84.at_ {w0 W : World} {g : Nat} {f0 : List Int} {f1 : Int} {w' : World} {m : Nat} (hq : W.drewN m = w') (h : IsS84 w0 W g f0 f1) : IsS84 w0 w' g f0 f1:=by subst hq;exact IsS84.drewN h m
theorem IsS84.apart {w0 W : World} {g : Nat} {f0 : List Int} {f1 : Int} {α : Type} {d : Kd α} {e : Nat} {base : Nat} {ok : Nat → Prop} {v : Value} {xs : List α} (h : IsS84 w0 W g f0 f1) (ho : d.R e W base ok v xs) (ht : ∀ q,q ∈ e :: d.E → q ≠ 84) : d.R e W base (fun k => ok k ∧ k ≠ g) v xs:=by
 obtain ⟨A0,c0,hb,hg,hr0⟩:=h
 exact rt_ ho hb ht
theorem IsS84.own_ne {w0 W : World} {g : Nat} {f0 : List Int} {f1 : Int} {α : Type} {d : Kd α} {e : Nat} {base : Nat} {ok : Nat → Prop} {v : Value} {xs : List α} (h : IsS84 w0 W g f0 f1) (ho : d.R e W base ok v xs) (ht : e ≠ 84) : some g ≠ v.ownBlock:=by
 obtain ⟨A0,c0,hb,hg,hr0⟩:=h
 exact Kd.R_ne ho hb ht
theorem IsS84.apartQ {w0 W : World} {g : Nat} {f0 : List Int} {f1 : Int} {α : Type} {d : Kd α} {e : Nat} {base : Nat} {ok : Nat → Prop} {v : Value} {xs : List α} (h : IsS84 w0 W g f0 f1) (ho : d.Q e W base ok v xs) (ht : ∀ q,q ∈ e :: d.E → q ≠ 84) : d.Q e W base (fun k => ok k ∧ k ≠ g) v xs:=by
 obtain ⟨A0,c0,hb,hg,hr0⟩:=h
 exact Kd.Q_types ho hb ht
theorem IsS84.own_neQ {w0 W : World} {g : Nat} {f0 : List Int} {f1 : Int} {α : Type} {d : Kd α} {e : Nat} {base : Nat} {ok : Nat → Prop} {v : Value} {xs : List α} (h : IsS84 w0 W g f0 f1) (ho : d.Q e W base ok v xs) (ht : e ≠ 84) : some g ≠ v.ownBlock:=by
 obtain ⟨A0,c0,hb,hg,hr0⟩:=h
 exact Kd.Q_ne ho hb ht
theorem IsS84.apartS {w0 W : World} {g : Nat} {f0 : List Int} {f1 : Int} {α : Type} {d : Kd α} {e : Nat} {base : Nat} {ok : Nat → Prop} {v : Value} {xs : List α} (h : IsS84 w0 W g f0 f1) (ho : d.S e W base ok v xs) (ht : ∀ q,q ∈ e :: d.E → q ≠ 84) : d.S e W base (fun k => ok k ∧ k ≠ g) v xs:=by
 obtain ⟨A0,c0,hb,hg,hr0⟩:=h
 exact Kd.S_types ho hb ht
theorem IsS84.own_neS {w0 W : World} {g : Nat} {f0 : List Int} {f1 : Int} {α : Type} {d : Kd α} {e : Nat} {base : Nat} {ok : Nat → Prop} {v : Value} {xs : List α} (h : IsS84 w0 W g f0 f1) (ho : d.S e W base ok v xs) (ht : e ≠ 84) : some g ≠ v.ownBlock:=by
 obtain ⟨A0,c0,hb,hg,hr0⟩:=h
 exact Kd.S_ne ho hb ht
theorem IsS84.lt {w0 W : World} {g : Nat} {f0 : List Int} {f1 : Int} (h : IsS84 w0 W g f0 f1) : g < W.heap.size:=by
 obtain ⟨A0,c0,hb,hg,hr0⟩:=h
 exact blk_lt hb
theorem IsS84.ge {w0 W : World} {g : Nat} {f0 : List Int} {f1 : Int} (h : IsS84 w0 W g f0 f1) : w0.heap.size ≤ g:=by
 obtain ⟨A0,c0,hb,hg,hr0⟩:=h
 exact hg
theorem IsS84.ne_blk {w0 W : World} {g : Nat} {f0 : List Int} {f1 : Int} {a : Nat} {cs : Array Value} {t : TypeId} {fr : Nat × Nat} (h : IsS84 w0 W g f0 f1) (hb2 : W.heap[a]? = some (.cells cs t fr)) (ht : t ≠ 84) : g ≠ a:=by
 obtain ⟨A0,c0,hb,hg,hr0⟩:=h
 rintro rfl
 rw [hb] at hb2
 injection hb2 with hb2
 injection hb2 with _ ht2
 exact ht ht2.symm
theorem IsS84.far {w0 W : World} {g : Nat} {f0 : List Int} {f1 : Int} {p : Addr} (h : IsS84 w0 W g f0 f1) (hne : g ≠ p.block) (u : Value) : IsS84 w0 (W.setCell p u) g f0 f1:=by
 obtain ⟨A0,c0,hb,hg,hr0⟩:=h
 exact ⟨A0,c0,blk_far hb hne u,hg,hr0⟩
theorem cellS84_0 {W : World} {g : Nat} {A0 : Option Addr} {c0 : Nat} {f0 : List Int} {f1 : Int} (h : W.heap[g]? = some (.cells #[.slice A0 f0.length c0,.int .i64 f1] 84 (0,0))) : W.cell? ⟨g,0,none⟩ = some (.slice A0 f0.length c0):=(bc_ h 0).trans rfl
theorem cellS84_1 {W : World} {g : Nat} {A0 : Option Addr} {c0 : Nat} {f0 : List Int} {f1 : Int} (h : W.heap[g]? = some (.cells #[.slice A0 f0.length c0,.int .i64 f1] 84 (0,0))) : W.cell? ⟨g,1,none⟩ = some (.int .i64 f1):=(bc_ h 1).trans rfl
theorem IsS84.set_1 {w0 W : World} {g : Nat} {f0 : List Int} {f1 : Int} (h : IsS84 w0 W g f0 f1) (x : Int) : IsS84 w0 (W.setCell ⟨g,1,none⟩ (.int .i64 x)) g f0 x:=by
 obtain ⟨A0,c0,hb,hg,hr0⟩:=h
 exact ⟨A0,c0,by simpa using blk_set hb 1 (.int .i64 x),hg,hr0⟩
theorem IsS84.new (w0 W : World) (A0 : Option Addr) (c0 : Nat) (f0 : List Int) (f1 : Int) (hB : Below w0.heap.size w0 W) (hr0 : Kd.C (Kd.int .u8) w0 A0 f0.length f0) : IsS84 w0 (W.alloc (.cells #[.slice A0 f0.length c0,.int .i64 f1] 84)) W.heap.size f0 f1:=⟨A0,c0,by simpa using heap_alloc_new W _,hB.size,hr0⟩

/-! ### spec_l21Open: function 51 -/
def spec_l21Open.f (l0 : List Int) : Option (List Int × Int):=if (l0.length : Int) > 2000 then (if 2000 ≤ (l0.length : Int) then (some (l0.take 2000,0)) else (none)) else (some (l0,0))
set_option maxHeartbeats 8000000 in
set_option maxRecDepth 100000 in
theorem spec_l21Open.calls (A0 : Option Addr) (c0 : Nat) (l0 : List Int) (r1 : List Int) (r2 : Int) (w0 w : World) (hB : Below w0.heap.size w0 w) (hr0 : Kd.C (Kd.int .u8) w0 A0 l0.length l0) (hc0 : l0.length ≤ c0) (h : spec_l21Open.f l0 = some (r1,r2)) :
  Calls Try.prog 51 #[.slice A0 l0.length c0] w fun e w' => ∃ g_ : Nat,e = .returned (.pointer (some ⟨g_,0,none⟩)) ∧ IsS84 w0 w' g_ r1 r2 ∧ Below w0.heap.size w0 w' ∧ Below w.heap.size w w':=by
 have hu84:=Try.underlying84
 have HR0:=mk_ hr0
 have HC0:=mk_ hc0
 clear hr0 hc0
 have HBW:=mk_ (Below.refl w.heap.size w)
 have HW0:=mk_ hB.size
 have HB:=mk_ hB
 clear hB
 have H : (if (l0.length : Int) > 2000 then (if 2000 ≤ (l0.length : Int) then (some (l0.take 2000,0)) else (none)) else (some (l0,0))) = some (r1,r2):=h
 clear h
 by_cases c2 : (l0.length : Int) > 2000
 ·rw [if_pos c2] at H
  have c2b0 : decide (2000 < (l0.length : Int)) = true:=decide_eq_true c2
  have c2b1 : decide (2000 < l0.length) = true:=decide_eq_true (by omega)
  clear c2
  by_cases c3 : 2000 ≤ (l0.length : Int)
  ·rw [if_pos c3] at H
   have c3b0:=eq_true c3
   have c3b1 : decide (2000 ≤ (l0.length : Int)) = true:=decide_eq_true c3
   clear c3
   simp only [Option.some.injEq,Prod.mk.injEq] at H
   obtain ⟨rfl,rfl⟩:=H
   obtain ⟨i04,hi04,_,hsz4,_⟩:=info_parts info5
   obtain ⟨hcut4,hA4,hC4⟩:=print_take_of (P:=Try.prog) (Value.int .u8) 0 34 5 .i64 Try.underlying34 hi04 hsz4 A0 c0 l0 2000 (by omega) (od_ qa_) HC0.out
   have HR281:=mk_ (Kd.C_of_reads (h1:=fun _ => rfl) (hA4 _ (Kd.reads_of_C HR0.out)))
   have HC281:=mk_ hC4
   clear hA4 hC4 hi04 hsz4
   go_enter Try.func51,Try.ntmps51
   go_wp2_with (first|((with_reducible refine gate_dst (N:=10) rfl ?_);refine box_event ?hg (N:=10) ?hd (cs:=#[.slice A0 (l0.take 2000).length c0,.int .i64 0]) (t:=84) ?hr ?_;(case hd => rfl);(case hg => rfl);(case hr => first|(go_simp;done)|(go_simp;rfl));intro gb282 hg w5 hbox hb;have n0_:=mk_ (st_ HBW.out hb);have n1_:=mk_ (st_ (qb_ HB) hb);have n2_:=mk_ (hbox);have n3_:=mk_ ((by rw [hg];exact (bz_ (u0_ HBW)) : w.heap.size ≤ gb282));have n4_:=mk_ ((Nat.le_trans HW0.out (by rw [hg];exact (bz_ (u0_ HBW)) : w.heap.size ≤ gb282) : w0.heap.size ≤ gb282));clear HBW;clear HB;have HBW:=n0_;have HB:=n1_;have BK282:=n2_;have GW282:=n3_;have GE282:=n4_;clear n0_ n1_ n2_ n3_ n4_;clear hb hbox hg))
   go_ret
   exact ⟨_,rfl,(show IsS84 w0 _ gb282 (l0.take 2000) 0 from ⟨_,_,qk_ BK282,GE282.out,HR281.out⟩),u1_ HB GE282,u1_ HBW GW282⟩
  ·rw [if_neg c3] at H
   exact absurd H (by simp)
 ·rw [if_neg c2] at H
  have c2b0 : decide (2000 < (l0.length : Int)) = false:=decide_eq_false c2
  have c2b1 : decide (2000 < l0.length) = false:=decide_eq_false (by omega)
  clear c2
  simp only [Option.some.injEq,Prod.mk.injEq] at H
  obtain ⟨rfl,rfl⟩:=H
  go_enter Try.func51,Try.ntmps51
  go_wp2_with (first|((with_reducible refine gate_dst (N:=10) rfl ?_);refine box_event ?hg (N:=10) ?hd (cs:=#[.slice A0 l0.length c0,.int .i64 0]) (t:=84) ?hr ?_;(case hd => rfl);(case hg => rfl);(case hr => first|(go_simp;done)|(go_simp;rfl));intro gb283 hg w6 hbox hb;have n0_:=mk_ (st_ HBW.out hb);have n1_:=mk_ (st_ (qb_ HB) hb);have n2_:=mk_ (hbox);have n3_:=mk_ ((by rw [hg];exact (bz_ (u0_ HBW)) : w.heap.size ≤ gb283));have n4_:=mk_ ((Nat.le_trans HW0.out (by rw [hg];exact (bz_ (u0_ HBW)) : w.heap.size ≤ gb283) : w0.heap.size ≤ gb283));clear HBW;clear HB;have HBW:=n0_;have HB:=n1_;have BK283:=n2_;have GW283:=n3_;have GE283:=n4_;clear n0_ n1_ n2_ n3_ n4_;clear hb hbox hg))
  go_ret
  exact ⟨_,rfl,(show IsS84 w0 _ gb283 l0 0 from ⟨_,_,qk_ BK283,GE283.out,HR0.out⟩),u1_ HB GE283,u1_ HBW GW283⟩

/-! ### spec_l21Rd_pick: function 53 -/
def spec_l21Rd_pick.j0 : Nat → Int → Bool → List Int → Int → Option (Int × Int)
 | 0,_,_,_,_ => none
 | k + 1,x1,x24,x1000,x1001 => if x24 = true then (some (0,x1001)) else (if (wrap64 (x1001 - 1)) < (x1000.length : Int) then (if 0 ≤ (wrap64 (x1001 - 1)) then (if x1 = 0 then (none) else (some (Int.tmod (wrap64 (rd x1000 (wrap64 (x1001 - 1)))) x1,x1001))) else (none)) else (if (x1000.length : Int) = 0 then (none) else (if 0 ≤ (Int.tmod (wrap64 (x1001 - 1)) (x1000.length : Int)) then (if (Int.tmod (wrap64 (x1001 - 1)) (x1000.length : Int)) < (x1000.length : Int) then (if 0 ≤ (Int.tmod (wrap64 ((wrap64 ((wrap64 (x1001 - 1)) * 7)) + 3)) (x1000.length : Int)) then (if (Int.tmod (wrap64 ((wrap64 ((wrap64 (x1001 - 1)) * 7)) + 3)) (x1000.length : Int)) < (x1000.length : Int) then (if x1 = 0 then (none) else (some (Int.tmod (Go.bits .xor .i64 (wrap64 ((wrap64 ((wrap64 ((wrap64 ((wrap64 (rd x1000 (Int.tmod (wrap64 (x1001 - 1)) (x1000.length : Int)))) * 131)) + (wrap64 ((wrap64 (rd x1000 (Int.tmod (wrap64 ((wrap64 ((wrap64 (x1001 - 1)) * 7)) + 3)) (x1000.length : Int)))) * 1117)))) + (wrap64 ((wrap64 (x1001 - 1)) * 29)))) + (wrap64 ((wrap64 (Int.tdiv (wrap64 (x1001 - 1)) (x1000.length : Int))) * 53)))) (wrap64 (Int.tdiv (wrap64 ((wrap64 ((wrap64 ((wrap64 ((wrap64 (rd x1000 (Int.tmod (wrap64 (x1001 - 1)) (x1000.length : Int)))) * 131)) + (wrap64 ((wrap64 (rd x1000 (Int.tmod (wrap64 ((wrap64 ((wrap64 (x1001 - 1)) * 7)) + 3)) (x1000.length : Int)))) * 1117)))) + (wrap64 ((wrap64 (x1001 - 1)) * 29)))) + (wrap64 ((wrap64 (Int.tdiv (wrap64 (x1001 - 1)) (x1000.length : Int))) * 53)))) 64))) x1,x1001))) else (none)) else (none)) else (none)) else (none))))
def spec_l21Rd_pick.f (k : Nat) (s0_0 : List Int) (s0_1 : Int) (a1 : Int) : Option (Int × Int):=if a1 < 1 then (spec_l21Rd_pick.j0 k a1 true s0_0 (wrap64 (s0_1 + 1))) else (spec_l21Rd_pick.j0 k a1 ((s0_0.length : Int) == 0) s0_0 (wrap64 (s0_1 + 1)))
theorem spec_l21Rd_pick.mono_l : ∀ k,(∀ y0 y1 y2 y3,LeO (spec_l21Rd_pick.j0 k y0 y1 y2 y3) (spec_l21Rd_pick.j0 (k + 1) y0 y1 y2 y3))
 | 0 => fun _ _ _ _ r h => by simp [spec_l21Rd_pick.j0] at h
 | k + 1 => by
  have ih0:=spec_l21Rd_pick.mono_l k
  ·intro y0 y1 y2 y3
   unfold spec_l21Rd_pick.j0
   repeat' first
   | (with_reducible exact ih0 _ _ _ _)
   | (with_reducible exact LeO.refl _)
   | (with_reducible exact LeO.none _)
   | (with_reducible refine LeO.ite ?_ ?_)
   | (with_reducible refine LeO.bind ?_ (fun _ => ?_))
   | exact ih0 _ _ _ _
   | exact LeO.none _
   | refine LeO.ite ?_ ?_
   | refine LeO.bind ?_ (fun _ => ?_)
theorem spec_l21Rd_pick.mono : ∀ a0 a1 a2 k,LeO (spec_l21Rd_pick.f k a0 a1 a2) (spec_l21Rd_pick.f (k + 1) a0 a1 a2):=by
 intro a0 a1 a2 k
 have ih0:=spec_l21Rd_pick.mono_l k
 unfold spec_l21Rd_pick.f
 repeat' first
   | (with_reducible exact ih0 _ _ _ _)
   | (with_reducible exact LeO.refl _)
   | (with_reducible exact LeO.none _)
   | (with_reducible refine LeO.ite ?_ ?_)
   | (with_reducible refine LeO.bind ?_ (fun _ => ?_))
   | exact ih0 _ _ _ _
   | exact LeO.none _
   | refine LeO.ite ?_ ?_
   | refine LeO.bind ?_ (fun _ => ?_)
set_option maxHeartbeats 8000000 in
set_option maxRecDepth 100000 in
theorem spec_l21Rd_pick.calls (k : Nat) (g : Nat) (s0_0 : List Int) (s0_1 : Int) (a1 : Int) (r1 : Int) (r2 : Int) (w0 w : World) (hI : IsS84 w0 w g s0_0 s0_1) (hB : Below w0.heap.size w0 w) (h : spec_l21Rd_pick.f k s0_0 s0_1 a1 = some (r1,r2)) :
  Calls Try.prog 53 #[.pointer (some ⟨g,0,none⟩),.int .i64 a1] w fun e w' => e = .returned (.int .i64 r1) ∧ IsS84 w0 w' g s0_0 r2 ∧ Below w0.heap.size w0 w' ∧ KeepBut w w' g none:=by
 have HI0:=mk_ hI
 have HK:=mk_ (KeepBut.refl w g none)
 have HL:=mk_ hB.size
 clear hI
 have HW0:=mk_ hB.size
 have HB:=mk_ hB
 clear hB
 have H : (if a1 < 1 then (spec_l21Rd_pick.j0 k a1 true s0_0 (wrap64 (s0_1 + 1))) else (spec_l21Rd_pick.j0 k a1 ((s0_0.length : Int) == 0) s0_0 (wrap64 (s0_1 + 1)))) = some (r1,r2):=h
 clear h
 have HC3:=mk_ H
 clear H
 obtain ⟨ASz4_0,cSz4_0,HGz4,hgz4,HSz4_0⟩:=HI0.out
 have hcz4_0:=cellS84_0 HGz4
 have hcz4_1:=cellS84_1 HGz4
 have hfz4_1:=bf_ HGz4 1
 clear HGz4 hgz4
 go_enter Try.func53,Try.ntmps53
 go_upto_region 2 with (fail)
 repeat (go_quiet (fail);go_upto_region 2 with (fail))
 go_cut [24] (fun v24 wc => ∃ (kq : Nat) (x24_2 : Bool),v24 = .bool x24_2 ∧ Aside0 (spec_l21Rd_pick.j0 kq a1 x24_2 s0_0 (wrap64 (s0_1 + 1)) = some (r1,r2)) ∧ Aside0 (kq ≤ k) ∧ Aside0 (IsS84 w0 wc g s0_0 (wrap64 (s0_1 + 1))) ∧ Aside0 (KeepBut w wc g none) ∧ Aside0 (Below w0.heap.size w0 wc))
 case first =>
  have H:=HC3.out
  clear HC3
  by_cases c5 : a1 < 1
  ·rw [if_pos c5] at H
   have c5b0 : decide (a1 < 1) = true:=decide_eq_true c5
   clear c5
   (first|rw [c5b0]|(simp only [i64_w,i32_w];rw [c5b0])|skip)
   have H':=mk_ H
   clear H
   go_wp2
   repeat (go_quiet (fail);try go_wp2)
   go_meet
   case rel => exact ⟨_,(true),qf_,H',⟨by first|omega|exact Nat.le_refl _⟩,⟨u6_ HI0⟩,⟨u7_ HK⟩,⟨u8_ HB HI0⟩⟩
  ·rw [if_neg c5] at H
   have c5b0 : decide (a1 < 1) = false:=decide_eq_false c5
   clear c5
   (first|rw [c5b0]|(simp only [i64_w,i32_w];rw [c5b0])|skip)
   have H':=mk_ H
   clear H
   obtain ⟨ASz6_0,cSz6_0,HGz6,hgz6,HSz6_0⟩:=HI0.out
   have hcz6_0:=cellS84_0 HGz6
   have hcz6_1:=cellS84_1 HGz6
   have hfz6_1:=bf_ HGz6 1
   clear HGz6 hgz6
   go_wp2
   repeat (go_quiet (fail);try go_wp2)
   go_meet
   case rel => exact ⟨_,(((s0_0.length : Int) == 0)),qf_,H',⟨by first|omega|exact Nat.le_refl _⟩,⟨u6_ HI0⟩,⟨u7_ HK⟩,⟨u8_ HB HI0⟩⟩
 case rest =>
  clear HC3
  try clear p2
  try clear c5
  try clear c5b0
  try clear p6
  try clear hcz4_0
  try clear hcz4_1
  try clear hcz6_0
  try clear hcz6_1
  try clear hfz4_1
  try clear hfz6_1
  obtain ⟨kq,x24_2,rfl,HA,HJ2,HI0,HK,HB⟩:=hcut
  cases kq with
  | zero => exact absurd HA.out (by simp [spec_l21Rd_pick.j0])
  | succ kj2 =>
   have H:=HA.out
   clear HA
   simp only [spec_l21Rd_pick.j0] at H
   by_cases c7 : x24_2 = true
   ·subst c7
    have H1 : (some (0,(wrap64 (s0_1 + 1)))) = some (r1,r2):=by rw [if_pos rfl] at H;exact H
    clear H
    have H:=H1
    clear H1
    simp only [Option.some.injEq,Prod.mk.injEq] at H
    obtain ⟨rfl,rfl⟩:=H
    go_wp2
    repeat (go_quiet (fail);try go_wp2)
    go_ret
    exact ⟨qe_,u6_ HI0,u8_ HB HI0,u7_ HK⟩
   ·replace c7:=Bool.eq_false_iff.mpr c7
    subst c7
    have H1 : (if (wrap64 ((wrap64 (s0_1 + 1)) - 1)) < (s0_0.length : Int) then (if 0 ≤ (wrap64 ((wrap64 (s0_1 + 1)) - 1)) then (if a1 = 0 then (none) else (some (Int.tmod (wrap64 (rd s0_0 (wrap64 ((wrap64 (s0_1 + 1)) - 1)))) a1,(wrap64 (s0_1 + 1))))) else (none)) else (if (s0_0.length : Int) = 0 then (none) else (if 0 ≤ (Int.tmod (wrap64 ((wrap64 (s0_1 + 1)) - 1)) (s0_0.length : Int)) then (if (Int.tmod (wrap64 ((wrap64 (s0_1 + 1)) - 1)) (s0_0.length : Int)) < (s0_0.length : Int) then (if 0 ≤ (Int.tmod (wrap64 ((wrap64 ((wrap64 ((wrap64 (s0_1 + 1)) - 1)) * 7)) + 3)) (s0_0.length : Int)) then (if (Int.tmod (wrap64 ((wrap64 ((wrap64 ((wrap64 (s0_1 + 1)) - 1)) * 7)) + 3)) (s0_0.length : Int)) < (s0_0.length : Int) then (if a1 = 0 then (none) else (some (Int.tmod (Go.bits .xor .i64 (wrap64 ((wrap64 ((wrap64 ((wrap64 ((wrap64 (rd s0_0 (Int.tmod (wrap64 ((wrap64 (s0_1 + 1)) - 1)) (s0_0.length : Int)))) * 131)) + (wrap64 ((wrap64 (rd s0_0 (Int.tmod (wrap64 ((wrap64 ((wrap64 ((wrap64 (s0_1 + 1)) - 1)) * 7)) + 3)) (s0_0.length : Int)))) * 1117)))) + (wrap64 ((wrap64 ((wrap64 (s0_1 + 1)) - 1)) * 29)))) + (wrap64 ((wrap64 (Int.tdiv (wrap64 ((wrap64 (s0_1 + 1)) - 1)) (s0_0.length : Int))) * 53)))) (wrap64 (Int.tdiv (wrap64 ((wrap64 ((wrap64 ((wrap64 ((wrap64 (rd s0_0 (Int.tmod (wrap64 ((wrap64 (s0_1 + 1)) - 1)) (s0_0.length : Int)))) * 131)) + (wrap64 ((wrap64 (rd s0_0 (Int.tmod (wrap64 ((wrap64 ((wrap64 ((wrap64 (s0_1 + 1)) - 1)) * 7)) + 3)) (s0_0.length : Int)))) * 1117)))) + (wrap64 ((wrap64 ((wrap64 (s0_1 + 1)) - 1)) * 29)))) + (wrap64 ((wrap64 (Int.tdiv (wrap64 ((wrap64 (s0_1 + 1)) - 1)) (s0_0.length : Int))) * 53)))) 64))) a1,(wrap64 (s0_1 + 1))))) else (none)) else (none)) else (none)) else (none)))) = some (r1,r2):=by rw [if_neg (show ¬ (false = true) by decide)] at H;exact H
    clear H
    have H:=H1
    clear H1
    by_cases c8 : (wrap64 ((wrap64 (s0_1 + 1)) - 1)) < (s0_0.length : Int)
    ·rw [if_pos c8] at H
     have c8b0 : decide ((wrap64 ((wrap64 (s0_1 + 1)) - 1)) < (s0_0.length : Int)) = true:=decide_eq_true c8
     clear c8
     obtain ⟨ji9,hji9⟩ : ∃ j_ : Int,(wrap64 ((wrap64 (s0_1 + 1)) - 1)) = j_:=⟨_,rfl⟩
     replace H : (if 0 ≤ (ji9) then (if a1 = 0 then (none) else (some (Int.tmod (wrap64 (rd s0_0 (ji9))) a1,(wrap64 (s0_1 + 1))))) else (none)) = some (r1,r2):=by first|(rw [hji9] at H;exact H)|(simp only [hji9] at H ⊢;exact H)
     (try rw [hji9] at c8b0)
     have hji9w : (IntKind.i64.wrap ((wrap64 (s0_1 + 1)) - 1)) = ji9:=(i64_w _).trans hji9
     by_cases c10 : 0 ≤ (ji9)
     ·rw [if_pos c10] at H
      have c10b0 : decide (0 ≤ (ji9)) = true:=decide_eq_true c10
      clear c10
      by_cases c11 : a1 = 0
      ·rw [if_pos c11] at H
       exact absurd H (by simp)
      ·rw [if_neg c11] at H
       have c11b0 : (a1 == 0) = false:=beq_eq_false_iff_ne.mpr c11
       have c11b1 : (a1 != 0) = true:=bne_iff_ne.mpr c11
       simp only [Option.some.injEq,Prod.mk.injEq] at H
       obtain ⟨rfl,rfl⟩:=H
       obtain ⟨ASz12_0,cSz12_0,HGz12,hgz12,HSz12_0⟩:=HI0.out
       have hcz12_0:=cellS84_0 HGz12
       have hcz12_1:=cellS84_1 HGz12
       have hfz12_1:=bf_ HGz12 1
       clear HGz12 hgz12
       have p284 : 0 ≤ ((ji9) : Int):=od_ qa_
       have q284 : (ji9) < (s0_0.length : Int):=od_ qa_
       obtain ⟨ad284,e284,hx284_0⟩:=Kd.at_int HSz12_0 (ji9) p284 q284
       cases e284
       replace hx284_0:=pw_cell_below HB.out hx284_0
       replace p284:=eq_true p284
       replace q284:=eq_true q284
       go_wp2
       repeat (go_quiet (fail);try go_wp2)
       go_ret
       exact ⟨by first|rfl|(simp [errW_none,errW_some] <;> rfl)|(simp only [← hji9];first|rfl|(simp [errW_none,errW_some] <;> rfl))|(simp [*,errW_none,errW_some] <;> rfl),u6_ HI0,u8_ HB HI0,u7_ HK⟩
     ·rw [if_neg c10] at H
      exact absurd H (by simp)
    ·rw [if_neg c8] at H
     have c8b0 : decide ((wrap64 ((wrap64 (s0_1 + 1)) - 1)) < (s0_0.length : Int)) = false:=decide_eq_false c8
     clear c8
     by_cases c13 : (s0_0.length : Int) = 0
     ·rw [if_pos c13] at H
      exact absurd H (by simp)
     ·rw [if_neg c13] at H
      have c13b0 : ((s0_0.length : Int) == 0) = false:=beq_eq_false_iff_ne.mpr c13
      have c13b1 : ((s0_0.length : Int) != 0) = true:=bne_iff_ne.mpr c13
      have c13b2 : ¬ (s0_0 = []):=fun h_ => c13 (by rw [h_];rfl)
      obtain ⟨ji14,hji14⟩ : ∃ j_ : Int,(Int.tmod (wrap64 ((wrap64 (s0_1 + 1)) - 1)) (s0_0.length : Int)) = j_:=⟨_,rfl⟩
      replace H : (if 0 ≤ (ji14) then (if (ji14) < (s0_0.length : Int) then (if 0 ≤ (Int.tmod (wrap64 ((wrap64 ((wrap64 ((wrap64 (s0_1 + 1)) - 1)) * 7)) + 3)) (s0_0.length : Int)) then (if (Int.tmod (wrap64 ((wrap64 ((wrap64 ((wrap64 (s0_1 + 1)) - 1)) * 7)) + 3)) (s0_0.length : Int)) < (s0_0.length : Int) then (if a1 = 0 then (none) else (some (Int.tmod (Go.bits .xor .i64 (wrap64 ((wrap64 ((wrap64 ((wrap64 ((wrap64 (rd s0_0 (ji14))) * 131)) + (wrap64 ((wrap64 (rd s0_0 (Int.tmod (wrap64 ((wrap64 ((wrap64 ((wrap64 (s0_1 + 1)) - 1)) * 7)) + 3)) (s0_0.length : Int)))) * 1117)))) + (wrap64 ((wrap64 ((wrap64 (s0_1 + 1)) - 1)) * 29)))) + (wrap64 ((wrap64 (Int.tdiv (wrap64 ((wrap64 (s0_1 + 1)) - 1)) (s0_0.length : Int))) * 53)))) (wrap64 (Int.tdiv (wrap64 ((wrap64 ((wrap64 ((wrap64 ((wrap64 (rd s0_0 (ji14))) * 131)) + (wrap64 ((wrap64 (rd s0_0 (Int.tmod (wrap64 ((wrap64 ((wrap64 ((wrap64 (s0_1 + 1)) - 1)) * 7)) + 3)) (s0_0.length : Int)))) * 1117)))) + (wrap64 ((wrap64 ((wrap64 (s0_1 + 1)) - 1)) * 29)))) + (wrap64 ((wrap64 (Int.tdiv (wrap64 ((wrap64 (s0_1 + 1)) - 1)) (s0_0.length : Int))) * 53)))) 64))) a1,(wrap64 (s0_1 + 1))))) else (none)) else (none)) else (none)) else (none)) = some (r1,r2):=by first|(rw [hji14] at H;exact H)|(simp only [hji14] at H ⊢;exact H)
      by_cases c15 : 0 ≤ (ji14)
      ·rw [if_pos c15] at H
       have c15b0 : decide (0 ≤ (ji14)) = true:=decide_eq_true c15
       clear c15
       by_cases c16 : (ji14) < (s0_0.length : Int)
       ·rw [if_pos c16] at H
        have c16b0 : decide ((ji14) < (s0_0.length : Int)) = true:=decide_eq_true c16
        clear c16
        obtain ⟨ji17,hji17⟩ : ∃ j_ : Int,(Int.tmod (wrap64 ((wrap64 ((wrap64 ((wrap64 (s0_1 + 1)) - 1)) * 7)) + 3)) (s0_0.length : Int)) = j_:=⟨_,rfl⟩
        replace H : (if 0 ≤ (ji17) then (if (ji17) < (s0_0.length : Int) then (if a1 = 0 then (none) else (some (Int.tmod (Go.bits .xor .i64 (wrap64 ((wrap64 ((wrap64 ((wrap64 ((wrap64 (rd s0_0 (ji14))) * 131)) + (wrap64 ((wrap64 (rd s0_0 (ji17))) * 1117)))) + (wrap64 ((wrap64 ((wrap64 (s0_1 + 1)) - 1)) * 29)))) + (wrap64 ((wrap64 (Int.tdiv (wrap64 ((wrap64 (s0_1 + 1)) - 1)) (s0_0.length : Int))) * 53)))) (wrap64 (Int.tdiv (wrap64 ((wrap64 ((wrap64 ((wrap64 ((wrap64 (rd s0_0 (ji14))) * 131)) + (wrap64 ((wrap64 (rd s0_0 (ji17))) * 1117)))) + (wrap64 ((wrap64 ((wrap64 (s0_1 + 1)) - 1)) * 29)))) + (wrap64 ((wrap64 (Int.tdiv (wrap64 ((wrap64 (s0_1 + 1)) - 1)) (s0_0.length : Int))) * 53)))) 64))) a1,(wrap64 (s0_1 + 1))))) else (none)) else (none)) = some (r1,r2):=by first|(rw [hji17] at H;exact H)|(simp only [hji17] at H ⊢;exact H)
        by_cases c18 : 0 ≤ (ji17)
        ·rw [if_pos c18] at H
         have c18b0 : decide (0 ≤ (ji17)) = true:=decide_eq_true c18
         clear c18
         by_cases c19 : (ji17) < (s0_0.length : Int)
         ·rw [if_pos c19] at H
          have c19b0 : decide ((ji17) < (s0_0.length : Int)) = true:=decide_eq_true c19
          clear c19
          by_cases c20 : a1 = 0
          ·rw [if_pos c20] at H
           exact absurd H (by simp)
          ·rw [if_neg c20] at H
           have c20b0 : (a1 == 0) = false:=beq_eq_false_iff_ne.mpr c20
           have c20b1 : (a1 != 0) = true:=bne_iff_ne.mpr c20
           simp only [Option.some.injEq,Prod.mk.injEq] at H
           obtain ⟨rfl,rfl⟩:=H
           obtain ⟨ASz21_0,cSz21_0,HGz21,hgz21,HSz21_0⟩:=HI0.out
           have hcz21_0:=cellS84_0 HGz21
           have hcz21_1:=cellS84_1 HGz21
           have hfz21_1:=bf_ HGz21 1
           clear HGz21 hgz21
           have p285 : 0 ≤ ((ji14) : Int):=od_ qa_
           have q285 : (ji14) < (s0_0.length : Int):=od_ qa_
           obtain ⟨ad285,e285,hx285_0⟩:=Kd.at_int HSz21_0 (ji14) p285 q285
           cases e285
           replace hx285_0:=pw_cell_below HB.out hx285_0
           replace p285:=eq_true p285
           replace q285:=eq_true q285
           have p286 : 0 ≤ ((ji17) : Int):=od_ qa_
           have q286 : (ji17) < (s0_0.length : Int):=od_ qa_
           obtain ⟨ad286,e286,hx286_0⟩:=Kd.at_int HSz21_0 (ji17) p286 q286
           obtain rfl : ad285 = ad286:=(by injection e286)
           replace hx286_0:=pw_cell_below HB.out hx286_0
           replace p286:=eq_true p286
           replace q286:=eq_true q286
           go_wp2
           repeat (go_quiet (fail);try go_wp2)
           go_ret
           exact ⟨by first|rfl|(simp [errW_none,errW_some] <;> rfl)|(simp only [← hji14,← hji17];first|rfl|(simp [errW_none,errW_some] <;> rfl))|(simp [*,errW_none,errW_some] <;> rfl),u6_ HI0,u8_ HB HI0,u7_ HK⟩
         ·rw [if_neg c19] at H
          exact absurd H (by simp)
        ·rw [if_neg c18] at H
         exact absurd H (by simp)
       ·rw [if_neg c16] at H
        exact absurd H (by simp)
      ·rw [if_neg c15] at H
       exact absurd H (by simp)

/-! ### spec_l21Rd_num: function 78 -/
def spec_l21Rd_num.f (k : Nat) (s0_0 : List Int) (s0_1 : Int) (l1 : List Int) : Option (Int × Int):=(spec_l21Rd_pick.f k s0_0 s0_1 (l1.length : Int)).bind fun bt287 => (if 0 ≤ bt287.1 then (if bt287.1 < (l1.length : Int) then (some (rd l1 bt287.1,bt287.2)) else (none)) else (none))
theorem spec_l21Rd_num.mono : ∀ a0 a1 a2 k,LeO (spec_l21Rd_num.f k a0 a1 a2) (spec_l21Rd_num.f (k + 1) a0 a1 a2):=by
 intro a0 a1 a2 k
 unfold spec_l21Rd_num.f
 repeat' first
   | (with_reducible exact spec_l21Rd_pick.mono _ _ _ _)
   | (with_reducible exact LeO.refl _)
   | (with_reducible exact LeO.none _)
   | (with_reducible refine LeO.ite ?_ ?_)
   | (with_reducible refine LeO.bind ?_ (fun _ => ?_))
   | exact spec_l21Rd_pick.mono _ _ _ _
   | exact LeO.none _
   | refine LeO.ite ?_ ?_
   | refine LeO.bind ?_ (fun _ => ?_)
set_option maxHeartbeats 8000000 in
set_option maxRecDepth 100000 in
theorem spec_l21Rd_num.calls (k : Nat) (g : Nat) (s0_0 : List Int) (s0_1 : Int) (A1 : Option Addr) (c1 : Nat) (l1 : List Int) (r1 : Int) (r2 : Int) (w0 w : World) (hI : IsS84 w0 w g s0_0 s0_1) (hB : Below w0.heap.size w0 w) (hr1 : Kd.C (Kd.int .i64) w A1 l1.length l1) (hc1 : l1.length ≤ c1) (hf1 : ∀ ad,A1 = some ad → 0 < l1.length → ad.block ≠ g) (h : spec_l21Rd_num.f k s0_0 s0_1 l1 = some (r1,r2)) :
  Calls Try.prog 78 #[.pointer (some ⟨g,0,none⟩),.slice A1 l1.length c1] w fun e w' => e = .returned (.int .i64 r1) ∧ IsS84 w0 w' g s0_0 r2 ∧ Below w0.heap.size w0 w' ∧ KeepBut w w' g none:=by
 have HR1:=mk_ hr1
 have HC1:=mk_ hc1
 clear hr1 hc1
 have HI0:=mk_ hI
 have HK:=mk_ (KeepBut.refl w g none)
 have HL:=mk_ hB.size
 clear hI
 have HW0:=mk_ hB.size
 have HB:=mk_ hB
 clear hB
 have H : ((spec_l21Rd_pick.f k s0_0 s0_1 (l1.length : Int)).bind fun bt287 => (if 0 ≤ bt287.1 then (if bt287.1 < (l1.length : Int) then (some (rd l1 bt287.1,bt287.2)) else (none)) else (none))) = some (r1,r2):=h
 clear h
 replace H:=Option.bind_eq_some_iff.mp H
 obtain ⟨⟨t287,t288⟩,A30,H⟩:=H
 replace H : (if 0 ≤ t287 then (if t287 < (l1.length : Int) then (some (rd l1 t287,t288)) else (none)) else (none)) = some (r1,r2):=H
 have A3:=mk_ A30
 clear A30
 by_cases c4 : 0 ≤ t287
 ·rw [if_pos c4] at H
  have c4b0 : decide (0 ≤ t287) = true:=decide_eq_true c4
  clear c4
  by_cases c5 : t287 < (l1.length : Int)
  ·rw [if_pos c5] at H
   have c5b0 : decide (t287 < (l1.length : Int)) = true:=decide_eq_true c5
   clear c5
   simp only [Option.some.injEq,Prod.mk.injEq] at H
   obtain ⟨rfl,rfl⟩:=H
   go_enter Try.func78,Try.ntmps78
   go_wp2_with (first|((with_reducible refine gate_callee (f:=53) rfl ?_);refine goesL_ (some 9) rfl rfl Try.func53 (by kernel_rfl) rfl #[.pointer (some ⟨g,0,none⟩),.int .i64 (l1.length : Int)] rfl qm_ ?_;(with_reducible refine (spec_l21Rd_pick.calls k g s0_0 s0_1 (l1.length : Int) t287 t288 w0 _ ?side1 ?side2 A3.out).mono ?_);(case side1 => exact u6_ HI0);(case side2 => exact u8_ HB HI0);rintro e w6 ⟨rfl,hi,hb,hk⟩;refine ⟨_,rfl,?_⟩;have n0_:=mk_ (KeepBut.trans (u7_ HK) hk (.inl rfl));have n1_:=mk_ (hb);have n2_:=mk_ (hi);clear HK;clear HB;clear HI0;have HK:=n0_;have HB:=n1_;have HI0:=n2_;clear n0_ n1_ n2_;(try clear hb);(try clear hb2);(try clear hk);(try clear hi);have p289 : 0 ≤ (t287 : Int):=od_ qa_;have q289 : t287 < (l1.length : Int):=od_ qa_;obtain ⟨ad289,e289,hx289_0⟩:=Kd.at_int HR1.out t287 p289 q289;cases e289;replace hx289_0:=keep_cell HK.out hx289_0 (by first|(rw [add_block];exact hf1 _ rfl (by omega))|exact hf1 _ rfl (by omega)|exact hf1 ad289 rfl (by omega));replace p289:=eq_true p289;replace q289:=eq_true q289))
   go_ret
   exact ⟨qe_,u6_ HI0,u8_ HB HI0,u7_ HK⟩
  ·rw [if_neg c5] at H
   exact absurd H (by simp)
 ·rw [if_neg c4] at H
  exact absurd H (by simp)

/-! ### spec_l7Cables: function 77 -/
mutual
def spec_l7Cables.l0 : Nat → Int → List (S51) → Int → List Int → Int → Option (Int × (List (S51)) × Int)
 | 0,_,_,_,_,_ => none
 | k + 1,x4,x5,x6,x1000,x1001 => if x6 > 0 then (spec_l7Cables.j1 k x4 x5 x6 (decide (x4 > 1)) x1000 x1001) else (spec_l7Cables.j1 k x4 x5 x6 false x1000 x1001)
def spec_l7Cables.j1 : Nat → Int → List (S51) → Int → Bool → List Int → Int → Option (Int × (List (S51)) × Int)
 | 0,_,_,_,_,_,_ => none
 | k + 1,x4,x5,x6,x20,x1000,x1001 => if x20 = true then ((spec_l21Rd_pick.f k x1000 x1001 x4).bind fun bt303 => ((spec_l21Rd_pick.f k x1000 bt303.2 (wrap64 (x4 - 1))).bind fun bt305 => (if x4 = 0 then (none) else ((spec_l21Rd_num.f k x1000 bt305.2 (([1,1,2,5,10,99] : List Int))).bind fun bt310 => (if x5.length < 5864062014805 then (spec_l7Cables.l0 k x4 (x5 ++ [(⟨bt303.1,Int.tmod (wrap64 ((wrap64 (bt303.1 + 1)) + bt305.1)) x4,bt310.1⟩ : S51)]) (wrap64 (x6 - 1)) x1000 bt310.2) else (none)))))) else (some (x4,x5,x1001))
end
def spec_l7Cables.f (k : Nat) (s0_0 : List Int) (s0_1 : Int) : Option (Int × (List (S51)) × Int):=(spec_l21Rd_num.f k s0_0 s0_1 (([4,6,3,8,2,1,5] : List Int))).bind fun bt293 => ((spec_l21Rd_num.f k s0_0 bt293.2 (([5,8,12,3,0,20] : List Int))).bind fun bt301 => (spec_l7Cables.l0 k bt293.1 (([] : List (S51))) bt301.1 s0_0 bt301.2))
theorem spec_l7Cables.mono_l : ∀ k,(∀ y0 y1 y2 y3 y4,LeO (spec_l7Cables.l0 k y0 y1 y2 y3 y4) (spec_l7Cables.l0 (k + 1) y0 y1 y2 y3 y4)) ∧ (∀ y0 y1 y2 y3 y4 y5,LeO (spec_l7Cables.j1 k y0 y1 y2 y3 y4 y5) (spec_l7Cables.j1 (k + 1) y0 y1 y2 y3 y4 y5))
 | 0 => ⟨fun _ _ _ _ _ r h => by simp [spec_l7Cables.l0] at h,fun _ _ _ _ _ _ r h => by simp [spec_l7Cables.j1] at h⟩
 | k + 1 => by
  obtain ⟨ih0,ih1⟩:=spec_l7Cables.mono_l k
  refine ⟨?_,?_⟩
  ·intro y0 y1 y2 y3 y4
   unfold spec_l7Cables.l0
   repeat' first
   | (with_reducible exact ih0 _ _ _ _ _)
   | (with_reducible exact ih1 _ _ _ _ _ _)
   | (with_reducible exact spec_l21Rd_num.mono _ _ _ _)
   | (with_reducible exact spec_l21Rd_pick.mono _ _ _ _)
   | (with_reducible exact LeO.refl _)
   | (with_reducible exact LeO.none _)
   | (with_reducible refine LeO.ite ?_ ?_)
   | (with_reducible refine LeO.bind ?_ (fun _ => ?_))
   | exact ih0 _ _ _ _ _
   | exact ih1 _ _ _ _ _ _
   | exact spec_l21Rd_num.mono _ _ _ _
   | exact spec_l21Rd_pick.mono _ _ _ _
   | exact LeO.none _
   | refine LeO.ite ?_ ?_
   | refine LeO.bind ?_ (fun _ => ?_)
  ·intro y0 y1 y2 y3 y4 y5
   unfold spec_l7Cables.j1
   repeat' first
   | (with_reducible exact ih0 _ _ _ _ _)
   | (with_reducible exact ih1 _ _ _ _ _ _)
   | (with_reducible exact spec_l21Rd_num.mono _ _ _ _)
   | (with_reducible exact spec_l21Rd_pick.mono _ _ _ _)
   | (with_reducible exact LeO.refl _)
   | (with_reducible exact LeO.none _)
   | (with_reducible refine LeO.ite ?_ ?_)
   | (with_reducible refine LeO.bind ?_ (fun _ => ?_))
   | exact ih0 _ _ _ _ _
   | exact ih1 _ _ _ _ _ _
   | exact spec_l21Rd_num.mono _ _ _ _
   | exact spec_l21Rd_pick.mono _ _ _ _
   | exact LeO.none _
   | refine LeO.ite ?_ ?_
   | refine LeO.bind ?_ (fun _ => ?_)
theorem spec_l7Cables.mono : ∀ a0 a1 k,LeO (spec_l7Cables.f k a0 a1) (spec_l7Cables.f (k + 1) a0 a1):=by
 intro a0 a1 k
 obtain ⟨ih0,ih1⟩:=spec_l7Cables.mono_l k
 unfold spec_l7Cables.f
 repeat' first
   | (with_reducible exact ih0 _ _ _ _ _)
   | (with_reducible exact ih1 _ _ _ _ _ _)
   | (with_reducible exact spec_l21Rd_num.mono _ _ _ _)
   | (with_reducible exact spec_l21Rd_pick.mono _ _ _ _)
   | (with_reducible exact LeO.refl _)
   | (with_reducible exact LeO.none _)
   | (with_reducible refine LeO.ite ?_ ?_)
   | (with_reducible refine LeO.bind ?_ (fun _ => ?_))
   | exact ih0 _ _ _ _ _
   | exact ih1 _ _ _ _ _ _
   | exact spec_l21Rd_num.mono _ _ _ _
   | exact spec_l21Rd_pick.mono _ _ _ _
   | exact LeO.none _
   | refine LeO.ite ?_ ?_
   | refine LeO.bind ?_ (fun _ => ?_)
def spec_l7Cables.T7 : Bool × List (List Nat × List Nat):=(true,[([],[]),([],[]),([],[]),([2],[2]),([],[]),([],[]),([5],[5]),([4,6],[4,6]),([3,7],[3,7]),([],[]),([8,9],[8,9]),([],[]),([],[]),([11,12,7],[11,12]),([1,10,13],[1,10,13]),([14],[14]),([0,15,13],[0,15]),([16,16,0,1,2,3,4,5,6,7,8,9,10,11,12,13,14,15,16],[0,16])])
def spec_l7Cables.B7 : List Nat:=[0,0,0,4,0,0,32,112,252,0,1020,0,0,6384,16382,32766,65535,131071]
theorem spec_l7Cables.tab7 : rtab .any (opsOf Try.f77 7) = spec_l7Cables.T7:=by kernel_rfl
theorem spec_l7Cables.bits7 : waitsOk spec_l7Cables.T7.2 spec_l7Cables.B7 = true:=by kernel_rfl
set_option maxHeartbeats 8000000 in
set_option maxRecDepth 100000 in
theorem spec_l7Cables.calls (k : Nat) (g : Nat) (s0_0 : List Int) (s0_1 : Int) (r1 : Int) (r2 : List (S51)) (r3 : Int) (w0 w : World) (hI : IsS84 w0 w g s0_0 s0_1) (hB : Below w0.heap.size w0 w) (h : spec_l7Cables.f k s0_0 s0_1 = some (r1,r2,r3)) :
  Calls Try.prog 77 #[.pointer (some ⟨g,0,none⟩)] w fun e w' => ∃ v1_ : Value,e = .returned (.tuple #[.int .i64 r1,v1_]) ∧ Kd.R k51 51 w' w.heap.size (fun _ => True) v1_ r2 ∧ IsS84 w0 w' g s0_0 r3 ∧ Below w0.heap.size w0 w' ∧ KeepBut w w' g none:=by
 have hu51:=Try.underlying51
 have HI0:=mk_ hI
 have HK:=mk_ (KeepBut.refl w g none)
 have HL:=mk_ hB.size
 clear hI
 have HW0:=mk_ hB.size
 have HB:=mk_ hB
 clear hB
 have H : ((spec_l21Rd_num.f k s0_0 s0_1 (([4,6,3,8,2,1,5] : List Int))).bind fun bt293 => ((spec_l21Rd_num.f k s0_0 bt293.2 (([5,8,12,3,0,20] : List Int))).bind fun bt301 => (spec_l7Cables.l0 k bt293.1 (([] : List (S51))) bt301.1 s0_0 bt301.2))) = some (r1,r2,r3):=h
 clear h
 obtain ⟨y290,hy290⟩ : ∃ y_ : List Int,y_ = (([4,6,3,8,2,1,5] : List Int)):=⟨_,rfl⟩
 replace H : ((spec_l21Rd_num.f k s0_0 s0_1 y290).bind fun bt293 => ((spec_l21Rd_num.f k s0_0 bt293.2 (([5,8,12,3,0,20] : List Int))).bind fun bt301 => (spec_l7Cables.l0 k bt293.1 (([] : List (S51))) bt301.1 s0_0 bt301.2))) = some (r1,r2,r3):=by first|(rw [hy290];with_reducible exact H)|(have H2_:=(Option.bind_some _ _).symm.trans H;rw [hy290];with_reducible exact H2_)|(have H2_:=(Option.bind_some _ _).symm.trans H;with_reducible exact H2_)|with_reducible exact H|(rw [hy290];exact H)|exact H
 have Ny290:=mk_ hy290
 clear hy290
 replace H:=Option.bind_eq_some_iff.mp H
 obtain ⟨⟨t293,t294⟩,A20,H⟩:=H
 replace H : ((spec_l21Rd_num.f k s0_0 t294 (([5,8,12,3,0,20] : List Int))).bind fun bt301 => (spec_l7Cables.l0 k t293 (([] : List (S51))) bt301.1 s0_0 bt301.2)) = some (r1,r2,r3):=H
 have A2:=mk_ A20
 clear A20
 obtain ⟨y295,hy295⟩ : ∃ y_ : List (S51),y_ = (([] : List (S51))):=⟨_,rfl⟩
 replace H : ((spec_l21Rd_num.f k s0_0 t294 (([5,8,12,3,0,20] : List Int))).bind fun bt301 => (spec_l7Cables.l0 k t293 y295 bt301.1 s0_0 bt301.2)) = some (r1,r2,r3):=by first|(rw [hy295];with_reducible exact H)|(have H2_:=(Option.bind_some _ _).symm.trans H;rw [hy295];with_reducible exact H2_)|(have H2_:=(Option.bind_some _ _).symm.trans H;with_reducible exact H2_)|with_reducible exact H|(rw [hy295];exact H)|exact H
 have Ny295:=mk_ hy295
 clear hy295
 obtain ⟨y298,hy298⟩ : ∃ y_ : List Int,y_ = (([5,8,12,3,0,20] : List Int)):=⟨_,rfl⟩
 replace H : ((spec_l21Rd_num.f k s0_0 t294 y298).bind fun bt301 => (spec_l7Cables.l0 k t293 y295 bt301.1 s0_0 bt301.2)) = some (r1,r2,r3):=by first|(rw [hy298];with_reducible exact H)|(have H2_:=(Option.bind_some _ _).symm.trans H;rw [hy298];with_reducible exact H2_)|(have H2_:=(Option.bind_some _ _).symm.trans H;with_reducible exact H2_)|with_reducible exact H|(rw [hy298];exact H)|exact H
 have Ny298:=mk_ hy298
 clear hy298
 replace H:=Option.bind_eq_some_iff.mp H
 obtain ⟨⟨t301,t302⟩,A30,H⟩:=H
 replace H : (spec_l7Cables.l0 k t293 y295 t301 s0_0 t302) = some (r1,r2,r3):=H
 have A3:=mk_ A30
 clear A30
 have H':=mk_ H
 clear H
 go_enter Try.func77,Try.ntmps77
 go_wp2_with (first|((with_reducible refine gate_dst (N:=9) rfl ?_);refine Kd.R_lit (Kd.int .i64) _ 3 ?hg (N:=9) ?hd (xs:=([4,6,3,8,2,1,5] : List Int)) (inner:=[.int .i64 4,.int .i64 6,.int .i64 3,.int .i64 8,.int .i64 2,.int .i64 1,.int .i64 5]) (ok:=fun _ => True) (okp:=fun _ => True) ?hr ?hp (fun _ hk => hk) trivial (Below.refl _ _) (Nat.le_refl _) (by simp) ?_;(case hd => rfl);(case hg => rfl);(case hr => first|(go_simp;done)|(go_simp;rfl));(case hp => exact (Reps.one (show Kd.M (Kd.int .i64) _ _ _ 4 [.int .i64 4] from rfl) (Reps.one (show Kd.M (Kd.int .i64) _ _ _ 6 [.int .i64 6] from rfl) (Reps.one (show Kd.M (Kd.int .i64) _ _ _ 3 [.int .i64 3] from rfl) (Reps.one (show Kd.M (Kd.int .i64) _ _ _ 8 [.int .i64 8] from rfl) (Reps.one (show Kd.M (Kd.int .i64) _ _ _ 2 [.int .i64 2] from rfl) (Reps.one (show Kd.M (Kd.int .i64) _ _ _ 1 [.int .i64 1] from rfl) (Reps.one (show Kd.M (Kd.int .i64) _ _ _ 5 [.int .i64 5] from rfl) (Reps.none _ _)))))))));intro v291 w4 ho5 hb hg_ hnew_;clear hg_ hnew_;(first|rw [← Ny290.out] at ho5|(simp only [Int.reduceToNat] at ho5;rw [← Ny290.out] at ho5));have n0_:=mk_ (Kd.R_lower ho5 (keep_size (w:=w) (g:=g) (row:=none) (u7_ HK)));have n1_:=mk_ (IsS84.below (u6_ HI0) hb);have n2_:=mk_ (KeepBut.trans (u7_ HK) (KeepBut.of_below hb g none) (.inl rfl));have n3_:=mk_ (st_ (u8_ HB HI0) hb);clear HI0;clear HK;clear HB;have HO292:=n0_;have HI0:=n1_;have HK:=n2_;have HB:=n3_;clear n0_ n1_ n2_ n3_;clear hb ho5;obtain ⟨Ao6,co6,eo6⟩:=Kd.R_slice HO292.out;subst eo6)|((with_reducible refine gate_callee (f:=78) rfl ?_);refine goesL_ (some 10) rfl rfl Try.func78 (by kernel_rfl) rfl #[.pointer (some ⟨g,0,none⟩),.slice Ao6 y290.length co6] rfl qm_ ?_;(with_reducible refine (spec_l21Rd_num.calls k g s0_0 s0_1 _ _ y290 t293 t294 w0 _ ?side1 ?side2 ?side3 ?side4 ?side5 A2.out).mono ?_);(case side1 => exact u6_ HI0);(case side2 => exact u8_ HB HI0);(case side3 => repeat (first|exact (rr_ HO292.out).2.2|(with_reducible refine ca_ ?_ _)|(with_reducible refine cn_ ?_ _)|(with_reducible refine cd_ ?_)));(case side4 => exact (rr_ HO292.out).2.1);(case side5 => exact far_slice (IsS84.own_ne HI0.out HO292.out (by decide)));rintro e w7 ⟨rfl,hi,hb,hk⟩;refine ⟨_,rfl,?_⟩;have n0_:=mk_ (rm_ (Kd.R_keep (IsS84.apart (show IsS84 w0 _ g s0_0 s0_1 from u6_ HI0) (qr_ HO292) (by decide)) hk (fun _ h => h.2)) (fun _ h => h.1));have n1_:=mk_ (KeepBut.trans (u7_ HK) hk (.inl rfl));have n2_:=mk_ (hb);have n3_:=mk_ (hi);clear HO292;clear HK;clear HB;clear HI0;have HO292:=n0_;have HK:=n1_;have HB:=n2_;have HI0:=n3_;clear n0_ n1_ n2_ n3_;(try clear hb);(try clear hb2);(try clear hk);(try clear hi))|((with_reducible refine gate_dst (N:=11) rfl ?_);refine Kd.R_lit k51 _ 51 ?hg (N:=11) ?hd (xs:=([] : List (S51))) (inner:=[]) (ok:=fun _ => True) (okp:=fun _ => True) ?hr ?hp (fun _ hk => hk) trivial (Below.refl _ _) (Nat.le_refl _) (by simp) ?_;(case hd => rfl);(case hg => rfl);(case hr => first|(go_simp;done)|(go_simp;rfl));(case hp => exact (Reps.none _ _));intro v296 w8 ho9 hb hg_ hnew_;clear hg_ hnew_;(first|rw [← Ny295.out] at ho9|(simp only [Int.reduceToNat] at ho9;rw [← Ny295.out] at ho9));have n0_:=mk_ (rb_ (qr_ HO292) hb);have n1_:=mk_ (Kd.R_lower ho9 (keep_size (w:=w) (g:=g) (row:=none) (u7_ HK)));have n2_:=mk_ (IsS84.below (u6_ HI0) hb);have n3_:=mk_ (KeepBut.trans (u7_ HK) (KeepBut.of_below hb g none) (.inl rfl));have n4_:=mk_ (st_ (u8_ HB HI0) hb);clear HO292;clear HI0;clear HK;clear HB;have HO292:=n0_;have HO297:=n1_;have HI0:=n2_;have HK:=n3_;have HB:=n4_;clear n0_ n1_ n2_ n3_ n4_;clear hb ho9)|((with_reducible refine gate_dst (N:=13) rfl ?_);refine Kd.R_lit (Kd.int .i64) _ 3 ?hg (N:=13) ?hd (xs:=([5,8,12,3,0,20] : List Int)) (inner:=[.int .i64 5,.int .i64 8,.int .i64 12,.int .i64 3,.int .i64 0,.int .i64 20]) (ok:=fun _ => True) (okp:=fun _ => True) ?hr ?hp (fun _ hk => hk) trivial (Below.refl _ _) (Nat.le_refl _) (by simp) ?_;(case hd => rfl);(case hg => rfl);(case hr => first|(go_simp;done)|(go_simp;rfl));(case hp => exact (Reps.one (show Kd.M (Kd.int .i64) _ _ _ 5 [.int .i64 5] from rfl) (Reps.one (show Kd.M (Kd.int .i64) _ _ _ 8 [.int .i64 8] from rfl) (Reps.one (show Kd.M (Kd.int .i64) _ _ _ 12 [.int .i64 12] from rfl) (Reps.one (show Kd.M (Kd.int .i64) _ _ _ 3 [.int .i64 3] from rfl) (Reps.one (show Kd.M (Kd.int .i64) _ _ _ 0 [.int .i64 0] from rfl) (Reps.one (show Kd.M (Kd.int .i64) _ _ _ 20 [.int .i64 20] from rfl) (Reps.none _ _))))))));intro v299 w10 ho11 hb hg_ hnew_;clear hg_ hnew_;(first|rw [← Ny298.out] at ho11|(simp only [Int.reduceToNat] at ho11;rw [← Ny298.out] at ho11));have n0_:=mk_ (re_ (qr_ HO292) (Kd.R_base ho11) hb);have n1_:=mk_ (rb_ (qr_ HO297) hb);have n2_:=mk_ (Kd.R_lower (Kd.R_new' ho11 (Kd.R_lt (qr_ HO292))) (keep_size (w:=w) (g:=g) (row:=none) (u7_ HK)));have n3_:=mk_ (IsS84.below (u6_ HI0) hb);have n4_:=mk_ (KeepBut.trans (u7_ HK) (KeepBut.of_below hb g none) (.inl rfl));have n5_:=mk_ (st_ (u8_ HB HI0) hb);clear HO292;clear HO297;clear HI0;clear HK;clear HB;have HO292:=n0_;have HO297:=n1_;have HO300:=n2_;have HI0:=n3_;have HK:=n4_;have HB:=n5_;clear n0_ n1_ n2_ n3_ n4_ n5_;clear hb ho11;obtain ⟨Ao12,co12,eo12⟩:=Kd.R_slice HO300.out;subst eo12)|((with_reducible refine gate_callee (f:=78) rfl ?_);refine goesL_ (some 14) rfl rfl Try.func78 (by kernel_rfl) rfl #[.pointer (some ⟨g,0,none⟩),.slice Ao12 y298.length co12] rfl qm_ ?_;(with_reducible refine (spec_l21Rd_num.calls k g s0_0 t294 _ _ y298 t301 t302 w0 _ ?side1 ?side2 ?side3 ?side4 ?side5 A3.out).mono ?_);(case side1 => exact u6_ HI0);(case side2 => exact u8_ HB HI0);(case side3 => repeat (first|exact (rr_ HO300.out).2.2|(with_reducible refine ca_ ?_ _)|(with_reducible refine cn_ ?_ _)|(with_reducible refine cd_ ?_)));(case side4 => exact (rr_ HO300.out).2.1);(case side5 => exact far_slice (IsS84.own_ne HI0.out HO300.out (by decide)));rintro e w13 ⟨rfl,hi,hb,hk⟩;refine ⟨_,rfl,?_⟩;have n0_:=mk_ (rm_ (Kd.R_keep (IsS84.apart (show IsS84 w0 _ g s0_0 t294 from u6_ HI0) (qr_ HO292) (by decide)) hk (fun _ h => h.2)) (fun _ h => h.1));have n1_:=mk_ (rm_ (Kd.R_keep (IsS84.apart (show IsS84 w0 _ g s0_0 t294 from u6_ HI0) (qr_ HO297) (by decide)) hk (fun _ h => h.2)) (fun _ h => h.1));have n2_:=mk_ (rm_ (Kd.R_keep (IsS84.apart (show IsS84 w0 _ g s0_0 t294 from u6_ HI0) (qr_ HO300) (by decide)) hk (fun _ h => h.2)) (fun _ h => h.1));have n3_:=mk_ (KeepBut.trans (u7_ HK) hk (.inl rfl));have n4_:=mk_ (hb);have n5_:=mk_ (hi);clear HO292;clear HO297;clear HO300;clear HK;clear HB;clear HI0;have HO292:=n0_;have HO297:=n1_;have HO300:=n2_;have HK:=n3_;have HB:=n4_;have HI0:=n5_;clear n0_ n1_ n2_ n3_ n4_ n5_;(try clear hb);(try clear hb2);(try clear hk);(try clear hi)))
 go_loopg [5,6] k (fun kq v5 v6 w' => ∃ (x5_1 : List (S51)) (x6_1 : Int) (x1001_1 : Int),v6 = .int .i64 x6_1 ∧ Aside0 (spec_l7Cables.l0 kq t293 x5_1 x6_1 s0_0 x1001_1 = some (r1,r2,r3)) ∧ Aside0 (kq ≤ k) ∧ Aside0 (Kd.R k51 51 w' w.heap.size (fun _ => True) v5 x5_1) ∧ Aside0 (IsS84 w0 w' g s0_0 x1001_1) ∧ Aside0 (KeepBut w w' g none) ∧ Aside0 (Below w0.heap.size w0 w'))
 case atStart => exact ⟨(y295),(t301),(t302),qf_,H',⟨Nat.le_refl _⟩,⟨qr_ HO297⟩,⟨u6_ HI0⟩,⟨u7_ HK⟩,⟨u8_ HB HI0⟩⟩
 case round =>
  clear H'
  try clear p2
  try clear c7
  obtain ⟨x5_1,x6_1,x1001_1,rfl,HA,HK1,HO_5,HI0,HK,HB⟩:=hrel
  cases gk with
  | zero => exact absurd HA.out (by simp [spec_l7Cables.l0])
  | succ k1 =>
   have H:=HA.out
   clear HA
   simp only [spec_l7Cables.l0] at H
   have HC14:=mk_ H
   clear H
   go_upto_region 4 with (fail)
   go_cut [20] (fun v20 wc => ∃ (kq : Nat) (x20_13 : Bool),v20 = .bool x20_13 ∧ Aside0 (spec_l7Cables.j1 kq t293 x5_1 x6_1 x20_13 s0_0 x1001_1 = some (r1,r2,r3)) ∧ Aside0 (kq ≤ k1) ∧ Aside0 (Kd.R k51 51 wc w.heap.size (fun _ => True) u5 x5_1) ∧ Aside0 (IsS84 w0 wc g s0_0 x1001_1) ∧ Aside0 (KeepBut w wc g none) ∧ Aside0 (Below w0.heap.size w0 wc))
   case first =>
    have H:=HC14.out
    clear HC14
    by_cases c15 : x6_1 > 0
    ·rw [if_pos c15] at H
     have c15b0 : decide (0 < x6_1) = true:=decide_eq_true c15
     clear c15
     (first|rw [c15b0]|(simp only [i64_w,i32_w];rw [c15b0])|skip)
     have H':=mk_ H
     clear H
     go_wp2
     go_meet
     case rel => exact ⟨_,(decide (t293 > 1)),qf_,H',⟨by have:=HK1.out;first|omega|exact Nat.le_refl _⟩,⟨qr_ HO_5⟩,⟨u6_ HI0⟩,⟨u7_ HK⟩,⟨u8_ HB HI0⟩⟩
    ·rw [if_neg c15] at H
     have c15b0 : decide (0 < x6_1) = false:=decide_eq_false c15
     clear c15
     (first|rw [c15b0]|(simp only [i64_w,i32_w];rw [c15b0])|skip)
     have H':=mk_ H
     clear H
     go_wp2
     go_meet
     case rel => exact ⟨_,(false),qf_,H',⟨by have:=HK1.out;first|omega|exact Nat.le_refl _⟩,⟨qr_ HO_5⟩,⟨u6_ HI0⟩,⟨u7_ HK⟩,⟨u8_ HB HI0⟩⟩
   case rest =>
    clear HC14
    try clear c1
    try clear p2
    try clear c7
    try clear c15
    try clear c15b0
    try clear p2
    obtain ⟨kq,x20_13,rfl,HA,HJ13,HO_5,HI0,HK,HB⟩:=hcut
    cases kq with
    | zero => exact absurd HA.out (by simp [spec_l7Cables.j1])
    | succ kj13 =>
     have H:=HA.out
     clear HA
     simp only [spec_l7Cables.j1] at H
     by_cases c16 : x20_13 = true
     ·subst c16
      have H1 : ((spec_l21Rd_pick.f kj13 s0_0 x1001_1 t293).bind fun bt303 => ((spec_l21Rd_pick.f kj13 s0_0 bt303.2 (wrap64 (t293 - 1))).bind fun bt305 => (if t293 = 0 then (none) else ((spec_l21Rd_num.f kj13 s0_0 bt305.2 (([1,1,2,5,10,99] : List Int))).bind fun bt310 => (if x5_1.length < 5864062014805 then (spec_l7Cables.l0 kj13 t293 (x5_1 ++ [(⟨bt303.1,Int.tmod (wrap64 ((wrap64 (bt303.1 + 1)) + bt305.1)) t293,bt310.1⟩ : S51)]) (wrap64 (x6_1 - 1)) s0_0 bt310.2) else (none)))))) = some (r1,r2,r3):=by rw [if_pos rfl] at H;exact H
      clear H
      have H:=H1
      clear H1
      replace H:=Option.bind_eq_some_iff.mp H
      obtain ⟨⟨t303,t304⟩,A170,H⟩:=H
      replace H : ((spec_l21Rd_pick.f kj13 s0_0 t304 (wrap64 (t293 - 1))).bind fun bt305 => (if t293 = 0 then (none) else ((spec_l21Rd_num.f kj13 s0_0 bt305.2 (([1,1,2,5,10,99] : List Int))).bind fun bt310 => (if x5_1.length < 5864062014805 then (spec_l7Cables.l0 kj13 t293 (x5_1 ++ [(⟨t303,Int.tmod (wrap64 ((wrap64 (t303 + 1)) + bt305.1)) t293,bt310.1⟩ : S51)]) (wrap64 (x6_1 - 1)) s0_0 bt310.2) else (none))))) = some (r1,r2,r3):=H
      have A17:=mk_ A170
      clear A170
      replace H:=Option.bind_eq_some_iff.mp H
      obtain ⟨⟨t305,t306⟩,A180,H⟩:=H
      replace H : (if t293 = 0 then (none) else ((spec_l21Rd_num.f kj13 s0_0 t306 (([1,1,2,5,10,99] : List Int))).bind fun bt310 => (if x5_1.length < 5864062014805 then (spec_l7Cables.l0 kj13 t293 (x5_1 ++ [(⟨t303,Int.tmod (wrap64 ((wrap64 (t303 + 1)) + t305)) t293,bt310.1⟩ : S51)]) (wrap64 (x6_1 - 1)) s0_0 bt310.2) else (none)))) = some (r1,r2,r3):=H
      have A18:=mk_ A180
      clear A180
      by_cases c19 : t293 = 0
      ·rw [if_pos c19] at H
       exact absurd H (by simp)
      ·rw [if_neg c19] at H
       have c19b0 : (t293 == 0) = false:=beq_eq_false_iff_ne.mpr c19
       have c19b1 : (t293 != 0) = true:=bne_iff_ne.mpr c19
       obtain ⟨y307,hy307⟩ : ∃ y_ : List Int,y_ = (([1,1,2,5,10,99] : List Int)):=⟨_,rfl⟩
       replace H : ((spec_l21Rd_num.f kj13 s0_0 t306 y307).bind fun bt310 => (if x5_1.length < 5864062014805 then (spec_l7Cables.l0 kj13 t293 (x5_1 ++ [(⟨t303,Int.tmod (wrap64 ((wrap64 (t303 + 1)) + t305)) t293,bt310.1⟩ : S51)]) (wrap64 (x6_1 - 1)) s0_0 bt310.2) else (none))) = some (r1,r2,r3):=by first|(rw [hy307];with_reducible exact H)|(have H2_:=(Option.bind_some _ _).symm.trans H;rw [hy307];with_reducible exact H2_)|(have H2_:=(Option.bind_some _ _).symm.trans H;with_reducible exact H2_)|with_reducible exact H|(rw [hy307];exact H)|exact H
       have Ny307:=mk_ hy307
       clear hy307
       replace H:=Option.bind_eq_some_iff.mp H
       obtain ⟨⟨t310,t311⟩,A200,H⟩:=H
       replace H : (if x5_1.length < 5864062014805 then (spec_l7Cables.l0 kj13 t293 (x5_1 ++ [(⟨t303,Int.tmod (wrap64 ((wrap64 (t303 + 1)) + t305)) t293,t310⟩ : S51)]) (wrap64 (x6_1 - 1)) s0_0 t311) else (none)) = some (r1,r2,r3):=H
       have A20:=mk_ A200
       clear A200
       by_cases c21 : x5_1.length < 5864062014805
       ·rw [if_pos c21] at H
        have LMc21:=mk_ c21
        clear c21
        obtain ⟨y312,hy312⟩ : ∃ y_ : List (S51),y_ = (x5_1 ++ [(⟨t303,Int.tmod (wrap64 ((wrap64 (t303 + 1)) + t305)) t293,t310⟩ : S51)]):=⟨_,rfl⟩
        replace H : (spec_l7Cables.l0 kj13 t293 y312 (wrap64 (x6_1 - 1)) s0_0 t311) = some (r1,r2,r3):=by first|(rw [hy312];with_reducible exact H)|(have H2_:=(Option.bind_some _ _).symm.trans H;rw [hy312];with_reducible exact H2_)|(have H2_:=(Option.bind_some _ _).symm.trans H;with_reducible exact H2_)|with_reducible exact H|(rw [hy312];exact H)|exact H
        have Ny312:=mk_ hy312
        clear hy312
        have H':=mk_ H
        clear H
        try go_wp2_with (first|((with_reducible refine gate_callee (f:=53) rfl ?_);refine goesL_ (some 25) rfl rfl Try.func53 (by kernel_rfl) rfl #[.pointer (some ⟨g,0,none⟩),.int .i64 t293] rfl qm_ ?_;(with_reducible refine (spec_l21Rd_pick.calls kj13 g s0_0 x1001_1 t293 t303 t304 w0 _ ?side1 ?side2 A17.out).mono ?_);(case side1 => exact u6_ HI0);(case side2 => exact u8_ HB HI0);rintro e w22 ⟨rfl,hi,hb,hk⟩;refine ⟨_,rfl,?_⟩;have n0_:=mk_ (rm_ (Kd.R_keep (IsS84.apart (show IsS84 w0 _ g s0_0 x1001_1 from u6_ HI0) (qr_ HO_5) (by decide)) hk (fun _ h => h.2)) (fun _ h => h.1));have n1_:=mk_ (KeepBut.trans (u7_ HK) hk (.inl rfl));have n2_:=mk_ (hb);have n3_:=mk_ (hi);clear HO_5;clear HK;clear HB;clear HI0;have HO_5:=n0_;have HK:=n1_;have HB:=n2_;have HI0:=n3_;clear n0_ n1_ n2_ n3_;(try clear hb);(try clear hb2);(try clear hk);(try clear hi);obtain ⟨Ao23,co23,eo23⟩:=Kd.R_slice HO_5.out;subst eo23))
        have n0_:=mk_ (rd_ HO_5.out)
        have n1_:=mk_ (IsS84.drew HI0.out)
        have n2_:=mk_ (keep_drew HK.out)
        have n3_:=mk_ (bd_ HB.out)
        clear HO_5
        clear HI0
        clear HK
        clear HB
        have HO_5:=n0_
        have HI0:=n1_
        have HK:=n2_
        have HB:=n3_
        clear n0_ n1_ n2_ n3_
        refine start_ (n:=18) (S:=fun w' => True) (ds:=[]) #[false,false,false,false,false,false,false,false,false,false,false,false,false,false,false,false,false,false] (by kernel_rfl) rfl rfl trivial (fun hHeld => ?_);refine with_tabW spec_l7Cables.tab7 spec_l7Cables.bits7 (fun HT_ HW_ => ?_)
        generalize w22.drew = w24 at HO_5 HI0 HK HB hHeld ⊢
        refine pure_ (i:=0) (N:=some 26) (v:=?_) (a':=?_) #[true,false,false,false,false,false,false,false,false,false,false,false,false,false,false,false,false,false] rfl rfl (any_of HT_.out (by kernel_rfl)) (fun _ _ _ h => h) (Or.inl ⟨by rfl,?_⟩) ?_ ?_
        rotate_left
        ·intro w'
         go_simp
         with_reducible rfl
        rotate_left
        ·simp only [Act.put,sx_,sy_,sz_,i64_w,i32_w]
         rfl
        refine pure_ (i:=1) (N:=some 27) (v:=?_) (a':=?_) #[true,true,false,false,false,false,false,false,false,false,false,false,false,false,false,false,false,false] rfl rfl (any_of HT_.out (by kernel_rfl)) (fun _ _ _ h => h) (Or.inl ⟨by rfl,?_⟩) ?_ ?_
        rotate_left
        ·intro w'
         go_simp
         with_reducible rfl
        rotate_left
        ·simp only [Act.put,sx_,sy_,sz_,i64_w,i32_w]
         rfl
        refine pure_ (i:=2) (N:=some 28) (v:=?_) (a':=?_) #[true,true,true,false,false,false,false,false,false,false,false,false,false,false,false,false,false,false] rfl rfl (any_of HT_.out (by kernel_rfl)) (fun _ _ _ h => h) (Or.inl ⟨by rfl,?_⟩) ?_ ?_
        rotate_left
        ·intro w'
         go_simp
         with_reducible rfl
        rotate_left
        ·simp only [Act.put,sx_,sy_,sz_,i64_w,i32_w]
         rfl
        refine pure_ (i:=3) (N:=some 29) (v:=?_) (a':=?_) #[true,true,true,true,false,false,false,false,false,false,false,false,false,false,false,false,false,false] rfl rfl (any_of HT_.out (by kernel_rfl)) (fun _ _ _ h => h) (Or.inl ⟨by rfl,?_⟩) ?_ ?_
        rotate_left
        ·intro w'
         go_simp
         with_reducible rfl
        rotate_left
        ·simp only [Act.put,sx_,sy_,sz_,i64_w,i32_w]
         rfl
        refine pure_ (i:=4) (N:=some 30) (v:=?_) (a':=?_) #[true,true,true,true,true,false,false,false,false,false,false,false,false,false,false,false,false,false] rfl rfl (any_of HT_.out (by kernel_rfl)) (fun _ _ _ h => h) (Or.inl ⟨by rfl,?_⟩) ?_ ?_
        rotate_left
        ·intro w'
         go_simp
         with_reducible rfl
        rotate_left
        ·simp only [Act.put,sx_,sy_,sz_,i64_w,i32_w]
         rfl
        refine pure_ (i:=5) (N:=some 31) (v:=?_) (a':=?_) #[true,true,true,true,true,true,false,false,false,false,false,false,false,false,false,false,false,false] rfl rfl (any_of HT_.out (by kernel_rfl)) (fun _ _ _ h => h) (Or.inl ⟨by rfl,?_⟩) ?_ ?_
        rotate_left
        ·intro w'
         go_simp
         with_reducible rfl
        rotate_left
        ·simp only [Act.put,sx_,sy_,sz_,i64_w,i32_w]
         rfl
        refine pure_ (i:=6) (N:=some 32) (v:=?_) (a':=?_) #[true,true,true,true,true,true,true,false,false,false,false,false,false,false,false,false,false,false] rfl rfl (any_of HT_.out (by kernel_rfl)) (fun _ _ _ h => h) (Or.inl ⟨by rfl,?_⟩) ?_ ?_
        rotate_left
        ·intro w'
         go_simp
         with_reducible rfl
        rotate_left
        ·simp only [Act.put,sx_,sy_,sz_,i64_w,i32_w]
         rfl
        refine pure_ (i:=9) (N:=some 35) (v:=?_) (a':=?_) #[true,true,true,true,true,true,true,false,false,true,false,false,false,false,false,false,false,false] rfl rfl (any_of HT_.out (by kernel_rfl)) (fun _ _ _ h => h) (Or.inl ⟨by rfl,?_⟩) ?_ ?_
        rotate_left
        ·intro w'
         go_simp
         with_reducible rfl
        rotate_left
        ·simp only [Act.put,sx_,sy_,sz_,i64_w,i32_w]
         rfl
        refine pure_ (i:=11) (N:=some 37) (v:=?_) (a':=?_) #[true,true,true,true,true,true,true,false,false,true,false,true,false,false,false,false,false,false] rfl rfl (any_of HT_.out (by kernel_rfl)) (fun _ _ _ h => h) (Or.inl ⟨by rfl,?_⟩) ?_ ?_
        rotate_left
        ·intro w'
         go_simp
         with_reducible rfl
        rotate_left
        ·simp only [Act.put,sx_,sy_,sz_,i64_w,i32_w]
         rfl
        refine join_ (σ:=Value) 5 #[true,true,true,true,true,true,true,true,true,true,true,true,true,false,false,false,false,false] (fun s_ => [(33,.int .i64 t305),(38,s_),(34,.int .i64 (wrap64 ((wrap64 (t303 + 1)) + t305))),(36,.int .i64 (Int.tmod (wrap64 ((wrap64 (t303 + 1)) + t305)) t293))]) (fun s_ w' => (Kd.R (Kd.int .i64) 3 w' w.heap.size (fun _ => True) s_ y307) ∧ (Kd.R k51 51 w' w.heap.size (fun _ => True) (.slice Ao23 x5_1.length co23) x5_1) ∧ (IsS84 w0 w' g s0_0 t306) ∧ (KeepBut w w' g none) ∧ (Below w0.heap.size w0 w')) ?_ ?_
        rotate_left
        ·intro hCont
         refine two_ (i:=7) (j:=12) (Ni:=some 33) (Nj:=some 38) #[true,true,true,true,true,true,true,true,false,true,false,true,false,false,false,false,false,false] #[true,true,true,true,true,true,true,false,false,true,false,true,true,false,false,false,false,false] rfl rfl rfl rfl (two_of HT_.out (by kernel_rfl)) (by decide) (by decide) (fun K hK => ?_) (fun K hK => ?_)
         ·skip
          refine goes_ Try.func53 (by kernel_rfl) rfl #[.pointer (some ⟨g,0,none⟩),.int .i64 (wrap64 (t293 - 1))] (by rfl) rfl rfl qm_ ?_
          with_reducible refine (spec_l21Rd_pick.calls kj13 g s0_0 t304 (wrap64 (t293 - 1)) t305 t306 w0 _ ?side1 ?side2 A18.out).mono ?_
          (case side1 => exact u6_ HI0)
          (case side2 => exact u8_ HB HI0)
          rintro e w25 ⟨rfl,hi,hb,hk⟩
          refine ⟨_,rfl,?_⟩
          have n0_:=mk_ (rm_ (Kd.R_keep (IsS84.apart (show IsS84 w0 _ g s0_0 t304 from u6_ HI0) (qr_ HO_5) (by decide)) hk (fun _ h => h.2)) (fun _ h => h.1))
          have n1_:=mk_ (KeepBut.trans (u7_ HK) hk (.inl rfl))
          have n2_:=mk_ (hb)
          have n3_:=mk_ (hi)
          clear HO_5
          clear HK
          clear HB
          clear HI0
          have HO_5:=n0_
          have HK:=n1_
          have HB:=n2_
          have HI0:=n3_
          clear n0_ n1_ n2_ n3_
          (try clear hb)
          (try clear hb2)
          (try clear hk)
          (try clear hi)
          refine hK.out _ _ trivial (fun hHeld => ?_)
          clear hK K
          refine norm_ (a':=?_) ?_ ?_
          rotate_left
          ·show Act.put _ (some 33) _ = _
           simp only [Act.put,sx_,sy_,sz_,i64_w,i32_w]
           rfl
          refine pure_ (i:=8) (N:=some 34) (v:=?_) (a':=?_) #[true,true,true,true,true,true,true,true,true,true,false,true,false,false,false,false,false,false] rfl rfl (any_of HT_.out (by kernel_rfl)) (fun _ _ _ h => h) (Or.inl ⟨by rfl,?_⟩) ?_ ?_
          rotate_left
          ·intro w'
           go_simp
           with_reducible rfl
          rotate_left
          ·simp only [Act.put,sx_,sy_,sz_,i64_w,i32_w]
           rfl
          refine pure_ (i:=10) (N:=some 36) (v:=?_) (a':=?_) #[true,true,true,true,true,true,true,true,true,true,true,true,false,false,false,false,false,false] rfl rfl (any_of HT_.out (by kernel_rfl)) (fun _ _ _ h => h) (Or.inl ⟨by rfl,?_⟩) ?_ ?_
          rotate_left
          ·intro w'
           go_simp
           with_reducible rfl
          rotate_left
          ·simp only [Act.put,sx_,sy_,sz_,i64_w,i32_w]
           rfl
          refine one_ (i:=12) (N:=some 38) #[true,true,true,true,true,true,true,true,true,true,true,true,true,false,false,false,false,false] rfl rfl (one_of HT_.out (by kernel_rfl)) (by decide) (fun K hK => ?_)
          refine Kd.R_lit_step (Kd.int .i64) _ 3 ?hg (N:=38) ?hd (xs:=([1,1,2,5,10,99] : List Int)) (inner:=[.int .i64 1,.int .i64 1,.int .i64 2,.int .i64 5,.int .i64 10,.int .i64 99]) (ok:=fun _ => True) (okp:=fun _ => True) ?hr ?hp (fun _ hk => hk) trivial (Below.refl _ _) (Nat.le_refl _) (by simp) ?_;(case hd => rfl);(case hg => rfl);(case hr => first|(go_simp;done)|(go_simp;rfl));(case hp => exact (Reps.one (show Kd.M (Kd.int .i64) _ _ _ 1 [.int .i64 1] from rfl) (Reps.one (show Kd.M (Kd.int .i64) _ _ _ 1 [.int .i64 1] from rfl) (Reps.one (show Kd.M (Kd.int .i64) _ _ _ 2 [.int .i64 2] from rfl) (Reps.one (show Kd.M (Kd.int .i64) _ _ _ 5 [.int .i64 5] from rfl) (Reps.one (show Kd.M (Kd.int .i64) _ _ _ 10 [.int .i64 10] from rfl) (Reps.one (show Kd.M (Kd.int .i64) _ _ _ 99 [.int .i64 99] from rfl) (Reps.none _ _))))))))
          intro v308 w26 ho27 hb hg_ hnew_
          clear hg_ hnew_
          (first|rw [← Ny307.out] at ho27|(simp only [Int.reduceToNat] at ho27;rw [← Ny307.out] at ho27))
          have n0_:=mk_ (rb_ (qr_ HO_5) hb)
          have n1_:=mk_ (Kd.R_lower ho27 (keep_size (w:=w) (g:=g) (row:=none) (u7_ HK)))
          have n2_:=mk_ (IsS84.below (u6_ HI0) hb)
          have n3_:=mk_ (KeepBut.trans (u7_ HK) (KeepBut.of_below hb g none) (.inl rfl))
          have n4_:=mk_ (st_ (u8_ HB HI0) hb)
          clear HO_5
          clear HI0
          clear HK
          clear HB
          have HO_5:=n0_
          have HO309:=n1_
          have HI0:=n2_
          have HK:=n3_
          have HB:=n4_
          clear n0_ n1_ n2_ n3_ n4_
          clear hb ho27
          refine hK.out _ _ trivial (fun hHeld => ?_)
          clear hK K
          refine norm_ (a':=?_) ?_ ?_
          rotate_left
          ·show Act.put _ (some 38) _ = _
           simp only [Act.put,sx_,sy_,sz_,i64_w,i32_w]
           rfl
          exact norm_ (by simp only [putAll,Act.put,sx_,sy_,sz_]) (hCont (v308) _ ⟨(qr_ HO309),(qr_ HO_5),(u6_ HI0),(u7_ HK),(u8_ HB HI0)⟩)
         ·skip
          refine Kd.R_lit_step (Kd.int .i64) _ 3 ?hg (N:=38) ?hd (xs:=([1,1,2,5,10,99] : List Int)) (inner:=[.int .i64 1,.int .i64 1,.int .i64 2,.int .i64 5,.int .i64 10,.int .i64 99]) (ok:=fun _ => True) (okp:=fun _ => True) ?hr ?hp (fun _ hk => hk) trivial (Below.refl _ _) (Nat.le_refl _) (by simp) ?_;(case hd => rfl);(case hg => rfl);(case hr => first|(go_simp;done)|(go_simp;rfl));(case hp => exact (Reps.one (show Kd.M (Kd.int .i64) _ _ _ 1 [.int .i64 1] from rfl) (Reps.one (show Kd.M (Kd.int .i64) _ _ _ 1 [.int .i64 1] from rfl) (Reps.one (show Kd.M (Kd.int .i64) _ _ _ 2 [.int .i64 2] from rfl) (Reps.one (show Kd.M (Kd.int .i64) _ _ _ 5 [.int .i64 5] from rfl) (Reps.one (show Kd.M (Kd.int .i64) _ _ _ 10 [.int .i64 10] from rfl) (Reps.one (show Kd.M (Kd.int .i64) _ _ _ 99 [.int .i64 99] from rfl) (Reps.none _ _))))))))
          intro v308 w25 ho26 hb hg_ hnew_
          clear hg_ hnew_
          (first|rw [← Ny307.out] at ho26|(simp only [Int.reduceToNat] at ho26;rw [← Ny307.out] at ho26))
          have n0_:=mk_ (rb_ (qr_ HO_5) hb)
          have n1_:=mk_ (Kd.R_lower ho26 (keep_size (w:=w) (g:=g) (row:=none) (u7_ HK)))
          have n2_:=mk_ (IsS84.below (u6_ HI0) hb)
          have n3_:=mk_ (KeepBut.trans (u7_ HK) (KeepBut.of_below hb g none) (.inl rfl))
          have n4_:=mk_ (st_ (u8_ HB HI0) hb)
          clear HO_5
          clear HI0
          clear HK
          clear HB
          have HO_5:=n0_
          have HO309:=n1_
          have HI0:=n2_
          have HK:=n3_
          have HB:=n4_
          clear n0_ n1_ n2_ n3_ n4_
          clear hb ho26
          refine hK.out _ _ trivial (fun hHeld => ?_)
          clear hK K
          refine norm_ (a':=?_) ?_ ?_
          rotate_left
          ·show Act.put _ (some 38) _ = _
           simp only [Act.put,sx_,sy_,sz_,i64_w,i32_w]
           rfl
          refine one_ (i:=7) (N:=some 33) #[true,true,true,true,true,true,true,true,false,true,false,true,true,false,false,false,false,false] rfl rfl (one_of HT_.out (by kernel_rfl)) (by decide) (fun K hK => ?_)
          refine goes_ Try.func53 (by kernel_rfl) rfl #[.pointer (some ⟨g,0,none⟩),.int .i64 (wrap64 (t293 - 1))] (by rfl) rfl rfl qm_ ?_
          with_reducible refine (spec_l21Rd_pick.calls kj13 g s0_0 t304 (wrap64 (t293 - 1)) t305 t306 w0 _ ?side1 ?side2 A18.out).mono ?_
          (case side1 => exact u6_ HI0)
          (case side2 => exact u8_ HB HI0)
          rintro e w27 ⟨rfl,hi,hb,hk⟩
          refine ⟨_,rfl,?_⟩
          have n0_:=mk_ (rm_ (Kd.R_keep (IsS84.apart (show IsS84 w0 _ g s0_0 t304 from u6_ HI0) (qr_ HO_5) (by decide)) hk (fun _ h => h.2)) (fun _ h => h.1))
          have n1_:=mk_ (rm_ (Kd.R_keep (IsS84.apart (show IsS84 w0 _ g s0_0 t304 from u6_ HI0) (qr_ HO309) (by decide)) hk (fun _ h => h.2)) (fun _ h => h.1))
          have n2_:=mk_ (KeepBut.trans (u7_ HK) hk (.inl rfl))
          have n3_:=mk_ (hb)
          have n4_:=mk_ (hi)
          clear HO_5
          clear HO309
          clear HK
          clear HB
          clear HI0
          have HO_5:=n0_
          have HO309:=n1_
          have HK:=n2_
          have HB:=n3_
          have HI0:=n4_
          clear n0_ n1_ n2_ n3_ n4_
          (try clear hb)
          (try clear hb2)
          (try clear hk)
          (try clear hi)
          refine hK.out _ _ trivial (fun hHeld => ?_)
          clear hK K
          refine norm_ (a':=?_) ?_ ?_
          rotate_left
          ·show Act.put _ (some 33) _ = _
           simp only [Act.put,sx_,sy_,sz_,i64_w,i32_w]
           rfl
          refine pure_ (i:=8) (N:=some 34) (v:=?_) (a':=?_) #[true,true,true,true,true,true,true,true,true,true,false,true,true,false,false,false,false,false] rfl rfl (any_of HT_.out (by kernel_rfl)) (fun _ _ _ h => h) (Or.inl ⟨by rfl,?_⟩) ?_ ?_
          rotate_left
          ·intro w'
           go_simp
           with_reducible rfl
          rotate_left
          ·simp only [Act.put,sx_,sy_,sz_,i64_w,i32_w]
           rfl
          refine pure_ (i:=10) (N:=some 36) (v:=?_) (a':=?_) #[true,true,true,true,true,true,true,true,true,true,true,true,true,false,false,false,false,false] rfl rfl (any_of HT_.out (by kernel_rfl)) (fun _ _ _ h => h) (Or.inl ⟨by rfl,?_⟩) ?_ ?_
          rotate_left
          ·intro w'
           go_simp
           with_reducible rfl
          rotate_left
          ·simp only [Act.put,sx_,sy_,sz_,i64_w,i32_w]
           rfl
          exact norm_ (by simp only [putAll,Act.put,sx_,sy_,sz_]) (hCont (v308) _ ⟨(qr_ HO309),(qr_ HO_5),(u6_ HI0),(u7_ HK),(u8_ HB HI0)⟩)
        rintro v308 w28 ⟨h0_,h1_,h2_,h3_,h4_⟩
        have n0_ : Aside0 (Kd.R (Kd.int .i64) 3 w28 w.heap.size (fun _ => True) v308 y307):=⟨h0_⟩
        have n1_ : Aside0 (Kd.R k51 51 w28 w.heap.size (fun _ => True) (.slice Ao23 x5_1.length co23) x5_1):=⟨h1_⟩
        have n2_ : Aside0 (IsS84 w0 w28 g s0_0 t306):=⟨h2_⟩
        have n3_ : Aside0 (KeepBut w w28 g none):=⟨h3_⟩
        have n4_ : Aside0 (Below w0.heap.size w0 w28):=⟨h4_⟩
        clear HO_5
        clear HI0
        clear HK
        clear HB
        clear h0_ h1_ h2_ h3_ h4_
        have HO309:=n0_
        have HO_5:=n1_
        have HI0:=n2_
        have HK:=n3_
        have HB:=n4_
        clear n0_ n1_ n2_ n3_ n4_
        have hHeld:=trivial
        obtain ⟨Ao29,co29,eo29⟩:=Kd.R_slice HO309.out
        (first|subst eo29|(injection eo29 with f1_ f2_ f3_;have f4_:=f1_.symm;have f5_:=f3_.symm;clear f1_ f2_ f3_;subst f4_;subst f5_))
        refine norm_ (a':=?_) ?_ ?_
        rotate_left
        ·simp only [putAll,Act.put,sx_,sy_,sz_]
         rfl
        refine one_ (i:=13) (N:=some 39) #[true,true,true,true,true,true,true,true,true,true,true,true,true,true,false,false,false,false] rfl rfl (one_of HT_.out (by kernel_rfl)) (by decide) (fun K hK => ?_)
        refine goes_ Try.func78 (by kernel_rfl) rfl #[.pointer (some ⟨g,0,none⟩),.slice Ao29 y307.length co29] (by rfl) rfl rfl qm_ ?_
        with_reducible refine (spec_l21Rd_num.calls kj13 g s0_0 t306 _ _ y307 t310 t311 w0 _ ?side1 ?side2 ?side3 ?side4 ?side5 A20.out).mono ?_
        (case side1 => exact u6_ HI0)
        (case side2 => exact u8_ HB HI0)
        (case side3 => repeat (first|exact (rr_ HO309.out).2.2|(with_reducible refine ca_ ?_ _)|(with_reducible refine cn_ ?_ _)|(with_reducible refine cd_ ?_)))
        (case side4 => exact (rr_ HO309.out).2.1)
        (case side5 => exact far_slice (IsS84.own_ne HI0.out HO309.out (by decide)))
        rintro e w30 ⟨rfl,hi,hb,hk⟩
        refine ⟨_,rfl,?_⟩
        have n0_:=mk_ (rm_ (Kd.R_keep (IsS84.apart (show IsS84 w0 _ g s0_0 t306 from u6_ HI0) (qr_ HO_5) (by decide)) hk (fun _ h => h.2)) (fun _ h => h.1))
        have n1_:=mk_ (rm_ (Kd.R_keep (IsS84.apart (show IsS84 w0 _ g s0_0 t306 from u6_ HI0) (qr_ HO309) (by decide)) hk (fun _ h => h.2)) (fun _ h => h.1))
        have n2_:=mk_ (KeepBut.trans (u7_ HK) hk (.inl rfl))
        have n3_:=mk_ (hb)
        have n4_:=mk_ (hi)
        clear HO_5
        clear HO309
        clear HK
        clear HB
        clear HI0
        have HO_5:=n0_
        have HO309:=n1_
        have HK:=n2_
        have HB:=n3_
        have HI0:=n4_
        clear n0_ n1_ n2_ n3_ n4_
        (try clear hb)
        (try clear hb2)
        (try clear hk)
        (try clear hi)
        refine hK.out _ _ trivial (fun hHeld => ?_)
        clear hK K
        refine norm_ (a':=?_) ?_ ?_
        rotate_left
        ·show Act.put _ (some 39) _ = _
         simp only [Act.put,sx_,sy_,sz_,i64_w,i32_w]
         rfl
        refine pure_ (i:=14) (N:=some 40) (v:=?_) (a':=?_) #[true,true,true,true,true,true,true,true,true,true,true,true,true,true,true,false,false,false] rfl rfl (any_of HT_.out (by kernel_rfl)) (fun _ _ _ h => h) (Or.inl ⟨by rfl,?_⟩) ?_ ?_
        rotate_left
        ·intro w'
         go_simp
         with_reducible rfl
        rotate_left
        ·simp only [Act.put,sx_,sy_,sz_,i64_w,i32_w]
         rfl
        refine one_ (i:=15) (N:=some 41) #[true,true,true,true,true,true,true,true,true,true,true,true,true,true,true,true,false,false] rfl rfl (one_of HT_.out (by kernel_rfl)) (by decide) (fun K hK => ?_)
        refine value_ (w1:=?_) (v:=?_) (by rfl) rfl ?_ ?_
        rotate_left 2
        ·go_simp
         constructor
         ·rfl
         ·rfl
        refine hK.out _ _ trivial (fun hHeld => ?_)
        clear hK K
        refine norm_ (a':=?_) ?_ ?_
        rotate_left
        ·show Act.put _ (some 41) _ = _
         simp only [Act.put,sx_,sy_,sz_,i64_w,i32_w]
         rfl
        refine one_ (i:=16) (N:=some 42) #[true,true,true,true,true,true,true,true,true,true,true,true,true,true,true,true,true,false] rfl rfl (one_of HT_.out (by kernel_rfl)) (by decide) (fun K hK => ?_)
        refine Kd.R_append_step k51 w.heap.size (by rfl) (.tmp 26) (.tmp 41) 28 51 (.agg #[(.int .i64 0),(.int .i64 0),(.int .i64 0)]) 24 rfl Try.underlying28 info51 rfl (by decide) (by omega) (.slice Ao23 x5_1.length co23) x5_1 (⟨t303,Int.tmod (wrap64 ((wrap64 (t303 + 1)) + t305)) t293,t310⟩ : S51) [.int .i64 t303,.int .i64 (Int.tmod (wrap64 ((wrap64 (t303 + 1)) + t305)) t293),.int .i64 t310] (fun _ => True) (fun _ => False) rfl rfl ?aP (fun _ hk => hk.elim) ?aF ?aO (Below.refl _ _) ?aS ?aL ?_
        (case aP => exact k51_mkM _ _ _ (⟨t303,Int.tmod (wrap64 ((wrap64 (t303 + 1)) + t305)) t293,t310⟩ : S51))
        (case aF => exact (fun _ _ => trivial))
        (case aO => exact (qr_ HO_5))
        (case aS => exact (keep_size (w:=w) (g:=g) (row:=none) (u7_ HK)))
        (case aL => have:=LMc21.out;omega)
        intro v313 w31 ho hb hg hat
        rw [← Ny312.out] at ho
        have n0_:=mk_ (IsS84.grown (u6_ HI0) hg (IsS84.own_ne HI0.out HO_5.out (by decide)))
        have n1_:=mk_ (Kd.R_over' (qr_ HO309) (Kd.R_typed (qr_ HO_5)) (by decide) hg)
        have n2_:=mk_ (below_weaken (u8_ HB HI0) HL.out hb)
        have n3_:=mk_ (KeepBut.trans (u7_ HK) (KeepBut.of_grown hg g) (Kd.R_base2 HO_5.out))
        have n4_:=mk_ (ho)
        clear HI0
        clear HO309
        clear HB
        clear HK
        clear HO_5
        have HI0:=n0_
        have HO309:=n1_
        have HB:=n2_
        have HK:=n3_
        have HO314:=n4_
        clear n0_ n1_ n2_ n3_ n4_
        clear ho hb hg hat
        refine hK.out _ _ trivial (fun hHeld => ?_)
        clear hK K
        refine norm_ (a':=?_) ?_ ?_
        rotate_left
        ·show Act.put _ (some 42) _ = _
         simp only [Act.put,sx_,sy_,sz_,i64_w,i32_w]
         rfl
        refine pure_ (i:=17) (N:=some 5) (v:=?_) (a':=?_) #[true,true,true,true,true,true,true,true,true,true,true,true,true,true,true,true,true,true] rfl rfl (any_of HT_.out (by kernel_rfl)) (fun _ _ _ h => h) (Or.inl ⟨by rfl,?_⟩) ?_ ?_
        rotate_left
        ·intro w'
         go_simp
         with_reducible rfl
        rotate_left
        ·simp only [Act.put,sx_,sy_,sz_,i64_w,i32_w]
         rfl
        refine done_ (done_of HT_.out (by kernel_rfl)) ?_
        try go_wp2
        go_roundg kj13
        case measure => have:=HK1.out;have:=HJ13.out;omega
        case rel => exact ⟨(y312),(wrap64 (x6_1 - 1)),(t311),qf_,H',⟨by have:=HK1.out;have:=HJ13.out;omega⟩,⟨qr_ HO314⟩,⟨u6_ HI0⟩,⟨u7_ HK⟩,⟨u8_ HB HI0⟩⟩
       ·rw [if_neg c21] at H
        exact absurd H (by simp)
     ·replace c16:=Bool.eq_false_iff.mpr c16
      subst c16
      have H1 : (some (t293,x5_1,x1001_1)) = some (r1,r2,r3):=by rw [if_neg (show ¬ (false = true) by decide)] at H;exact H
      clear H
      have H:=H1
      clear H1
      simp only [Option.some.injEq,Prod.mk.injEq] at H
      obtain ⟨rfl,rfl,rfl⟩:=H
      go_wp2
      go_ret2
      exact ⟨_,qe_,qr_ HO_5,u6_ HI0,u8_ HB HI0,u7_ HK⟩

end Go.Proofs.Ytdamdcdjodmemaa.PAll
