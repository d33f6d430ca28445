/- Proved here: contracts of functions of the given program, or lemmas on them, for the laws of this seat. Written by xprint.py, a program of this session, on the ground of the kit's print; parts by hand: wip/x/ext. -/
import Derived.Test.YtdamdcdjodmemaaPAllx0
import Derived.Test.YtdamdcdjodmemaaPAllx2
import Derived.Test.YtdamdcdjodmemaaPAllx3
namespace Go.Proofs.Ytdamdcdjodmemaa.PAll
open Go.RowKit Go.Proofs.YtdamdcdjodmemaaW.PrintWords Go.Proofs.YtdamdcdjodmemaaW.PrintLast Go.Proofs.YtdamdcdjodmemaaW.PrintMore
attribute [local go_sem] max2_int min2_int max_two min_two max_three min_three max_four min_four   -- for this text's walks alone
set_option linter.unusedVariables false
set_option linter.unusedSimpArgs false

/-! ### impl_NetValid: function 15 (by hand) -/
/-- A bridge of so many;a network. -/
def brB (n x : Int) : Bool:=decide (0 ≤ x) && decide (x ≤ wrap64 (n - 1))
def vlB (x : Int) : Bool:=decide (1 ≤ x) && decide (x ≤ 9)
def netB (n : Int) (cs : List S51) (hs vs : List Int) : Bool:=cabsB n cs && (decide (hs.length ≤ 15) && (decide (vs.length = hs.length) && (hs.all (brB n) && vs.all vlB)))
set_option maxHeartbeats 4000000 in
set_option maxRecDepth 100000 in
theorem x_NetValid_1 {n : Int} {b : Nat} {w : World} (hb : b < w.heap.size) (hc : w.cell? ⟨b,0,none⟩ = some (.int .i64 n)) :
  PredB Try.prog 47 #[.pointer (some ⟨b,0,none⟩)] (Value.int .i64) (brB n) w:=by
 intro W x hB
 have hc':=(hB.cell (p:=⟨b,0,none⟩) hb).trans hc
 have hu:=Try.underlying30
 have hw:=x_win x 0 (wrap64 (n - 1)) W
 have HZ : Aside0 (brB n x = (decide (0 ≤ x) && decide (x ≤ wrap64 (n - 1)))):=⟨rfl⟩
 clear hc hB hb
 generalize brB n x = z at HZ ⊢
 generalize (decide (0 ≤ x) && decide (x ≤ wrap64 (n - 1))) = z2 at HZ hw
 obtain ⟨x1,hx1⟩ : ∃ x1,x1 = wrap64 (n - 1):=⟨_,rfl⟩
 rw [← hx1] at hw
 have y1 : IntKind.i64.wrap (n - 1) = x1:=(i64_w _).trans hx1.symm
 clear hx1
 go_enter Try.func47,Try.ntmps47
 go_wp2_with fail
 refine hw.mono ?_
 rintro e w' ⟨rfl,hb'⟩
 go_wp2_with fail
 go_ret
 exact ⟨by rw [HZ.out];rfl,hb'⟩
theorem isNet_eq (x : Int) : impl_isNetwork.f x = some (vlB x):=by
 unfold impl_isNetwork.f
 rw [win_is]
 rfl
theorem x_isNet (w : World) : PredB Try.prog 49 #[] (Value.int .i64) vlB w:=by
 intro W x hB
 exact (impl_isNetwork.calls x _ W (isNet_eq x)).mono fun e w' ⟨he,hd⟩ => ⟨he,hd.below⟩
def impl_NetValid.f (a0_0 : Int) (l0_1 : List (S51)) (l0_2 : List Int) (l0_3 : List Int) : Option (Bool) :=
 some (netB a0_0 l0_1 l0_2 l0_3)
set_option maxHeartbeats 4000000 in
set_option maxRecDepth 100000 in
theorem impl_NetValid.calls (a0_0 : Int) (A0_1 : Option Addr) (c0_1 : Nat) (l0_1 : List (S51)) (A0_2 : Option Addr) (c0_2 : Nat) (l0_2 : List Int) (A0_3 : Option Addr) (c0_3 : Nat) (l0_3 : List Int) (r : Bool) (w : World) (hr0_1 : Kd.C k51 w A0_1 l0_1.length l0_1) (hc0_1 : l0_1.length ≤ c0_1) (hr0_2 : Kd.C (Kd.int .i64) w A0_2 l0_2.length l0_2) (hc0_2 : l0_2.length ≤ c0_2) (hr0_3 : Kd.C (Kd.int .i64) w A0_3 l0_3.length l0_3) (hc0_3 : l0_3.length ≤ c0_3) (h : impl_NetValid.f a0_0 l0_1 l0_2 l0_3 = some r) :
  Calls Try.prog 15 #[.agg #[.int .i64 a0_0,.slice A0_1 l0_1.length c0_1,.slice A0_2 l0_2.length c0_2,.slice A0_3 l0_3.length c0_3]] w fun e w' => e = .returned (.bool r) ∧ Below w.heap.size w w':=by
 obtain rfl:=Option.some.inj h
 have hu:=Try.underlying30
 have hl2:=Kd.C_max hr0_2
 have hl3:=Kd.C_max hr0_3
 have hmf : ∀ (fn : Fn) (first cap : Array Value) (w : World),(Instr.makeFunc fn first cap).run Try.prog w = .ok (.func fn first cap) w:=fun _ _ _ _ => rfl
 have hb0 : Below w.heap.size w (w.alloc (.cells #[.int .i64 a0_0,.slice A0_1 l0_1.length c0_1,.slice A0_2 l0_2.length c0_2,.slice A0_3 l0_3.length c0_3] 30)):=(Below.refl _ w).alloc (Nat.le_refl _) _
 have hn0:=blk_new w (.cells #[.int .i64 a0_0,.slice A0_1 l0_1.length c0_1,.slice A0_2 l0_2.length c0_2,.slice A0_3 l0_3.length c0_3] 30)
 have hsz : w.heap.size < (w.alloc (.cells #[.int .i64 a0_0,.slice A0_1 l0_1.length c0_1,.slice A0_2 l0_2.length c0_2,.slice A0_3 l0_3.length c0_3] 30)).heap.size:=by simp
 obtain ⟨W0,hW0⟩ : ∃ W0,W0 = w.alloc (.cells #[.int .i64 a0_0,.slice A0_1 l0_1.length c0_1,.slice A0_2 l0_2.length c0_2,.slice A0_3 l0_3.length c0_3] 30):=⟨_,rfl⟩
 rw [← hW0] at hb0 hn0 hsz
 have hp0 : PredB Try.prog 47 #[.pointer (some ⟨w.heap.size,0,none⟩)] (Value.int .i64) (brB a0_0) W0:=x_NetValid_1 hsz ((bc_ hn0 0).trans rfl)
 have hcv:=impl_CablesValid.calls a0_0 A0_1 c0_1 l0_1 _ W0 (cb_ hr0_1 hb0) hc0_1 rfl
 have HA : Aside0 (∀ W,Below W0.heap.size W0 W → Calls Try.prog 46 #[.slice A0_2 l0_2.length c0_2,.func (.func 47) #[] #[.pointer (some ⟨w.heap.size,0,none⟩)]] W fun e w' => e = .returned (.bool (l0_2.all (brB a0_0))) ∧ Below W.heap.size W w'):=⟨fun W hW => x_all_int (brB a0_0) 47 _ (enters_of Try.func47 (by kernel_rfl) rfl) A0_2 c0_2 l0_2 W (hp0.later hW) (cb_ hr0_2 (st_ hb0 hW))⟩
 have HV : Aside0 (∀ W,Below W0.heap.size W0 W → Calls Try.prog 46 #[.slice A0_3 l0_3.length c0_3,.func (.func 49) #[] #[]] W fun e w' => e = .returned (.bool (l0_3.all vlB)) ∧ Below W.heap.size W w'):=⟨fun W hW => x_all_int vlB 49 #[] (enters_of Try.func49 (by kernel_rfl) rfl) A0_3 c0_3 l0_3 W (x_isNet W) (cb_ hr0_3 (st_ hb0 hW))⟩
 have HB0:=mk_ hb0
 have HN0:=mk_ hn0
 have HZ : Aside0 (netB a0_0 l0_1 l0_2 l0_3 = (cabsB a0_0 l0_1 && (decide (l0_2.length ≤ 15) && (decide (l0_3.length = l0_2.length) && (l0_2.all (brB a0_0) && l0_3.all vlB))))):=⟨rfl⟩
 clear h hr0_1 hc0_1 hr0_2 hc0_2 hr0_3 hc0_3 hp0 hb0 hn0 hsz
 generalize netB a0_0 l0_1 l0_2 l0_3 = z at HZ ⊢
 generalize cabsB a0_0 l0_1 = z1 at HZ hcv
 generalize l0_2.all (brB a0_0) = z3 at HZ HA
 generalize l0_3.all vlB = z4 at HZ HV
 subst hW0
 cases z1 with
 | false =>
  have HZ2 : Aside0 (z = false):=⟨by rw [HZ.out];rfl⟩
  go_enter Try.func15,Try.ntmps15
  go_wp2_with fail
  refine hcv.mono ?_
  rintro e w1 ⟨rfl,hb1⟩
  go_wp2_with fail
  go_ret
  exact ⟨by rw [HZ2.out];rfl,st_ HB0.out hb1⟩
 | true =>
 by_cases h15 : (l0_2.length : Int) ≤ 15
 ·by_cases heq : l0_3.length = l0_2.length
  ·have e1 : ((l0_3.length : Int) == (l0_2.length : Int)) = true:=beq_iff_eq.mpr (by omega)
   have e2 : (l0_3.length == l0_2.length) = true:=beq_iff_eq.mpr heq
   have e3 : decide (l0_3.length = l0_2.length) = true:=decide_eq_true heq
   replace HZ : Aside0 (z = (z3 && z4)):=⟨by rw [HZ.out,decide_eq_true (show l0_2.length ≤ 15 by omega),e3];rfl⟩
   clear heq
   cases z3 with
   | false =>
    have HZ2 : Aside0 (z = false):=⟨by rw [HZ.out];rfl⟩
    go_enter Try.func15,Try.ntmps15
    go_wp2_with fail
    refine hcv.mono ?_
    rintro e w1 ⟨rfl,hb1⟩
    have ha:=HA.out _ hb1
    have g2 : w1.cell? ⟨w.heap.size,2,none⟩ = some (.slice A0_2 l0_2.length c0_2):=(bc_ (blk_below HN0.out hb1) 2).trans rfl
    have g3 : w1.cell? ⟨w.heap.size,3,none⟩ = some (.slice A0_3 l0_3.length c0_3):=(bc_ (blk_below HN0.out hb1) 3).trans rfl
    have HB1:=mk_ (st_ HB0.out hb1)
    clear hb1 hcv
    go_wp2_with fail
    refine ha.mono ?_
    rintro e w2 ⟨rfl,hb2⟩
    go_wp2_with fail
    go_ret
    exact ⟨by rw [HZ2.out];rfl,st_ HB1.out hb2⟩
   | true =>
    have HZ2 : Aside0 (z = z4):=⟨by rw [HZ.out];rfl⟩
    go_enter Try.func15,Try.ntmps15
    go_wp2_with fail
    refine hcv.mono ?_
    rintro e w1 ⟨rfl,hb1⟩
    have ha:=HA.out _ hb1
    have g2 : w1.cell? ⟨w.heap.size,2,none⟩ = some (.slice A0_2 l0_2.length c0_2):=(bc_ (blk_below HN0.out hb1) 2).trans rfl
    have g3 : w1.cell? ⟨w.heap.size,3,none⟩ = some (.slice A0_3 l0_3.length c0_3):=(bc_ (blk_below HN0.out hb1) 3).trans rfl
    have HB1:=mk_ hb1
    clear hb1 hcv
    go_wp2_with fail
    refine ha.mono ?_
    rintro e w2 ⟨rfl,hb2⟩
    have HB2:=mk_ (st_ HB1.out hb2)
    have hv:=HV.out _ HB2.out
    have k3 : w2.cell? ⟨w.heap.size,3,none⟩ = some (.slice A0_3 l0_3.length c0_3):=(bc_ (blk_below HN0.out HB2.out) 3).trans rfl
    clear hb2 g2 g3 ha
    go_wp2_with fail
    refine hv.mono ?_
    rintro e w3 ⟨rfl,hb3⟩
    go_wp2_with fail
    go_ret
    exact ⟨by rw [HZ2.out];rfl,st_ HB0.out (st_ HB2.out hb3)⟩
  ·have e1 : ((l0_3.length : Int) == (l0_2.length : Int)) = false:=beq_eq_false_iff_ne.mpr (by omega)
   have e2 : (l0_3.length == l0_2.length) = false:=beq_eq_false_iff_ne.mpr heq
   have e3 : decide (l0_3.length = l0_2.length) = false:=decide_eq_false heq
   have HZ2 : Aside0 (z = false):=⟨by rw [HZ.out,e3];simp⟩
   clear heq
   go_enter Try.func15,Try.ntmps15
   go_wp2_with fail
   refine hcv.mono ?_
   rintro e w1 ⟨rfl,hb1⟩
   have g2 : w1.cell? ⟨w.heap.size,2,none⟩ = some (.slice A0_2 l0_2.length c0_2):=(bc_ (blk_below HN0.out hb1) 2).trans rfl
   have g3 : w1.cell? ⟨w.heap.size,3,none⟩ = some (.slice A0_3 l0_3.length c0_3):=(bc_ (blk_below HN0.out hb1) 3).trans rfl
   have HB1:=mk_ (st_ HB0.out hb1)
   clear hb1 hcv
   go_wp2_with fail
   go_ret
   exact ⟨by rw [HZ2.out];rfl,HB1.out⟩
 ·have HZ2 : Aside0 (z = false):=⟨by rw [HZ.out,decide_eq_false (show ¬ l0_2.length ≤ 15 by omega)];rfl⟩
  go_enter Try.func15,Try.ntmps15
  go_wp2_with fail
  refine hcv.mono ?_
  rintro e w1 ⟨rfl,hb1⟩
  have g2 : w1.cell? ⟨w.heap.size,2,none⟩ = some (.slice A0_2 l0_2.length c0_2):=(bc_ (blk_below HN0.out hb1) 2).trans rfl
  have HB1:=mk_ (st_ HB0.out hb1)
  clear hb1 hcv
  go_wp2_with fail
  go_ret
  exact ⟨by rw [HZ2.out];rfl,HB1.out⟩

/-! ### impl_Net_station: function 54 -/
def impl_Net_station.f (a0_0 : Int) (l0_1 : List (S51)) (l0_2 : List Int) (l0_3 : List Int) (a1 : Int) : Option (Bool):=(impl_NetValid.f a0_0 l0_1 l0_2 l0_3).bind fun t316 => (if t316 = true then ((impl_within.f a1 0 (wrap64 ((l0_2.length : Int) - 1))).bind fun t317 => (some t317)) else (some false))
set_option maxHeartbeats 8000000 in
set_option maxRecDepth 100000 in
theorem impl_Net_station.calls (a0_0 : Int) (A0_1 : Option Addr) (c0_1 : Nat) (l0_1 : List (S51)) (A0_2 : Option Addr) (c0_2 : Nat) (l0_2 : List Int) (A0_3 : Option Addr) (c0_3 : Nat) (l0_3 : List Int) (a1 : Int) (r : Bool) (w : World) (hr0_1 : Kd.C k51 w A0_1 l0_1.length l0_1) (hc0_1 : l0_1.length ≤ c0_1) (hr0_2 : Kd.C (Kd.int .i64) w A0_2 l0_2.length l0_2) (hc0_2 : l0_2.length ≤ c0_2) (hr0_3 : Kd.C (Kd.int .i64) w A0_3 l0_3.length l0_3) (hc0_3 : l0_3.length ≤ c0_3) (h : impl_Net_station.f a0_0 l0_1 l0_2 l0_3 a1 = some r) :
  Calls Try.prog 54 #[.agg #[.int .i64 a0_0,.slice A0_1 l0_1.length c0_1,.slice A0_2 l0_2.length c0_2,.slice A0_3 l0_3.length c0_3],.int .i64 a1] w fun e w' => e = .returned (.bool r) ∧ Below w.heap.size w w':=by
 have hu30:=Try.underlying30
 have HR0_1:=mk_ hr0_1
 have HC0_1:=mk_ hc0_1
 clear hr0_1 hc0_1
 have HR0_2:=mk_ hr0_2
 have HC0_2:=mk_ hc0_2
 clear hr0_2 hc0_2
 have HR0_3:=mk_ hr0_3
 have HC0_3:=mk_ hc0_3
 clear hr0_3 hc0_3
 have HB:=mk_ (Below.refl w.heap.size w)
 have H : ((impl_NetValid.f a0_0 l0_1 l0_2 l0_3).bind fun t316 => (if t316 = true then ((impl_within.f a1 0 (wrap64 ((l0_2.length : Int) - 1))).bind fun t317 => (some t317)) else (some false))) = some r:=h
 clear h
 replace H:=Option.bind_eq_some_iff.mp H
 obtain ⟨t316,A30,H⟩:=H
 replace H : (if t316 = true then ((impl_within.f a1 0 (wrap64 ((l0_2.length : Int) - 1))).bind fun t317 => (some t317)) else (some false)) = some r:=H
 have A3:=mk_ A30
 clear A30
 by_cases c4 : t316 = true
 ·subst c4
  have H1 : ((impl_within.f a1 0 (wrap64 ((l0_2.length : Int) - 1))).bind fun t317 => (some t317)) = some r:=by rw [if_pos rfl] at H;exact H
  clear H
  have H:=H1
  clear H1
  replace H:=Option.bind_eq_some_iff.mp H
  obtain ⟨t317,A50,H⟩:=H
  replace H : (some t317) = some r:=H
  have A5:=mk_ A50
  clear A50
  obtain rfl:=Option.some.inj H
  go_enter Try.func54,Try.ntmps54
  go_wp2_with (first|((with_reducible refine gate_dst (N:=2) rfl ?_);(try (refine gate_guard (by rfl) ?_;dsimp only));refine box_event ?hg (N:=2) ?hd (cs:=#[.int .i64 a0_0,.slice A0_1 l0_1.length c0_1,.slice A0_2 l0_2.length c0_2,.slice A0_3 l0_3.length c0_3]) (t:=30) ?hr ?_;(case hd => rfl);(case hg => rfl);(case hr => first|(go_simp;done)|(go_simp;rfl));intro gb315 hg w6 hbox hb;have n0_:=mk_ (st_ (by repeat (first|(with_reducible first|exact HB.out|apply ba_|apply bn_|apply bd_)|exact HB.out)) hb);have n1_:=mk_ (hbox);have n2_:=mk_ ((by rw [hg];exact (bz_ (by repeat (first|(with_reducible first|exact HB.out|apply ba_|apply bn_|apply bd_)|exact HB.out))) : w.heap.size ≤ gb315));have n3_:=mk_ ((by rw [hg];exact (bz_ (by repeat (first|(with_reducible first|exact HB.out|apply ba_|apply bn_|apply bd_)|exact HB.out))) : w.heap.size ≤ gb315));clear HB;have HB:=n0_;have BK315:=n1_;have GW315:=n2_;have GE315:=n3_;clear n0_ n1_ n2_ n3_;clear hb hbox hg;have hcz7_0 : w6.cell? ⟨gb315,0,none⟩ = some (.int .i64 a0_0):=(bc_ BK315.out 0).trans rfl;have hcz7_1 : w6.cell? ⟨gb315,1,none⟩ = some (.slice A0_1 l0_1.length c0_1):=(bc_ BK315.out 1).trans rfl;have hcz7_2 : w6.cell? ⟨gb315,2,none⟩ = some (.slice A0_2 l0_2.length c0_2):=(bc_ BK315.out 2).trans rfl;have hcz7_3 : w6.cell? ⟨gb315,3,none⟩ = some (.slice A0_3 l0_3.length c0_3):=(bc_ BK315.out 3).trans rfl;have hfz7_0:=bf_ BK315.out 0;have hfz7_1:=bf_ BK315.out 1;have hfz7_2:=bf_ BK315.out 2;have hfz7_3:=bf_ BK315.out 3)|((with_reducible refine gate_callee (f:=15) rfl ?_);refine goesL_ (some 6) rfl rfl Try.func15 (by kernel_rfl) rfl #[.agg #[.int .i64 a0_0,.slice A0_1 l0_1.length c0_1,.slice A0_2 l0_2.length c0_2,.slice A0_3 l0_3.length c0_3]] rfl (by (try simp only [List.map_toArray,List.map_cons,List.map_nil]);first|done|rfl|(simp only [List.length_drop,List.length_take];rfl)) ?_;(with_reducible refine (impl_NetValid.calls a0_0 _ _ l0_1 _ _ l0_2 _ _ l0_3 true _ ?side1 ?side2 ?side3 ?side4 ?side5 ?side6 A3.out).mono ?_);(case side1 => repeat (first|exact (cb_ HR0_1.out HB.out)|(with_reducible refine ca_ ?_ _)|(with_reducible refine cn_ ?_ _)|(with_reducible refine cd_ ?_)));(case side2 => exact HC0_1.out);(case side3 => repeat (first|exact (cb_ HR0_2.out HB.out)|(with_reducible refine ca_ ?_ _)|(with_reducible refine cn_ ?_ _)|(with_reducible refine cd_ ?_)));(case side4 => exact HC0_2.out);(case side5 => repeat (first|exact (cb_ HR0_3.out HB.out)|(with_reducible refine ca_ ?_ _)|(with_reducible refine cn_ ?_ _)|(with_reducible refine cd_ ?_)));(case side6 => exact HC0_3.out);rintro e w8 ⟨rfl,hb⟩;refine ⟨_,rfl,?_⟩;have n0_:=mk_ (blk_below (g:=gb315) (o:=.cells #[.int .i64 a0_0,.slice A0_1 l0_1.length c0_1,.slice A0_2 l0_2.length c0_2,.slice A0_3 l0_3.length c0_3] 30 (0,0)) (by (with_reducible repeat (first|refine kn_ ?_ _|refine kd_ ?_|refine ka_ ?_ _));exact BK315.out) hb);have n1_:=mk_ (st_ (by repeat (first|(with_reducible first|exact HB.out|apply ba_|apply bn_|apply bd_|refine bs_ ?_ GE315.out)|exact HB.out)) hb);clear BK315;clear HB;have BK315:=n0_;have HB:=n1_;clear n0_ n1_;(try clear hb);(try clear hb2);(try clear hk);(try clear hi);have hcz9_0 : w8.cell? ⟨gb315,0,none⟩ = some (.int .i64 a0_0):=(bc_ BK315.out 0).trans rfl;have hcz9_1 : w8.cell? ⟨gb315,1,none⟩ = some (.slice A0_1 l0_1.length c0_1):=(bc_ BK315.out 1).trans rfl;have hcz9_2 : w8.cell? ⟨gb315,2,none⟩ = some (.slice A0_2 l0_2.length c0_2):=(bc_ BK315.out 2).trans rfl;have hcz9_3 : w8.cell? ⟨gb315,3,none⟩ = some (.slice A0_3 l0_3.length c0_3):=(bc_ BK315.out 3).trans rfl;have hfz9_0:=bf_ BK315.out 0;have hfz9_1:=bf_ BK315.out 1;have hfz9_2:=bf_ BK315.out 2;have hfz9_3:=bf_ BK315.out 3)|(go_at_call 48;(with_reducible refine (impl_within.calls a1 0 (wrap64 ((l0_2.length : Int) - 1)) t317 _ A5.out).mono ?_);rintro e w' ⟨rfl,⟨nd,rfl⟩⟩))
  go_ret
  exact ⟨by first|rfl|(simp [errW_none,errW_some] <;> rfl)|(simp [*,errW_none,errW_some] <;> rfl),by repeat (first|(with_reducible first|exact HB.out|apply ba_|apply bn_|apply bd_|refine bs_ ?_ GE315.out)|exact HB.out)⟩
 ·replace c4:=Bool.eq_false_iff.mpr c4
  subst c4
  have H1 : (some false) = some r:=by rw [if_neg (show ¬ (false = true) by decide)] at H;exact H
  clear H
  have H:=H1
  clear H1
  obtain rfl:=Option.some.inj H
  go_enter Try.func54,Try.ntmps54
  go_wp2_with (first|((with_reducible refine gate_dst (N:=2) rfl ?_);(try (refine gate_guard (by rfl) ?_;dsimp only));refine box_event ?hg (N:=2) ?hd (cs:=#[.int .i64 a0_0,.slice A0_1 l0_1.length c0_1,.slice A0_2 l0_2.length c0_2,.slice A0_3 l0_3.length c0_3]) (t:=30) ?hr ?_;(case hd => rfl);(case hg => rfl);(case hr => first|(go_simp;done)|(go_simp;rfl));intro gb315 hg w10 hbox hb;have n0_:=mk_ (st_ (by repeat (first|(with_reducible first|exact HB.out|apply ba_|apply bn_|apply bd_)|exact HB.out)) hb);have n1_:=mk_ (hbox);have n2_:=mk_ ((by rw [hg];exact (bz_ (by repeat (first|(with_reducible first|exact HB.out|apply ba_|apply bn_|apply bd_)|exact HB.out))) : w.heap.size ≤ gb315));have n3_:=mk_ ((by rw [hg];exact (bz_ (by repeat (first|(with_reducible first|exact HB.out|apply ba_|apply bn_|apply bd_)|exact HB.out))) : w.heap.size ≤ gb315));clear HB;have HB:=n0_;have BK315:=n1_;have GW315:=n2_;have GE315:=n3_;clear n0_ n1_ n2_ n3_;clear hb hbox hg;have hcz11_0 : w10.cell? ⟨gb315,0,none⟩ = some (.int .i64 a0_0):=(bc_ BK315.out 0).trans rfl;have hcz11_1 : w10.cell? ⟨gb315,1,none⟩ = some (.slice A0_1 l0_1.length c0_1):=(bc_ BK315.out 1).trans rfl;have hcz11_2 : w10.cell? ⟨gb315,2,none⟩ = some (.slice A0_2 l0_2.length c0_2):=(bc_ BK315.out 2).trans rfl;have hcz11_3 : w10.cell? ⟨gb315,3,none⟩ = some (.slice A0_3 l0_3.length c0_3):=(bc_ BK315.out 3).trans rfl;have hfz11_0:=bf_ BK315.out 0;have hfz11_1:=bf_ BK315.out 1;have hfz11_2:=bf_ BK315.out 2;have hfz11_3:=bf_ BK315.out 3)|((with_reducible refine gate_callee (f:=15) rfl ?_);refine goesL_ (some 6) rfl rfl Try.func15 (by kernel_rfl) rfl #[.agg #[.int .i64 a0_0,.slice A0_1 l0_1.length c0_1,.slice A0_2 l0_2.length c0_2,.slice A0_3 l0_3.length c0_3]] rfl (by (try simp only [List.map_toArray,List.map_cons,List.map_nil]);first|done|rfl|(simp only [List.length_drop,List.length_take];rfl)) ?_;(with_reducible refine (impl_NetValid.calls a0_0 _ _ l0_1 _ _ l0_2 _ _ l0_3 false _ ?side1 ?side2 ?side3 ?side4 ?side5 ?side6 A3.out).mono ?_);(case side1 => repeat (first|exact (cb_ HR0_1.out HB.out)|(with_reducible refine ca_ ?_ _)|(with_reducible refine cn_ ?_ _)|(with_reducible refine cd_ ?_)));(case side2 => exact HC0_1.out);(case side3 => repeat (first|exact (cb_ HR0_2.out HB.out)|(with_reducible refine ca_ ?_ _)|(with_reducible refine cn_ ?_ _)|(with_reducible refine cd_ ?_)));(case side4 => exact HC0_2.out);(case side5 => repeat (first|exact (cb_ HR0_3.out HB.out)|(with_reducible refine ca_ ?_ _)|(with_reducible refine cn_ ?_ _)|(with_reducible refine cd_ ?_)));(case side6 => exact HC0_3.out);rintro e w12 ⟨rfl,hb⟩;refine ⟨_,rfl,?_⟩;have n0_:=mk_ (blk_below (g:=gb315) (o:=.cells #[.int .i64 a0_0,.slice A0_1 l0_1.length c0_1,.slice A0_2 l0_2.length c0_2,.slice A0_3 l0_3.length c0_3] 30 (0,0)) (by (with_reducible repeat (first|refine kn_ ?_ _|refine kd_ ?_|refine ka_ ?_ _));exact BK315.out) hb);have n1_:=mk_ (st_ (by repeat (first|(with_reducible first|exact HB.out|apply ba_|apply bn_|apply bd_|refine bs_ ?_ GE315.out)|exact HB.out)) hb);clear BK315;clear HB;have BK315:=n0_;have HB:=n1_;clear n0_ n1_;(try clear hb);(try clear hb2);(try clear hk);(try clear hi)))
  go_ret
  exact ⟨by first|rfl|(simp [errW_none,errW_some] <;> rfl)|(simp [*,errW_none,errW_some] <;> rfl),by repeat (first|(with_reducible first|exact HB.out|apply ba_|apply bn_|apply bd_|refine bs_ ?_ GE315.out)|exact HB.out)⟩

/-! ### impl_FloodOver: function 32 -/
def impl_FloodOver.l0 : Nat → Int → List Int → List Int → List Int → Int → Int → Int → List (S51) → List Int → List Int → Option (List Int)
 | 0,_,_,_,_,_,_,_,_,_,_ => none
 | k + 1,x1,x5,x6,x22,x23,x24,x319000,x319001,x319002,x319003 => if x24 < x23 then (if 0 ≤ x24 then (if x24 < (x22.length : Int) then (if 0 ≤ (rd x22 x24) then (if (rd x22 x24) < (x319001.length : Int) then (if 0 ≤ ((rd_T51 x319001 (rd x22 x24)).f0) then (if ((rd_T51 x319001 (rd x22 x24)).f0) < (x5.length : Int) then (if 0 ≤ x1 then (if x1 < (x319002.length : Int) then (if 0 ≤ (rd x319002 x1) then (if (rd x319002 x1) < (x5.length : Int) then (if (rd x5 ((rd_T51 x319001 (rd x22 x24)).f0)) = (rd x5 (rd x319002 x1)) then (if x6.length < 17592186044416 then (impl_FloodOver.l0 k x1 x5 (x6 ++ [rd x22 x24]) x22 x23 (wrap64 (x24 + 1)) x319000 x319001 x319002 x319003) else (none)) else (impl_FloodOver.l0 k x1 x5 x6 x22 x23 (wrap64 (x24 + 1)) x319000 x319001 x319002 x319003)) else (none)) else (none)) else (none)) else (none)) else (none)) else (none)) else (none)) else (none)) else (none)) else (none)) else (some x6)
def impl_FloodOver.f (k : Nat) (a0_0 : Int) (l0_1 : List (S51)) (l0_2 : List Int) (l0_3 : List Int) (a1 : Int) : Option (List Int):=(impl_Net_station.f a0_0 l0_1 l0_2 l0_3 a1).bind fun t319 => (if t319 = true then ((impl_rootsOf.f a0_0 l0_1).bind fun t320 => ((impl_TreeOf.f k a0_0 l0_1).bind fun t323 => (impl_FloodOver.l0 k a1 t320 ([] : List Int) t323 (t323.length : Int) 0 a0_0 l0_1 l0_2 l0_3))) else (some ([] : List Int)))
theorem impl_FloodOver.mono_l : ∀ k,(∀ y0 y1 y2 y3 y4 y5 y6 y7 y8 y9,LeO (impl_FloodOver.l0 k y0 y1 y2 y3 y4 y5 y6 y7 y8 y9) (impl_FloodOver.l0 (k + 1) y0 y1 y2 y3 y4 y5 y6 y7 y8 y9))
 | 0 => fun _ _ _ _ _ _ _ _ _ _ r h => by simp [impl_FloodOver.l0] at h
 | k + 1 => by
  have ih0:=impl_FloodOver.mono_l k
  ·intro y0 y1 y2 y3 y4 y5 y6 y7 y8 y9
   unfold impl_FloodOver.l0
   repeat' first
   | (with_reducible exact ih0 _ _ _ _ _ _ _ _ _ _)
   | (with_reducible exact impl_TreeOf.mono _ _ _)
   | (with_reducible exact LeO.refl _)
   | (with_reducible exact LeO.none _)
   | (with_reducible refine LeO.ite ?_ ?_)
   | (with_reducible refine LeO.bind ?_ (fun _ => ?_))
   | exact ih0 _ _ _ _ _ _ _ _ _ _
   | exact impl_TreeOf.mono _ _ _
   | exact LeO.none _
   | refine LeO.ite ?_ ?_
   | refine LeO.bind ?_ (fun _ => ?_)
theorem impl_FloodOver.mono : ∀ a0 a1 a2 a3 a4 k,LeO (impl_FloodOver.f k a0 a1 a2 a3 a4) (impl_FloodOver.f (k + 1) a0 a1 a2 a3 a4):=by
 intro a0 a1 a2 a3 a4 k
 have ih0:=impl_FloodOver.mono_l k
 unfold impl_FloodOver.f
 repeat' first
   | (with_reducible exact ih0 _ _ _ _ _ _ _ _ _ _)
   | (with_reducible exact impl_TreeOf.mono _ _ _)
   | (with_reducible exact LeO.refl _)
   | (with_reducible exact LeO.none _)
   | (with_reducible refine LeO.ite ?_ ?_)
   | (with_reducible refine LeO.bind ?_ (fun _ => ?_))
   | exact ih0 _ _ _ _ _ _ _ _ _ _
   | exact impl_TreeOf.mono _ _ _
   | exact LeO.none _
   | refine LeO.ite ?_ ?_
   | refine LeO.bind ?_ (fun _ => ?_)
set_option maxHeartbeats 8000000 in
set_option maxRecDepth 100000 in
theorem impl_FloodOver.calls (k : Nat) (a0_0 : Int) (A0_1 : Option Addr) (c0_1 : Nat) (l0_1 : List (S51)) (A0_2 : Option Addr) (c0_2 : Nat) (l0_2 : List Int) (A0_3 : Option Addr) (c0_3 : Nat) (l0_3 : List Int) (a1 : Int) (r : List Int) (w : World) (hr0_1 : Kd.C k51 w A0_1 l0_1.length l0_1) (hc0_1 : l0_1.length ≤ c0_1) (hr0_2 : Kd.C (Kd.int .i64) w A0_2 l0_2.length l0_2) (hc0_2 : l0_2.length ≤ c0_2) (hr0_3 : Kd.C (Kd.int .i64) w A0_3 l0_3.length l0_3) (hc0_3 : l0_3.length ≤ c0_3) (h : impl_FloodOver.f k a0_0 l0_1 l0_2 l0_3 a1 = some r) :
  Calls Try.prog 32 #[.agg #[.int .i64 a0_0,.slice A0_1 l0_1.length c0_1,.slice A0_2 l0_2.length c0_2,.slice A0_3 l0_3.length c0_3],.int .i64 a1] w fun e w' => ∃ v0_ : Value,e = .returned (v0_) ∧ Kd.R (Kd.int .i64) 3 w' w.heap.size (fun _ => True) v0_ r ∧ Below w.heap.size w w':=by
 have hu30:=Try.underlying30
 have HR0_1:=mk_ hr0_1
 have HC0_1:=mk_ hc0_1
 clear hr0_1 hc0_1
 have HR0_2:=mk_ hr0_2
 have HC0_2:=mk_ hc0_2
 clear hr0_2 hc0_2
 have HR0_3:=mk_ hr0_3
 have HC0_3:=mk_ hc0_3
 clear hr0_3 hc0_3
 have HB:=mk_ (Below.refl w.heap.size w)
 have H : ((impl_Net_station.f a0_0 l0_1 l0_2 l0_3 a1).bind fun t319 => (if t319 = true then ((impl_rootsOf.f a0_0 l0_1).bind fun t320 => ((impl_TreeOf.f k a0_0 l0_1).bind fun t323 => (impl_FloodOver.l0 k a1 t320 ([] : List Int) t323 (t323.length : Int) 0 a0_0 l0_1 l0_2 l0_3))) else (some ([] : List Int)))) = some r:=h
 clear h
 replace H:=Option.bind_eq_some_iff.mp H
 obtain ⟨t319,A30,H⟩:=H
 replace H : (if t319 = true then ((impl_rootsOf.f a0_0 l0_1).bind fun t320 => ((impl_TreeOf.f k a0_0 l0_1).bind fun t323 => (impl_FloodOver.l0 k a1 t320 ([] : List Int) t323 (t323.length : Int) 0 a0_0 l0_1 l0_2 l0_3))) else (some ([] : List Int))) = some r:=H
 have A3:=mk_ A30
 clear A30
 by_cases c4 : t319 = true
 ·subst c4
  have H1 : ((impl_rootsOf.f a0_0 l0_1).bind fun t320 => ((impl_TreeOf.f k a0_0 l0_1).bind fun t323 => (impl_FloodOver.l0 k a1 t320 ([] : List Int) t323 (t323.length : Int) 0 a0_0 l0_1 l0_2 l0_3))) = some r:=by rw [if_pos rfl] at H;exact H
  clear H
  have H:=H1
  clear H1
  replace H:=Option.bind_eq_some_iff.mp H
  obtain ⟨t320,A50,H⟩:=H
  replace H : ((impl_TreeOf.f k a0_0 l0_1).bind fun t323 => (impl_FloodOver.l0 k a1 t320 ([] : List Int) t323 (t323.length : Int) 0 a0_0 l0_1 l0_2 l0_3)) = some r:=H
  have A5:=mk_ A50
  clear A50
  replace H:=Option.bind_eq_some_iff.mp H
  obtain ⟨t323,A60,H⟩:=H
  replace H : (impl_FloodOver.l0 k a1 t320 ([] : List Int) t323 (t323.length : Int) 0 a0_0 l0_1 l0_2 l0_3) = some r:=H
  have A6:=mk_ A60
  clear A60
  have H':=mk_ H
  clear H
  go_enter Try.func32,Try.ntmps32
  go_wp2_with (first|((with_reducible refine gate_dst (N:=2) rfl ?_);refine box_event ?hg (N:=2) ?hd (cs:=#[.int .i64 a0_0,.slice A0_1 l0_1.length c0_1,.slice A0_2 l0_2.length c0_2,.slice A0_3 l0_3.length c0_3]) (t:=30) ?hr ?_;(case hd => rfl);(case hg => rfl);(case hr => first|(go_simp;done)|(go_simp;rfl));intro gb318 hg w7 hbox hb;have n0_:=mk_ (st_ (by repeat (first|(with_reducible first|exact HB.out|apply ba_|apply bn_|apply bd_)|exact HB.out)) hb);have n1_:=mk_ (hbox);have n2_:=mk_ ((by rw [hg];exact (bz_ (by repeat (first|(with_reducible first|exact HB.out|apply ba_|apply bn_|apply bd_)|exact HB.out))) : w.heap.size ≤ gb318));have n3_:=mk_ ((by rw [hg];exact (bz_ (by repeat (first|(with_reducible first|exact HB.out|apply ba_|apply bn_|apply bd_)|exact HB.out))) : w.heap.size ≤ gb318));clear HB;have HB:=n0_;have BK318:=n1_;have GW318:=n2_;have GE318:=n3_;clear n0_ n1_ n2_ n3_;clear hb hbox hg;have hcz8_0 : w7.cell? ⟨gb318,0,none⟩ = some (.int .i64 a0_0):=(bc_ BK318.out 0).trans rfl;have hcz8_1 : w7.cell? ⟨gb318,1,none⟩ = some (.slice A0_1 l0_1.length c0_1):=(bc_ BK318.out 1).trans rfl;have hcz8_2 : w7.cell? ⟨gb318,2,none⟩ = some (.slice A0_2 l0_2.length c0_2):=(bc_ BK318.out 2).trans rfl;have hcz8_3 : w7.cell? ⟨gb318,3,none⟩ = some (.slice A0_3 l0_3.length c0_3):=(bc_ BK318.out 3).trans rfl;have hfz8_0:=bf_ BK318.out 0;have hfz8_1:=bf_ BK318.out 1;have hfz8_2:=bf_ BK318.out 2;have hfz8_3:=bf_ BK318.out 3)|(go_at_call 54;(with_reducible refine (impl_Net_station.calls a0_0 _ _ l0_1 _ _ l0_2 _ _ l0_3 a1 true _ ?side1 ?side2 ?side3 ?side4 ?side5 ?side6 A3.out).mono ?_);(case side1 => repeat (first|exact (cb_ HR0_1.out HB.out)|(with_reducible refine ca_ ?_ _)|(with_reducible refine cn_ ?_ _)|(with_reducible refine cd_ ?_)));(case side2 => exact HC0_1.out);(case side3 => repeat (first|exact (cb_ HR0_2.out HB.out)|(with_reducible refine ca_ ?_ _)|(with_reducible refine cn_ ?_ _)|(with_reducible refine cd_ ?_)));(case side4 => exact HC0_2.out);(case side5 => repeat (first|exact (cb_ HR0_3.out HB.out)|(with_reducible refine ca_ ?_ _)|(with_reducible refine cn_ ?_ _)|(with_reducible refine cd_ ?_)));(case side6 => exact HC0_3.out);rintro e w9 ⟨rfl,hb⟩;have n0_:=mk_ (blk_below (g:=gb318) (o:=.cells #[.int .i64 a0_0,.slice A0_1 l0_1.length c0_1,.slice A0_2 l0_2.length c0_2,.slice A0_3 l0_3.length c0_3] 30 (0,0)) (by (with_reducible repeat (first|refine kn_ ?_ _|refine kd_ ?_|refine ka_ ?_ _));exact BK318.out) hb);have n1_:=mk_ (st_ (by repeat (first|(with_reducible first|exact HB.out|apply ba_|apply bn_|apply bd_|refine bs_ ?_ GE318.out)|exact HB.out)) hb);clear BK318;clear HB;have BK318:=n0_;have HB:=n1_;clear n0_ n1_;(try clear hb);(try clear hb2);(try clear hk);(try clear hi);have hcz10_0 : w9.cell? ⟨gb318,0,none⟩ = some (.int .i64 a0_0):=(bc_ BK318.out 0).trans rfl;have hcz10_1 : w9.cell? ⟨gb318,1,none⟩ = some (.slice A0_1 l0_1.length c0_1):=(bc_ BK318.out 1).trans rfl;have hcz10_2 : w9.cell? ⟨gb318,2,none⟩ = some (.slice A0_2 l0_2.length c0_2):=(bc_ BK318.out 2).trans rfl;have hcz10_3 : w9.cell? ⟨gb318,3,none⟩ = some (.slice A0_3 l0_3.length c0_3):=(bc_ BK318.out 3).trans rfl;have hfz10_0:=bf_ BK318.out 0;have hfz10_1:=bf_ BK318.out 1;have hfz10_2:=bf_ BK318.out 2;have hfz10_3:=bf_ BK318.out 3)|(go_at_call 55;(with_reducible refine (impl_rootsOf.calls a0_0 _ _ l0_1 t320 _ ?side1 ?side2 A5.out).mono ?_);(case side1 => repeat (first|exact (cb_ HR0_1.out HB.out)|(with_reducible refine ca_ ?_ _)|(with_reducible refine cn_ ?_ _)|(with_reducible refine cd_ ?_)));(case side2 => exact HC0_1.out);rintro e w11 ⟨v321,rfl,ho0,hb⟩;have n0_:=mk_ (Kd.R_lower ho0 (bz_ (by repeat (first|(with_reducible first|exact HB.out|apply ba_|apply bn_|apply bd_|refine bs_ ?_ GE318.out)|exact HB.out))));have n1_:=mk_ (blk_below (g:=gb318) (o:=.cells #[.int .i64 a0_0,.slice A0_1 l0_1.length c0_1,.slice A0_2 l0_2.length c0_2,.slice A0_3 l0_3.length c0_3] 30 (0,0)) (by (with_reducible repeat (first|refine kn_ ?_ _|refine kd_ ?_|refine ka_ ?_ _));exact BK318.out) hb);have n2_:=mk_ (st_ (by repeat (first|(with_reducible first|exact HB.out|apply ba_|apply bn_|apply bd_|refine bs_ ?_ GE318.out)|exact HB.out)) hb);clear BK318;clear HB;have HO322:=n0_;have BK318:=n1_;have HB:=n2_;clear n0_ n1_ n2_;(try clear hb);(try clear hb2);(try clear hk);(try clear hi);(try clear ho0);have hcz12_0 : w11.cell? ⟨gb318,0,none⟩ = some (.int .i64 a0_0):=(bc_ BK318.out 0).trans rfl;have hcz12_1 : w11.cell? ⟨gb318,1,none⟩ = some (.slice A0_1 l0_1.length c0_1):=(bc_ BK318.out 1).trans rfl;have hcz12_2 : w11.cell? ⟨gb318,2,none⟩ = some (.slice A0_2 l0_2.length c0_2):=(bc_ BK318.out 2).trans rfl;have hcz12_3 : w11.cell? ⟨gb318,3,none⟩ = some (.slice A0_3 l0_3.length c0_3):=(bc_ BK318.out 3).trans rfl;have hfz12_0:=bf_ BK318.out 0;have hfz12_1:=bf_ BK318.out 1;have hfz12_2:=bf_ BK318.out 2;have hfz12_3:=bf_ BK318.out 3)|(go_at_call 30;(with_reducible refine (impl_TreeOf.calls k a0_0 _ _ l0_1 t323 _ ?side1 ?side2 A6.out).mono ?_);(case side1 => repeat (first|exact (cb_ HR0_1.out HB.out)|(with_reducible refine ca_ ?_ _)|(with_reducible refine cn_ ?_ _)|(with_reducible refine cd_ ?_)));(case side2 => exact HC0_1.out);rintro e w13 ⟨v324,rfl,ho0,hb⟩;have n0_:=mk_ (re_ (by (with_reducible repeat (first|apply ra_|apply rn_|apply rd_));exact HO322.out) (Kd.R_base ho0) hb);have n1_:=mk_ (Kd.R_lower (Kd.R_new' ho0 (Kd.R_lt (by (with_reducible repeat (first|apply ra_|apply rn_|apply rd_));exact HO322.out))) (bz_ (by repeat (first|(with_reducible first|exact HB.out|apply ba_|apply bn_|apply bd_|refine bs_ ?_ GE318.out)|exact HB.out))));have n2_:=mk_ (blk_below (g:=gb318) (o:=.cells #[.int .i64 a0_0,.slice A0_1 l0_1.length c0_1,.slice A0_2 l0_2.length c0_2,.slice A0_3 l0_3.length c0_3] 30 (0,0)) (by (with_reducible repeat (first|refine kn_ ?_ _|refine kd_ ?_|refine ka_ ?_ _));exact BK318.out) hb);have n3_:=mk_ (st_ (by repeat (first|(with_reducible first|exact HB.out|apply ba_|apply bn_|apply bd_|refine bs_ ?_ GE318.out)|exact HB.out)) hb);clear HO322;clear BK318;clear HB;have HO322:=n0_;have HO325:=n1_;have BK318:=n2_;have HB:=n3_;clear n0_ n1_ n2_ n3_;(try clear hb);(try clear hb2);(try clear hk);(try clear hi);(try clear ho0);obtain ⟨Ao14,co14,eo14⟩:=Kd.R_slice HO325.out;subst eo14))
  repeat (go_quiet (first|((with_reducible refine gate_dst (N:=2) rfl ?_);refine box_event ?hg (N:=2) ?hd (cs:=#[.int .i64 a0_0,.slice A0_1 l0_1.length c0_1,.slice A0_2 l0_2.length c0_2,.slice A0_3 l0_3.length c0_3]) (t:=30) ?hr ?_;(case hd => rfl);(case hg => rfl);(case hr => first|(go_simp;done)|(go_simp;rfl));intro gb318 hg w7 hbox hb;have n0_:=mk_ (st_ (by repeat (first|(with_reducible first|exact HB.out|apply ba_|apply bn_|apply bd_)|exact HB.out)) hb);have n1_:=mk_ (hbox);have n2_:=mk_ ((by rw [hg];exact (bz_ (by repeat (first|(with_reducible first|exact HB.out|apply ba_|apply bn_|apply bd_)|exact HB.out))) : w.heap.size ≤ gb318));have n3_:=mk_ ((by rw [hg];exact (bz_ (by repeat (first|(with_reducible first|exact HB.out|apply ba_|apply bn_|apply bd_)|exact HB.out))) : w.heap.size ≤ gb318));clear HB;have HB:=n0_;have BK318:=n1_;have GW318:=n2_;have GE318:=n3_;clear n0_ n1_ n2_ n3_;clear hb hbox hg;have hcz8_0 : w7.cell? ⟨gb318,0,none⟩ = some (.int .i64 a0_0):=(bc_ BK318.out 0).trans rfl;have hcz8_1 : w7.cell? ⟨gb318,1,none⟩ = some (.slice A0_1 l0_1.length c0_1):=(bc_ BK318.out 1).trans rfl;have hcz8_2 : w7.cell? ⟨gb318,2,none⟩ = some (.slice A0_2 l0_2.length c0_2):=(bc_ BK318.out 2).trans rfl;have hcz8_3 : w7.cell? ⟨gb318,3,none⟩ = some (.slice A0_3 l0_3.length c0_3):=(bc_ BK318.out 3).trans rfl;have hfz8_0:=bf_ BK318.out 0;have hfz8_1:=bf_ BK318.out 1;have hfz8_2:=bf_ BK318.out 2;have hfz8_3:=bf_ BK318.out 3)|(go_at_call 54;(with_reducible refine (impl_Net_station.calls a0_0 _ _ l0_1 _ _ l0_2 _ _ l0_3 a1 true _ ?side1 ?side2 ?side3 ?side4 ?side5 ?side6 A3.out).mono ?_);(case side1 => repeat (first|exact (cb_ HR0_1.out HB.out)|(with_reducible refine ca_ ?_ _)|(with_reducible refine cn_ ?_ _)|(with_reducible refine cd_ ?_)));(case side2 => exact HC0_1.out);(case side3 => repeat (first|exact (cb_ HR0_2.out HB.out)|(with_reducible refine ca_ ?_ _)|(with_reducible refine cn_ ?_ _)|(with_reducible refine cd_ ?_)));(case side4 => exact HC0_2.out);(case side5 => repeat (first|exact (cb_ HR0_3.out HB.out)|(with_reducible refine ca_ ?_ _)|(with_reducible refine cn_ ?_ _)|(with_reducible refine cd_ ?_)));(case side6 => exact HC0_3.out);rintro e w9 ⟨rfl,hb⟩;have n0_:=mk_ (blk_below (g:=gb318) (o:=.cells #[.int .i64 a0_0,.slice A0_1 l0_1.length c0_1,.slice A0_2 l0_2.length c0_2,.slice A0_3 l0_3.length c0_3] 30 (0,0)) (by (with_reducible repeat (first|refine kn_ ?_ _|refine kd_ ?_|refine ka_ ?_ _));exact BK318.out) hb);have n1_:=mk_ (st_ (by repeat (first|(with_reducible first|exact HB.out|apply ba_|apply bn_|apply bd_|refine bs_ ?_ GE318.out)|exact HB.out)) hb);clear BK318;clear HB;have BK318:=n0_;have HB:=n1_;clear n0_ n1_;(try clear hb);(try clear hb2);(try clear hk);(try clear hi);have hcz10_0 : w9.cell? ⟨gb318,0,none⟩ = some (.int .i64 a0_0):=(bc_ BK318.out 0).trans rfl;have hcz10_1 : w9.cell? ⟨gb318,1,none⟩ = some (.slice A0_1 l0_1.length c0_1):=(bc_ BK318.out 1).trans rfl;have hcz10_2 : w9.cell? ⟨gb318,2,none⟩ = some (.slice A0_2 l0_2.length c0_2):=(bc_ BK318.out 2).trans rfl;have hcz10_3 : w9.cell? ⟨gb318,3,none⟩ = some (.slice A0_3 l0_3.length c0_3):=(bc_ BK318.out 3).trans rfl;have hfz10_0:=bf_ BK318.out 0;have hfz10_1:=bf_ BK318.out 1;have hfz10_2:=bf_ BK318.out 2;have hfz10_3:=bf_ BK318.out 3)|(go_at_call 55;(with_reducible refine (impl_rootsOf.calls a0_0 _ _ l0_1 t320 _ ?side1 ?side2 A5.out).mono ?_);(case side1 => repeat (first|exact (cb_ HR0_1.out HB.out)|(with_reducible refine ca_ ?_ _)|(with_reducible refine cn_ ?_ _)|(with_reducible refine cd_ ?_)));(case side2 => exact HC0_1.out);rintro e w11 ⟨v321,rfl,ho0,hb⟩;have n0_:=mk_ (Kd.R_lower ho0 (bz_ (by repeat (first|(with_reducible first|exact HB.out|apply ba_|apply bn_|apply bd_|refine bs_ ?_ GE318.out)|exact HB.out))));have n1_:=mk_ (blk_below (g:=gb318) (o:=.cells #[.int .i64 a0_0,.slice A0_1 l0_1.length c0_1,.slice A0_2 l0_2.length c0_2,.slice A0_3 l0_3.length c0_3] 30 (0,0)) (by (with_reducible repeat (first|refine kn_ ?_ _|refine kd_ ?_|refine ka_ ?_ _));exact BK318.out) hb);have n2_:=mk_ (st_ (by repeat (first|(with_reducible first|exact HB.out|apply ba_|apply bn_|apply bd_|refine bs_ ?_ GE318.out)|exact HB.out)) hb);clear BK318;clear HB;have HO322:=n0_;have BK318:=n1_;have HB:=n2_;clear n0_ n1_ n2_;(try clear hb);(try clear hb2);(try clear hk);(try clear hi);(try clear ho0);have hcz12_0 : w11.cell? ⟨gb318,0,none⟩ = some (.int .i64 a0_0):=(bc_ BK318.out 0).trans rfl;have hcz12_1 : w11.cell? ⟨gb318,1,none⟩ = some (.slice A0_1 l0_1.length c0_1):=(bc_ BK318.out 1).trans rfl;have hcz12_2 : w11.cell? ⟨gb318,2,none⟩ = some (.slice A0_2 l0_2.length c0_2):=(bc_ BK318.out 2).trans rfl;have hcz12_3 : w11.cell? ⟨gb318,3,none⟩ = some (.slice A0_3 l0_3.length c0_3):=(bc_ BK318.out 3).trans rfl;have hfz12_0:=bf_ BK318.out 0;have hfz12_1:=bf_ BK318.out 1;have hfz12_2:=bf_ BK318.out 2;have hfz12_3:=bf_ BK318.out 3)|(go_at_call 30;(with_reducible refine (impl_TreeOf.calls k a0_0 _ _ l0_1 t323 _ ?side1 ?side2 A6.out).mono ?_);(case side1 => repeat (first|exact (cb_ HR0_1.out HB.out)|(with_reducible refine ca_ ?_ _)|(with_reducible refine cn_ ?_ _)|(with_reducible refine cd_ ?_)));(case side2 => exact HC0_1.out);rintro e w13 ⟨v324,rfl,ho0,hb⟩;have n0_:=mk_ (re_ (by (with_reducible repeat (first|apply ra_|apply rn_|apply rd_));exact HO322.out) (Kd.R_base ho0) hb);have n1_:=mk_ (Kd.R_lower (Kd.R_new' ho0 (Kd.R_lt (by (with_reducible repeat (first|apply ra_|apply rn_|apply rd_));exact HO322.out))) (bz_ (by repeat (first|(with_reducible first|exact HB.out|apply ba_|apply bn_|apply bd_|refine bs_ ?_ GE318.out)|exact HB.out))));have n2_:=mk_ (blk_below (g:=gb318) (o:=.cells #[.int .i64 a0_0,.slice A0_1 l0_1.length c0_1,.slice A0_2 l0_2.length c0_2,.slice A0_3 l0_3.length c0_3] 30 (0,0)) (by (with_reducible repeat (first|refine kn_ ?_ _|refine kd_ ?_|refine ka_ ?_ _));exact BK318.out) hb);have n3_:=mk_ (st_ (by repeat (first|(with_reducible first|exact HB.out|apply ba_|apply bn_|apply bd_|refine bs_ ?_ GE318.out)|exact HB.out)) hb);clear HO322;clear BK318;clear HB;have HO322:=n0_;have HO325:=n1_;have BK318:=n2_;have HB:=n3_;clear n0_ n1_ n2_ n3_;(try clear hb);(try clear hb2);(try clear hk);(try clear hi);(try clear ho0);obtain ⟨Ao14,co14,eo14⟩:=Kd.R_slice HO325.out;subst eo14));try go_wp2_with (first|((with_reducible refine gate_dst (N:=2) rfl ?_);refine box_event ?hg (N:=2) ?hd (cs:=#[.int .i64 a0_0,.slice A0_1 l0_1.length c0_1,.slice A0_2 l0_2.length c0_2,.slice A0_3 l0_3.length c0_3]) (t:=30) ?hr ?_;(case hd => rfl);(case hg => rfl);(case hr => first|(go_simp;done)|(go_simp;rfl));intro gb318 hg w7 hbox hb;have n0_:=mk_ (st_ (by repeat (first|(with_reducible first|exact HB.out|apply ba_|apply bn_|apply bd_)|exact HB.out)) hb);have n1_:=mk_ (hbox);have n2_:=mk_ ((by rw [hg];exact (bz_ (by repeat (first|(with_reducible first|exact HB.out|apply ba_|apply bn_|apply bd_)|exact HB.out))) : w.heap.size ≤ gb318));have n3_:=mk_ ((by rw [hg];exact (bz_ (by repeat (first|(with_reducible first|exact HB.out|apply ba_|apply bn_|apply bd_)|exact HB.out))) : w.heap.size ≤ gb318));clear HB;have HB:=n0_;have BK318:=n1_;have GW318:=n2_;have GE318:=n3_;clear n0_ n1_ n2_ n3_;clear hb hbox hg;have hcz8_0 : w7.cell? ⟨gb318,0,none⟩ = some (.int .i64 a0_0):=(bc_ BK318.out 0).trans rfl;have hcz8_1 : w7.cell? ⟨gb318,1,none⟩ = some (.slice A0_1 l0_1.length c0_1):=(bc_ BK318.out 1).trans rfl;have hcz8_2 : w7.cell? ⟨gb318,2,none⟩ = some (.slice A0_2 l0_2.length c0_2):=(bc_ BK318.out 2).trans rfl;have hcz8_3 : w7.cell? ⟨gb318,3,none⟩ = some (.slice A0_3 l0_3.length c0_3):=(bc_ BK318.out 3).trans rfl;have hfz8_0:=bf_ BK318.out 0;have hfz8_1:=bf_ BK318.out 1;have hfz8_2:=bf_ BK318.out 2;have hfz8_3:=bf_ BK318.out 3)|(go_at_call 54;(with_reducible refine (impl_Net_station.calls a0_0 _ _ l0_1 _ _ l0_2 _ _ l0_3 a1 true _ ?side1 ?side2 ?side3 ?side4 ?side5 ?side6 A3.out).mono ?_);(case side1 => repeat (first|exact (cb_ HR0_1.out HB.out)|(with_reducible refine ca_ ?_ _)|(with_reducible refine cn_ ?_ _)|(with_reducible refine cd_ ?_)));(case side2 => exact HC0_1.out);(case side3 => repeat (first|exact (cb_ HR0_2.out HB.out)|(with_reducible refine ca_ ?_ _)|(with_reducible refine cn_ ?_ _)|(with_reducible refine cd_ ?_)));(case side4 => exact HC0_2.out);(case side5 => repeat (first|exact (cb_ HR0_3.out HB.out)|(with_reducible refine ca_ ?_ _)|(with_reducible refine cn_ ?_ _)|(with_reducible refine cd_ ?_)));(case side6 => exact HC0_3.out);rintro e w9 ⟨rfl,hb⟩;have n0_:=mk_ (blk_below (g:=gb318) (o:=.cells #[.int .i64 a0_0,.slice A0_1 l0_1.length c0_1,.slice A0_2 l0_2.length c0_2,.slice A0_3 l0_3.length c0_3] 30 (0,0)) (by (with_reducible repeat (first|refine kn_ ?_ _|refine kd_ ?_|refine ka_ ?_ _));exact BK318.out) hb);have n1_:=mk_ (st_ (by repeat (first|(with_reducible first|exact HB.out|apply ba_|apply bn_|apply bd_|refine bs_ ?_ GE318.out)|exact HB.out)) hb);clear BK318;clear HB;have BK318:=n0_;have HB:=n1_;clear n0_ n1_;(try clear hb);(try clear hb2);(try clear hk);(try clear hi);have hcz10_0 : w9.cell? ⟨gb318,0,none⟩ = some (.int .i64 a0_0):=(bc_ BK318.out 0).trans rfl;have hcz10_1 : w9.cell? ⟨gb318,1,none⟩ = some (.slice A0_1 l0_1.length c0_1):=(bc_ BK318.out 1).trans rfl;have hcz10_2 : w9.cell? ⟨gb318,2,none⟩ = some (.slice A0_2 l0_2.length c0_2):=(bc_ BK318.out 2).trans rfl;have hcz10_3 : w9.cell? ⟨gb318,3,none⟩ = some (.slice A0_3 l0_3.length c0_3):=(bc_ BK318.out 3).trans rfl;have hfz10_0:=bf_ BK318.out 0;have hfz10_1:=bf_ BK318.out 1;have hfz10_2:=bf_ BK318.out 2;have hfz10_3:=bf_ BK318.out 3)|(go_at_call 55;(with_reducible refine (impl_rootsOf.calls a0_0 _ _ l0_1 t320 _ ?side1 ?side2 A5.out).mono ?_);(case side1 => repeat (first|exact (cb_ HR0_1.out HB.out)|(with_reducible refine ca_ ?_ _)|(with_reducible refine cn_ ?_ _)|(with_reducible refine cd_ ?_)));(case side2 => exact HC0_1.out);rintro e w11 ⟨v321,rfl,ho0,hb⟩;have n0_:=mk_ (Kd.R_lower ho0 (bz_ (by repeat (first|(with_reducible first|exact HB.out|apply ba_|apply bn_|apply bd_|refine bs_ ?_ GE318.out)|exact HB.out))));have n1_:=mk_ (blk_below (g:=gb318) (o:=.cells #[.int .i64 a0_0,.slice A0_1 l0_1.length c0_1,.slice A0_2 l0_2.length c0_2,.slice A0_3 l0_3.length c0_3] 30 (0,0)) (by (with_reducible repeat (first|refine kn_ ?_ _|refine kd_ ?_|refine ka_ ?_ _));exact BK318.out) hb);have n2_:=mk_ (st_ (by repeat (first|(with_reducible first|exact HB.out|apply ba_|apply bn_|apply bd_|refine bs_ ?_ GE318.out)|exact HB.out)) hb);clear BK318;clear HB;have HO322:=n0_;have BK318:=n1_;have HB:=n2_;clear n0_ n1_ n2_;(try clear hb);(try clear hb2);(try clear hk);(try clear hi);(try clear ho0);have hcz12_0 : w11.cell? ⟨gb318,0,none⟩ = some (.int .i64 a0_0):=(bc_ BK318.out 0).trans rfl;have hcz12_1 : w11.cell? ⟨gb318,1,none⟩ = some (.slice A0_1 l0_1.length c0_1):=(bc_ BK318.out 1).trans rfl;have hcz12_2 : w11.cell? ⟨gb318,2,none⟩ = some (.slice A0_2 l0_2.length c0_2):=(bc_ BK318.out 2).trans rfl;have hcz12_3 : w11.cell? ⟨gb318,3,none⟩ = some (.slice A0_3 l0_3.length c0_3):=(bc_ BK318.out 3).trans rfl;have hfz12_0:=bf_ BK318.out 0;have hfz12_1:=bf_ BK318.out 1;have hfz12_2:=bf_ BK318.out 2;have hfz12_3:=bf_ BK318.out 3)|(go_at_call 30;(with_reducible refine (impl_TreeOf.calls k a0_0 _ _ l0_1 t323 _ ?side1 ?side2 A6.out).mono ?_);(case side1 => repeat (first|exact (cb_ HR0_1.out HB.out)|(with_reducible refine ca_ ?_ _)|(with_reducible refine cn_ ?_ _)|(with_reducible refine cd_ ?_)));(case side2 => exact HC0_1.out);rintro e w13 ⟨v324,rfl,ho0,hb⟩;have n0_:=mk_ (re_ (by (with_reducible repeat (first|apply ra_|apply rn_|apply rd_));exact HO322.out) (Kd.R_base ho0) hb);have n1_:=mk_ (Kd.R_lower (Kd.R_new' ho0 (Kd.R_lt (by (with_reducible repeat (first|apply ra_|apply rn_|apply rd_));exact HO322.out))) (bz_ (by repeat (first|(with_reducible first|exact HB.out|apply ba_|apply bn_|apply bd_|refine bs_ ?_ GE318.out)|exact HB.out))));have n2_:=mk_ (blk_below (g:=gb318) (o:=.cells #[.int .i64 a0_0,.slice A0_1 l0_1.length c0_1,.slice A0_2 l0_2.length c0_2,.slice A0_3 l0_3.length c0_3] 30 (0,0)) (by (with_reducible repeat (first|refine kn_ ?_ _|refine kd_ ?_|refine ka_ ?_ _));exact BK318.out) hb);have n3_:=mk_ (st_ (by repeat (first|(with_reducible first|exact HB.out|apply ba_|apply bn_|apply bd_|refine bs_ ?_ GE318.out)|exact HB.out)) hb);clear HO322;clear BK318;clear HB;have HO322:=n0_;have HO325:=n1_;have BK318:=n2_;have HB:=n3_;clear n0_ n1_ n2_ n3_;(try clear hb);(try clear hb2);(try clear hk);(try clear hi);(try clear ho0);obtain ⟨Ao14,co14,eo14⟩:=Kd.R_slice HO325.out;subst eo14)))
  go_loopg [6,24] k (fun kq v6 v24 w' => ∃ (x6_1 : List Int) (x24_1 : Int),v24 = .int .i64 x24_1 ∧ Aside0 (impl_FloodOver.l0 kq a1 t320 x6_1 t323 (t323.length : Int) x24_1 a0_0 l0_1 l0_2 l0_3 = some r) ∧ Aside0 (kq ≤ k) ∧ Aside0 (Kd.R (Kd.int .i64) 3 w' w.heap.size (fun k_ => some k_ ≠ (v6 : Value).ownBlock ∧ some k_ ≠ ((.slice Ao14 t323.length co14) : Value).ownBlock) v321 t320) ∧ Aside0 (Kd.R (Kd.int .i64) 3 w' w.heap.size (fun k_ => some k_ ≠ (v321 : Value).ownBlock ∧ some k_ ≠ ((.slice Ao14 t323.length co14) : Value).ownBlock) v6 x6_1) ∧ Aside0 (Kd.R (Kd.int .i64) 3 w' w.heap.size (fun k_ => some k_ ≠ (v321 : Value).ownBlock ∧ some k_ ≠ (v6 : Value).ownBlock) (.slice Ao14 t323.length co14) t323) ∧ Aside0 (w'.heap[gb318]? = some (.cells #[.int .i64 a0_0,(.slice A0_1 l0_1.length c0_1),(.slice A0_2 l0_2.length c0_2),(.slice A0_3 l0_3.length c0_3)] 30 (0,0))) ∧ Aside0 (Below w.heap.size w w'))
  case atStart => exact ⟨(([] : List Int)),(0),(by first|rfl|(simp;done)|(simp [*];done)),H',⟨Nat.le_refl _⟩,⟨by (with_reducible repeat (first|apply ra_|apply rn_|apply rd_));exact rm_ HO322.out (fun _ hk => ⟨(by simp [Value.ownBlock]),hk.2⟩)⟩,⟨by first|exact Kd.R_nil _ _ _ _ _|exact Kd.N_nil _ _ _ _ _|exact Kd.V_nil _ _ _ _ _|exact Kd.Q_nil _ _ _ _ _|exact Kd.S_nil _ _ _ _ _⟩,⟨by (with_reducible repeat (first|apply ra_|apply rn_|apply rd_));exact rm_ HO325.out (fun _ hk => ⟨hk.2,(by simp [Value.ownBlock])⟩)⟩,⟨by (with_reducible repeat (first|refine kn_ ?_ _|refine kd_ ?_|refine ka_ ?_ _));exact BK318.out⟩,⟨by repeat (first|(with_reducible first|exact HB.out|apply ba_|apply bn_|apply bd_|refine bs_ ?_ GE318.out)|exact HB.out)⟩⟩
  case round =>
   clear H'
   try clear p2
   try clear c3
   try clear c4
   try clear hcz10_0
   try clear hcz10_1
   try clear hcz10_2
   try clear hcz10_3
   try clear hcz12_0
   try clear hcz12_1
   try clear hcz12_2
   try clear hcz12_3
   try clear hcz8_0
   try clear hcz8_1
   try clear hcz8_2
   try clear hcz8_3
   try clear hfz10_0
   try clear hfz10_1
   try clear hfz10_2
   try clear hfz10_3
   try clear hfz12_0
   try clear hfz12_1
   try clear hfz12_2
   try clear hfz12_3
   try clear hfz8_0
   try clear hfz8_1
   try clear hfz8_2
   try clear hfz8_3
   obtain ⟨x6_1,x24_1,rfl,HA,HK1,HO_5,HO_6,HO_22,BK318,HB⟩:=hrel
   cases gk with
   | zero => exact absurd HA.out (by simp [impl_FloodOver.l0])
   | succ k1 =>
    have H:=HA.out
    clear HA
    simp only [impl_FloodOver.l0] at H
    by_cases c15 : x24_1 < (t323.length : Int)
    ·rw [if_pos c15] at H
     have c15b0 : decide (x24_1 < (t323.length : Int)) = true:=decide_eq_true c15
     clear c15
     by_cases c16 : 0 ≤ x24_1
     ·rw [if_pos c16] at H
      have c16b0 : decide (0 ≤ x24_1) = true:=decide_eq_true c16
      clear c16
      by_cases c17 : x24_1 < (t323.length : Int)
      ·rw [if_pos c17] at H
       have c17b0 : decide (x24_1 < (t323.length : Int)) = true:=decide_eq_true c17
       clear c17
       by_cases c18 : 0 ≤ (rd t323 x24_1)
       ·rw [if_pos c18] at H
        have c18b0 : decide (0 ≤ (rd t323 x24_1)) = true:=decide_eq_true c18
        clear c18
        by_cases c19 : (rd t323 x24_1) < (l0_1.length : Int)
        ·rw [if_pos c19] at H
         have c19b0 : decide ((rd t323 x24_1) < (l0_1.length : Int)) = true:=decide_eq_true c19
         clear c19
         by_cases c20 : 0 ≤ ((rd_T51 l0_1 (rd t323 x24_1)).f0)
         ·rw [if_pos c20] at H
          have c20b0 : decide (0 ≤ ((rd_T51 l0_1 (rd t323 x24_1)).f0)) = true:=decide_eq_true c20
          clear c20
          by_cases c21 : ((rd_T51 l0_1 (rd t323 x24_1)).f0) < (t320.length : Int)
          ·rw [if_pos c21] at H
           have c21b0 : decide (((rd_T51 l0_1 (rd t323 x24_1)).f0) < (t320.length : Int)) = true:=decide_eq_true c21
           clear c21
           by_cases c22 : 0 ≤ a1
           ·rw [if_pos c22] at H
            have c22b0 : decide (0 ≤ a1) = true:=decide_eq_true c22
            clear c22
            by_cases c23 : a1 < (l0_2.length : Int)
            ·rw [if_pos c23] at H
             have c23b0 : decide (a1 < (l0_2.length : Int)) = true:=decide_eq_true c23
             clear c23
             by_cases c24 : 0 ≤ (rd l0_2 a1)
             ·rw [if_pos c24] at H
              have c24b0 : decide (0 ≤ (rd l0_2 a1)) = true:=decide_eq_true c24
              clear c24
              by_cases c25 : (rd l0_2 a1) < (t320.length : Int)
              ·rw [if_pos c25] at H
               have c25b0 : decide ((rd l0_2 a1) < (t320.length : Int)) = true:=decide_eq_true c25
               clear c25
               by_cases c26 : (rd t320 ((rd_T51 l0_1 (rd t323 x24_1)).f0)) = (rd t320 (rd l0_2 a1))
               ·rw [if_pos c26] at H
                have c26b0 : ((rd t320 ((rd_T51 l0_1 (rd t323 x24_1)).f0)) == (rd t320 (rd l0_2 a1))) = true:=beq_iff_eq.mpr c26
                have c26b1 : ((rd t320 ((rd_T51 l0_1 (rd t323 x24_1)).f0)) != (rd t320 (rd l0_2 a1))) = false:=bne_eq_false_iff_eq.mpr c26
                clear c26
                by_cases c27 : x6_1.length < 17592186044416
                ·rw [if_pos c27] at H
                 have LMc27:=mk_ c27
                 clear c27
                 obtain ⟨y331,hy331⟩ : ∃ y_ : List Int,y_ = (x6_1 ++ [rd t323 x24_1]):=⟨_,rfl⟩
                 replace H : (impl_FloodOver.l0 k1 a1 t320 y331 t323 (t323.length : Int) (wrap64 (x24_1 + 1)) a0_0 l0_1 l0_2 l0_3) = some r:=by first|(rw [hy331];with_reducible exact H)|(have H2_:=(Option.bind_some _ _).symm.trans H;rw [hy331];with_reducible exact H2_)|(have H2_:=(Option.bind_some _ _).symm.trans H;with_reducible exact H2_)|with_reducible exact H|(rw [hy331];exact H)|exact H
                 have Ny331:=mk_ hy331
                 clear hy331
                 have H':=mk_ H
                 clear H
                 have p326 : 0 ≤ (x24_1 : Int):=od_ (by first|(with_reducible assumption)|assumption)
                 have q326 : x24_1 < (t323.length : Int):=od_ (by first|(with_reducible assumption)|assumption)
                 obtain ⟨ad326,e326,hx326_0⟩:=Kd.at_int (rr_ HO_22.out).2.2 x24_1 p326 q326
                 cases e326
                 replace p326:=eq_true p326
                 replace q326:=eq_true q326
                 have hcz28_0 : wr.cell? ⟨gb318,0,none⟩ = some (.int .i64 a0_0):=(bc_ BK318.out 0).trans rfl
                 have hcz28_1 : wr.cell? ⟨gb318,1,none⟩ = some (.slice A0_1 l0_1.length c0_1):=(bc_ BK318.out 1).trans rfl
                 have hcz28_2 : wr.cell? ⟨gb318,2,none⟩ = some (.slice A0_2 l0_2.length c0_2):=(bc_ BK318.out 2).trans rfl
                 have hcz28_3 : wr.cell? ⟨gb318,3,none⟩ = some (.slice A0_3 l0_3.length c0_3):=(bc_ BK318.out 3).trans rfl
                 have hfz28_0:=bf_ BK318.out 0
                 have hfz28_1:=bf_ BK318.out 1
                 have hfz28_2:=bf_ BK318.out 2
                 have hfz28_3:=bf_ BK318.out 3
                 have p327 : 0 ≤ ((rd t323 x24_1) : Int):=od_ (by first|(with_reducible assumption)|assumption)
                 have q327 : (rd t323 x24_1) < (l0_1.length : Int):=od_ (by first|(with_reducible assumption)|assumption)
                 obtain ⟨ad327,e327,hx327_0,hx327_1,hx327_2⟩:=at_T51 HR0_1.out (rd t323 x24_1) p327 q327
                 cases e327
                 replace hx327_0:=(HB.out.cell (wl_ w _ hx327_0)).trans hx327_0
                 replace hx327_1:=(HB.out.cell (wl_ w _ hx327_1)).trans hx327_1
                 replace hx327_2:=(HB.out.cell (wl_ w _ hx327_2)).trans hx327_2
                 replace p327:=eq_true p327
                 replace q327:=eq_true q327
                 obtain ⟨Ao29,co29,eo29⟩:=Kd.R_slice HO_5.out
                 subst eo29
                 have p328 : 0 ≤ (((rd_T51 l0_1 (rd t323 x24_1)).f0) : Int):=od_ (by first|(with_reducible assumption)|assumption)
                 have q328 : ((rd_T51 l0_1 (rd t323 x24_1)).f0) < (t320.length : Int):=od_ (by first|(with_reducible assumption)|assumption)
                 obtain ⟨ad328,e328,hx328_0⟩:=Kd.at_int (rr_ HO_5.out).2.2 ((rd_T51 l0_1 (rd t323 x24_1)).f0) p328 q328
                 cases e328
                 replace p328:=eq_true p328
                 replace q328:=eq_true q328
                 have p329 : 0 ≤ (a1 : Int):=od_ (by first|(with_reducible assumption)|assumption)
                 have q329 : a1 < (l0_2.length : Int):=od_ (by first|(with_reducible assumption)|assumption)
                 obtain ⟨ad329,e329,hx329_0⟩:=Kd.at_int HR0_2.out a1 p329 q329
                 cases e329
                 replace hx329_0:=(HB.out.cell (wl_ w _ hx329_0)).trans hx329_0
                 replace p329:=eq_true p329
                 replace q329:=eq_true q329
                 have p330 : 0 ≤ ((rd l0_2 a1) : Int):=od_ (by first|(with_reducible assumption)|assumption)
                 have q330 : (rd l0_2 a1) < (t320.length : Int):=od_ (by first|(with_reducible assumption)|assumption)
                 obtain ⟨ad330,e330,hx330_0⟩:=Kd.at_int (rr_ HO_5.out).2.2 (rd l0_2 a1) p330 q330
                 obtain rfl : ad328 = ad330:=(by injection e330)
                 replace p330:=eq_true p330
                 replace q330:=eq_true q330
                 go_wp2_with (first|((with_reducible refine gate_builtin (b:=.append) (xs:=#[.tmp 46,.tmp 48]) rfl ?_);at_builtin;refine Kd.R_append (Kd.int .i64) (w0:=w) w.heap.size rfl (.tmp 46) (.tmp 48) 23 3 (.int .i64 0) 8 rfl Try.underlying23 info3 rfl (by decide) (by omega) u6 x6_1 (rd t323 x24_1) [.int .i64 (rd t323 x24_1)] (fun k_ => some k_ ≠ (.slice (some ad328) t320.length co29 : Value).ownBlock ∧ some k_ ≠ (.slice (some ad326) t323.length co14 : Value).ownBlock) (fun _ => False) rfl rfl ?aP (fun _ hk => hk.elim) ?aF ?aO ?aB ?aS ?aL ?_;(case aP => exact rfl);(case aB => exact (by repeat (first|(with_reducible first|exact HB.out|apply ba_|apply bn_|apply bd_|refine bs_ ?_ GE318.out)|exact HB.out)));(case aF => exact (fun k_ hk => ⟨Kd.fresh' (Kd.R_lt (by (with_reducible repeat (first|apply ra_|apply rn_|apply rd_));exact HO_5.out)) k_ hk,Kd.fresh' (Kd.R_lt (by (with_reducible repeat (first|apply ra_|apply rn_|apply rd_));exact HO_22.out)) k_ hk⟩));(case aO => exact (by (with_reducible repeat (first|apply ra_|apply rn_|apply rd_));exact HO_6.out));(case aS => exact (bz_ (by repeat (first|(with_reducible first|exact HB.out|apply ba_|apply bn_|apply bd_|refine bs_ ?_ GE318.out)|exact HB.out))));(case aL => have:=LMc27.out;omega);intro v332 w30 ho hb hg hat;rw [← Ny331.out] at ho;have n0_:=mk_ (Kd.R_after (ok:=(fun k_ => some k_ ≠ (.slice (some ad326) t323.length co14 : Value).ownBlock)) (by (with_reducible repeat (first|apply ra_|apply rn_|apply rd_));exact rm_ HO_5.out (fun _ hk => ⟨hk.2,hk.1⟩)) hg hat);have n1_:=mk_ (Kd.R_after (ok:=(fun k_ => some k_ ≠ (.slice (some ad328) t320.length co29 : Value).ownBlock)) (by (with_reducible repeat (first|apply ra_|apply rn_|apply rd_));exact HO_22.out) hg hat);have n2_:=mk_ (blk_grown (g:=gb318) (o:=.cells #[.int .i64 a0_0,.slice (some ad327) l0_1.length c0_1,.slice (some ad329) l0_2.length c0_2,.slice A0_3 l0_3.length c0_3] 30 (0,0)) (by (with_reducible repeat (first|refine kn_ ?_ _|refine kd_ ?_|refine ka_ ?_ _));exact BK318.out) hg (Kd.R_ne HO_6.out BK318.out (by decide)));have n3_:=mk_ (hb);have n4_:=mk_ (ho);clear HO_5;clear HO_22;clear BK318;clear HB;clear HO_6;have HO_5:=n0_;have HO_22:=n1_;have BK318:=n2_;have HB:=n3_;have HO333:=n4_;clear n0_ n1_ n2_ n3_ n4_;clear ho hb hg hat))
                 repeat (go_quiet (first|((with_reducible refine gate_builtin (b:=.append) (xs:=#[.tmp 46,.tmp 48]) rfl ?_);at_builtin;refine Kd.R_append (Kd.int .i64) (w0:=w) w.heap.size rfl (.tmp 46) (.tmp 48) 23 3 (.int .i64 0) 8 rfl Try.underlying23 info3 rfl (by decide) (by omega) u6 x6_1 (rd t323 x24_1) [.int .i64 (rd t323 x24_1)] (fun k_ => some k_ ≠ (.slice (some ad328) t320.length co29 : Value).ownBlock ∧ some k_ ≠ (.slice (some ad326) t323.length co14 : Value).ownBlock) (fun _ => False) rfl rfl ?aP (fun _ hk => hk.elim) ?aF ?aO ?aB ?aS ?aL ?_;(case aP => exact rfl);(case aB => exact (by repeat (first|(with_reducible first|exact HB.out|apply ba_|apply bn_|apply bd_|refine bs_ ?_ GE318.out)|exact HB.out)));(case aF => exact (fun k_ hk => ⟨Kd.fresh' (Kd.R_lt (by (with_reducible repeat (first|apply ra_|apply rn_|apply rd_));exact HO_5.out)) k_ hk,Kd.fresh' (Kd.R_lt (by (with_reducible repeat (first|apply ra_|apply rn_|apply rd_));exact HO_22.out)) k_ hk⟩));(case aO => exact (by (with_reducible repeat (first|apply ra_|apply rn_|apply rd_));exact HO_6.out));(case aS => exact (bz_ (by repeat (first|(with_reducible first|exact HB.out|apply ba_|apply bn_|apply bd_|refine bs_ ?_ GE318.out)|exact HB.out))));(case aL => have:=LMc27.out;omega);intro v332 w30 ho hb hg hat;rw [← Ny331.out] at ho;have n0_:=mk_ (Kd.R_after (ok:=(fun k_ => some k_ ≠ (.slice (some ad326) t323.length co14 : Value).ownBlock)) (by (with_reducible repeat (first|apply ra_|apply rn_|apply rd_));exact rm_ HO_5.out (fun _ hk => ⟨hk.2,hk.1⟩)) hg hat);have n1_:=mk_ (Kd.R_after (ok:=(fun k_ => some k_ ≠ (.slice (some ad328) t320.length co29 : Value).ownBlock)) (by (with_reducible repeat (first|apply ra_|apply rn_|apply rd_));exact HO_22.out) hg hat);have n2_:=mk_ (blk_grown (g:=gb318) (o:=.cells #[.int .i64 a0_0,.slice (some ad327) l0_1.length c0_1,.slice (some ad329) l0_2.length c0_2,.slice A0_3 l0_3.length c0_3] 30 (0,0)) (by (with_reducible repeat (first|refine kn_ ?_ _|refine kd_ ?_|refine ka_ ?_ _));exact BK318.out) hg (Kd.R_ne HO_6.out BK318.out (by decide)));have n3_:=mk_ (hb);have n4_:=mk_ (ho);clear HO_5;clear HO_22;clear BK318;clear HB;clear HO_6;have HO_5:=n0_;have HO_22:=n1_;have BK318:=n2_;have HB:=n3_;have HO333:=n4_;clear n0_ n1_ n2_ n3_ n4_;clear ho hb hg hat));try go_wp2_with (first|((with_reducible refine gate_builtin (b:=.append) (xs:=#[.tmp 46,.tmp 48]) rfl ?_);at_builtin;refine Kd.R_append (Kd.int .i64) (w0:=w) w.heap.size rfl (.tmp 46) (.tmp 48) 23 3 (.int .i64 0) 8 rfl Try.underlying23 info3 rfl (by decide) (by omega) u6 x6_1 (rd t323 x24_1) [.int .i64 (rd t323 x24_1)] (fun k_ => some k_ ≠ (.slice (some ad328) t320.length co29 : Value).ownBlock ∧ some k_ ≠ (.slice (some ad326) t323.length co14 : Value).ownBlock) (fun _ => False) rfl rfl ?aP (fun _ hk => hk.elim) ?aF ?aO ?aB ?aS ?aL ?_;(case aP => exact rfl);(case aB => exact (by repeat (first|(with_reducible first|exact HB.out|apply ba_|apply bn_|apply bd_|refine bs_ ?_ GE318.out)|exact HB.out)));(case aF => exact (fun k_ hk => ⟨Kd.fresh' (Kd.R_lt (by (with_reducible repeat (first|apply ra_|apply rn_|apply rd_));exact HO_5.out)) k_ hk,Kd.fresh' (Kd.R_lt (by (with_reducible repeat (first|apply ra_|apply rn_|apply rd_));exact HO_22.out)) k_ hk⟩));(case aO => exact (by (with_reducible repeat (first|apply ra_|apply rn_|apply rd_));exact HO_6.out));(case aS => exact (bz_ (by repeat (first|(with_reducible first|exact HB.out|apply ba_|apply bn_|apply bd_|refine bs_ ?_ GE318.out)|exact HB.out))));(case aL => have:=LMc27.out;omega);intro v332 w30 ho hb hg hat;rw [← Ny331.out] at ho;have n0_:=mk_ (Kd.R_after (ok:=(fun k_ => some k_ ≠ (.slice (some ad326) t323.length co14 : Value).ownBlock)) (by (with_reducible repeat (first|apply ra_|apply rn_|apply rd_));exact rm_ HO_5.out (fun _ hk => ⟨hk.2,hk.1⟩)) hg hat);have n1_:=mk_ (Kd.R_after (ok:=(fun k_ => some k_ ≠ (.slice (some ad328) t320.length co29 : Value).ownBlock)) (by (with_reducible repeat (first|apply ra_|apply rn_|apply rd_));exact HO_22.out) hg hat);have n2_:=mk_ (blk_grown (g:=gb318) (o:=.cells #[.int .i64 a0_0,.slice (some ad327) l0_1.length c0_1,.slice (some ad329) l0_2.length c0_2,.slice A0_3 l0_3.length c0_3] 30 (0,0)) (by (with_reducible repeat (first|refine kn_ ?_ _|refine kd_ ?_|refine ka_ ?_ _));exact BK318.out) hg (Kd.R_ne HO_6.out BK318.out (by decide)));have n3_:=mk_ (hb);have n4_:=mk_ (ho);clear HO_5;clear HO_22;clear BK318;clear HB;clear HO_6;have HO_5:=n0_;have HO_22:=n1_;have BK318:=n2_;have HB:=n3_;have HO333:=n4_;clear n0_ n1_ n2_ n3_ n4_;clear ho hb hg hat)))
                 go_roundg k1
                 case measure => have:=HK1.out;omega
                 case rel => exact ⟨(y331),(wrap64 (x24_1 + 1)),(by first|rfl|(simp;done)|(simp [*];done)),H',⟨by have:=HK1.out;omega⟩,⟨by (with_reducible repeat (first|apply ra_|apply rn_|apply rd_));exact rm_ HO_5.out (fun _ hk => ⟨hk.2,hk.1⟩)⟩,⟨by (with_reducible repeat (first|apply ra_|apply rn_|apply rd_));exact HO333.out⟩,⟨by (with_reducible repeat (first|apply ra_|apply rn_|apply rd_));exact HO_22.out⟩,⟨by (with_reducible repeat (first|refine kn_ ?_ _|refine kd_ ?_|refine ka_ ?_ _));exact BK318.out⟩,⟨by repeat (first|(with_reducible first|exact HB.out|apply ba_|apply bn_|apply bd_|refine bs_ ?_ GE318.out)|exact HB.out)⟩⟩
                ·rw [if_neg c27] at H
                 exact absurd H (by simp)
               ·rw [if_neg c26] at H
                have c26b0 : ((rd t320 ((rd_T51 l0_1 (rd t323 x24_1)).f0)) == (rd t320 (rd l0_2 a1))) = false:=beq_eq_false_iff_ne.mpr c26
                have c26b1 : ((rd t320 ((rd_T51 l0_1 (rd t323 x24_1)).f0)) != (rd t320 (rd l0_2 a1))) = true:=bne_iff_ne.mpr c26
                have H':=mk_ H
                clear H
                have p326 : 0 ≤ (x24_1 : Int):=od_ (by first|(with_reducible assumption)|assumption)
                have q326 : x24_1 < (t323.length : Int):=od_ (by first|(with_reducible assumption)|assumption)
                obtain ⟨ad326,e326,hx326_0⟩:=Kd.at_int (rr_ HO_22.out).2.2 x24_1 p326 q326
                cases e326
                replace p326:=eq_true p326
                replace q326:=eq_true q326
                have hcz31_0 : wr.cell? ⟨gb318,0,none⟩ = some (.int .i64 a0_0):=(bc_ BK318.out 0).trans rfl
                have hcz31_1 : wr.cell? ⟨gb318,1,none⟩ = some (.slice A0_1 l0_1.length c0_1):=(bc_ BK318.out 1).trans rfl
                have hcz31_2 : wr.cell? ⟨gb318,2,none⟩ = some (.slice A0_2 l0_2.length c0_2):=(bc_ BK318.out 2).trans rfl
                have hcz31_3 : wr.cell? ⟨gb318,3,none⟩ = some (.slice A0_3 l0_3.length c0_3):=(bc_ BK318.out 3).trans rfl
                have hfz31_0:=bf_ BK318.out 0
                have hfz31_1:=bf_ BK318.out 1
                have hfz31_2:=bf_ BK318.out 2
                have hfz31_3:=bf_ BK318.out 3
                have p327 : 0 ≤ ((rd t323 x24_1) : Int):=od_ (by first|(with_reducible assumption)|assumption)
                have q327 : (rd t323 x24_1) < (l0_1.length : Int):=od_ (by first|(with_reducible assumption)|assumption)
                obtain ⟨ad327,e327,hx327_0,hx327_1,hx327_2⟩:=at_T51 HR0_1.out (rd t323 x24_1) p327 q327
                cases e327
                replace hx327_0:=(HB.out.cell (wl_ w _ hx327_0)).trans hx327_0
                replace hx327_1:=(HB.out.cell (wl_ w _ hx327_1)).trans hx327_1
                replace hx327_2:=(HB.out.cell (wl_ w _ hx327_2)).trans hx327_2
                replace p327:=eq_true p327
                replace q327:=eq_true q327
                obtain ⟨Ao32,co32,eo32⟩:=Kd.R_slice HO_5.out
                subst eo32
                have p328 : 0 ≤ (((rd_T51 l0_1 (rd t323 x24_1)).f0) : Int):=od_ (by first|(with_reducible assumption)|assumption)
                have q328 : ((rd_T51 l0_1 (rd t323 x24_1)).f0) < (t320.length : Int):=od_ (by first|(with_reducible assumption)|assumption)
                obtain ⟨ad328,e328,hx328_0⟩:=Kd.at_int (rr_ HO_5.out).2.2 ((rd_T51 l0_1 (rd t323 x24_1)).f0) p328 q328
                cases e328
                replace p328:=eq_true p328
                replace q328:=eq_true q328
                have p329 : 0 ≤ (a1 : Int):=od_ (by first|(with_reducible assumption)|assumption)
                have q329 : a1 < (l0_2.length : Int):=od_ (by first|(with_reducible assumption)|assumption)
                obtain ⟨ad329,e329,hx329_0⟩:=Kd.at_int HR0_2.out a1 p329 q329
                cases e329
                replace hx329_0:=(HB.out.cell (wl_ w _ hx329_0)).trans hx329_0
                replace p329:=eq_true p329
                replace q329:=eq_true q329
                have p330 : 0 ≤ ((rd l0_2 a1) : Int):=od_ (by first|(with_reducible assumption)|assumption)
                have q330 : (rd l0_2 a1) < (t320.length : Int):=od_ (by first|(with_reducible assumption)|assumption)
                obtain ⟨ad330,e330,hx330_0⟩:=Kd.at_int (rr_ HO_5.out).2.2 (rd l0_2 a1) p330 q330
                obtain rfl : ad328 = ad330:=(by injection e330)
                replace p330:=eq_true p330
                replace q330:=eq_true q330
                go_wp2
                repeat (go_quiet (fail);try go_wp2)
                go_roundg k1
                case measure => have:=HK1.out;omega
                case rel => exact ⟨(x6_1),(wrap64 (x24_1 + 1)),(by first|rfl|(simp;done)|(simp [*];done)),H',⟨by have:=HK1.out;omega⟩,⟨by (with_reducible repeat (first|apply ra_|apply rn_|apply rd_));exact HO_5.out⟩,⟨by (with_reducible repeat (first|apply ra_|apply rn_|apply rd_));exact HO_6.out⟩,⟨by (with_reducible repeat (first|apply ra_|apply rn_|apply rd_));exact HO_22.out⟩,⟨by (with_reducible repeat (first|refine kn_ ?_ _|refine kd_ ?_|refine ka_ ?_ _));exact BK318.out⟩,⟨by repeat (first|(with_reducible first|exact HB.out|apply ba_|apply bn_|apply bd_|refine bs_ ?_ GE318.out)|exact HB.out)⟩⟩
              ·rw [if_neg c25] at H
               exact absurd H (by simp)
             ·rw [if_neg c24] at H
              exact absurd H (by simp)
            ·rw [if_neg c23] at H
             exact absurd H (by simp)
           ·rw [if_neg c22] at H
            exact absurd H (by simp)
          ·rw [if_neg c21] at H
           exact absurd H (by simp)
         ·rw [if_neg c20] at H
          exact absurd H (by simp)
        ·rw [if_neg c19] at H
         exact absurd H (by simp)
       ·rw [if_neg c18] at H
        exact absurd H (by simp)
      ·rw [if_neg c17] at H
       exact absurd H (by simp)
     ·rw [if_neg c16] at H
      exact absurd H (by simp)
    ·rw [if_neg c15] at H
     have c15b0 : decide (x24_1 < (t323.length : Int)) = false:=decide_eq_false c15
     clear c15
     obtain rfl:=Option.some.inj H
     go_wp2
     repeat (go_quiet (fail);try go_wp2)
     go_ret
     exact ⟨_,by first|rfl|(simp [errW_none,errW_some] <;> rfl)|(simp [*,errW_none,errW_some] <;> rfl),by (with_reducible repeat (first|apply ra_|apply rn_|apply rd_));exact rm_ HO_6.out (fun _ hk => trivial),by repeat (first|(with_reducible first|exact HB.out|apply ba_|apply bn_|apply bd_|refine bs_ ?_ GE318.out)|exact HB.out)⟩
 ·replace c4:=Bool.eq_false_iff.mpr c4
  subst c4
  have H1 : (some ([] : List Int)) = some r:=by rw [if_neg (show ¬ (false = true) by decide)] at H;exact H
  clear H
  have H:=H1
  clear H1
  obtain rfl:=Option.some.inj H
  go_enter Try.func32,Try.ntmps32
  go_wp2_with (first|((with_reducible refine gate_dst (N:=2) rfl ?_);refine box_event ?hg (N:=2) ?hd (cs:=#[.int .i64 a0_0,.slice A0_1 l0_1.length c0_1,.slice A0_2 l0_2.length c0_2,.slice A0_3 l0_3.length c0_3]) (t:=30) ?hr ?_;(case hd => rfl);(case hg => rfl);(case hr => first|(go_simp;done)|(go_simp;rfl));intro gb318 hg w33 hbox hb;have n0_:=mk_ (st_ (by repeat (first|(with_reducible first|exact HB.out|apply ba_|apply bn_|apply bd_)|exact HB.out)) hb);have n1_:=mk_ (hbox);have n2_:=mk_ ((by rw [hg];exact (bz_ (by repeat (first|(with_reducible first|exact HB.out|apply ba_|apply bn_|apply bd_)|exact HB.out))) : w.heap.size ≤ gb318));have n3_:=mk_ ((by rw [hg];exact (bz_ (by repeat (first|(with_reducible first|exact HB.out|apply ba_|apply bn_|apply bd_)|exact HB.out))) : w.heap.size ≤ gb318));clear HB;have HB:=n0_;have BK318:=n1_;have GW318:=n2_;have GE318:=n3_;clear n0_ n1_ n2_ n3_;clear hb hbox hg;have hcz34_0 : w33.cell? ⟨gb318,0,none⟩ = some (.int .i64 a0_0):=(bc_ BK318.out 0).trans rfl;have hcz34_1 : w33.cell? ⟨gb318,1,none⟩ = some (.slice A0_1 l0_1.length c0_1):=(bc_ BK318.out 1).trans rfl;have hcz34_2 : w33.cell? ⟨gb318,2,none⟩ = some (.slice A0_2 l0_2.length c0_2):=(bc_ BK318.out 2).trans rfl;have hcz34_3 : w33.cell? ⟨gb318,3,none⟩ = some (.slice A0_3 l0_3.length c0_3):=(bc_ BK318.out 3).trans rfl;have hfz34_0:=bf_ BK318.out 0;have hfz34_1:=bf_ BK318.out 1;have hfz34_2:=bf_ BK318.out 2;have hfz34_3:=bf_ BK318.out 3)|(go_at_call 54;(with_reducible refine (impl_Net_station.calls a0_0 _ _ l0_1 _ _ l0_2 _ _ l0_3 a1 false _ ?side1 ?side2 ?side3 ?side4 ?side5 ?side6 A3.out).mono ?_);(case side1 => repeat (first|exact (cb_ HR0_1.out HB.out)|(with_reducible refine ca_ ?_ _)|(with_reducible refine cn_ ?_ _)|(with_reducible refine cd_ ?_)));(case side2 => exact HC0_1.out);(case side3 => repeat (first|exact (cb_ HR0_2.out HB.out)|(with_reducible refine ca_ ?_ _)|(with_reducible refine cn_ ?_ _)|(with_reducible refine cd_ ?_)));(case side4 => exact HC0_2.out);(case side5 => repeat (first|exact (cb_ HR0_3.out HB.out)|(with_reducible refine ca_ ?_ _)|(with_reducible refine cn_ ?_ _)|(with_reducible refine cd_ ?_)));(case side6 => exact HC0_3.out);rintro e w35 ⟨rfl,hb⟩;have n0_:=mk_ (blk_below (g:=gb318) (o:=.cells #[.int .i64 a0_0,.slice A0_1 l0_1.length c0_1,.slice A0_2 l0_2.length c0_2,.slice A0_3 l0_3.length c0_3] 30 (0,0)) (by (with_reducible repeat (first|refine kn_ ?_ _|refine kd_ ?_|refine ka_ ?_ _));exact BK318.out) hb);have n1_:=mk_ (st_ (by repeat (first|(with_reducible first|exact HB.out|apply ba_|apply bn_|apply bd_|refine bs_ ?_ GE318.out)|exact HB.out)) hb);clear BK318;clear HB;have BK318:=n0_;have HB:=n1_;clear n0_ n1_;(try clear hb);(try clear hb2);(try clear hk);(try clear hi)))
  repeat (go_quiet (first|((with_reducible refine gate_dst (N:=2) rfl ?_);refine box_event ?hg (N:=2) ?hd (cs:=#[.int .i64 a0_0,.slice A0_1 l0_1.length c0_1,.slice A0_2 l0_2.length c0_2,.slice A0_3 l0_3.length c0_3]) (t:=30) ?hr ?_;(case hd => rfl);(case hg => rfl);(case hr => first|(go_simp;done)|(go_simp;rfl));intro gb318 hg w33 hbox hb;have n0_:=mk_ (st_ (by repeat (first|(with_reducible first|exact HB.out|apply ba_|apply bn_|apply bd_)|exact HB.out)) hb);have n1_:=mk_ (hbox);have n2_:=mk_ ((by rw [hg];exact (bz_ (by repeat (first|(with_reducible first|exact HB.out|apply ba_|apply bn_|apply bd_)|exact HB.out))) : w.heap.size ≤ gb318));have n3_:=mk_ ((by rw [hg];exact (bz_ (by repeat (first|(with_reducible first|exact HB.out|apply ba_|apply bn_|apply bd_)|exact HB.out))) : w.heap.size ≤ gb318));clear HB;have HB:=n0_;have BK318:=n1_;have GW318:=n2_;have GE318:=n3_;clear n0_ n1_ n2_ n3_;clear hb hbox hg;have hcz34_0 : w33.cell? ⟨gb318,0,none⟩ = some (.int .i64 a0_0):=(bc_ BK318.out 0).trans rfl;have hcz34_1 : w33.cell? ⟨gb318,1,none⟩ = some (.slice A0_1 l0_1.length c0_1):=(bc_ BK318.out 1).trans rfl;have hcz34_2 : w33.cell? ⟨gb318,2,none⟩ = some (.slice A0_2 l0_2.length c0_2):=(bc_ BK318.out 2).trans rfl;have hcz34_3 : w33.cell? ⟨gb318,3,none⟩ = some (.slice A0_3 l0_3.length c0_3):=(bc_ BK318.out 3).trans rfl;have hfz34_0:=bf_ BK318.out 0;have hfz34_1:=bf_ BK318.out 1;have hfz34_2:=bf_ BK318.out 2;have hfz34_3:=bf_ BK318.out 3)|(go_at_call 54;(with_reducible refine (impl_Net_station.calls a0_0 _ _ l0_1 _ _ l0_2 _ _ l0_3 a1 false _ ?side1 ?side2 ?side3 ?side4 ?side5 ?side6 A3.out).mono ?_);(case side1 => repeat (first|exact (cb_ HR0_1.out HB.out)|(with_reducible refine ca_ ?_ _)|(with_reducible refine cn_ ?_ _)|(with_reducible refine cd_ ?_)));(case side2 => exact HC0_1.out);(case side3 => repeat (first|exact (cb_ HR0_2.out HB.out)|(with_reducible refine ca_ ?_ _)|(with_reducible refine cn_ ?_ _)|(with_reducible refine cd_ ?_)));(case side4 => exact HC0_2.out);(case side5 => repeat (first|exact (cb_ HR0_3.out HB.out)|(with_reducible refine ca_ ?_ _)|(with_reducible refine cn_ ?_ _)|(with_reducible refine cd_ ?_)));(case side6 => exact HC0_3.out);rintro e w35 ⟨rfl,hb⟩;have n0_:=mk_ (blk_below (g:=gb318) (o:=.cells #[.int .i64 a0_0,.slice A0_1 l0_1.length c0_1,.slice A0_2 l0_2.length c0_2,.slice A0_3 l0_3.length c0_3] 30 (0,0)) (by (with_reducible repeat (first|refine kn_ ?_ _|refine kd_ ?_|refine ka_ ?_ _));exact BK318.out) hb);have n1_:=mk_ (st_ (by repeat (first|(with_reducible first|exact HB.out|apply ba_|apply bn_|apply bd_|refine bs_ ?_ GE318.out)|exact HB.out)) hb);clear BK318;clear HB;have BK318:=n0_;have HB:=n1_;clear n0_ n1_;(try clear hb);(try clear hb2);(try clear hk);(try clear hi)));try go_wp2_with (first|((with_reducible refine gate_dst (N:=2) rfl ?_);refine box_event ?hg (N:=2) ?hd (cs:=#[.int .i64 a0_0,.slice A0_1 l0_1.length c0_1,.slice A0_2 l0_2.length c0_2,.slice A0_3 l0_3.length c0_3]) (t:=30) ?hr ?_;(case hd => rfl);(case hg => rfl);(case hr => first|(go_simp;done)|(go_simp;rfl));intro gb318 hg w33 hbox hb;have n0_:=mk_ (st_ (by repeat (first|(with_reducible first|exact HB.out|apply ba_|apply bn_|apply bd_)|exact HB.out)) hb);have n1_:=mk_ (hbox);have n2_:=mk_ ((by rw [hg];exact (bz_ (by repeat (first|(with_reducible first|exact HB.out|apply ba_|apply bn_|apply bd_)|exact HB.out))) : w.heap.size ≤ gb318));have n3_:=mk_ ((by rw [hg];exact (bz_ (by repeat (first|(with_reducible first|exact HB.out|apply ba_|apply bn_|apply bd_)|exact HB.out))) : w.heap.size ≤ gb318));clear HB;have HB:=n0_;have BK318:=n1_;have GW318:=n2_;have GE318:=n3_;clear n0_ n1_ n2_ n3_;clear hb hbox hg;have hcz34_0 : w33.cell? ⟨gb318,0,none⟩ = some (.int .i64 a0_0):=(bc_ BK318.out 0).trans rfl;have hcz34_1 : w33.cell? ⟨gb318,1,none⟩ = some (.slice A0_1 l0_1.length c0_1):=(bc_ BK318.out 1).trans rfl;have hcz34_2 : w33.cell? ⟨gb318,2,none⟩ = some (.slice A0_2 l0_2.length c0_2):=(bc_ BK318.out 2).trans rfl;have hcz34_3 : w33.cell? ⟨gb318,3,none⟩ = some (.slice A0_3 l0_3.length c0_3):=(bc_ BK318.out 3).trans rfl;have hfz34_0:=bf_ BK318.out 0;have hfz34_1:=bf_ BK318.out 1;have hfz34_2:=bf_ BK318.out 2;have hfz34_3:=bf_ BK318.out 3)|(go_at_call 54;(with_reducible refine (impl_Net_station.calls a0_0 _ _ l0_1 _ _ l0_2 _ _ l0_3 a1 false _ ?side1 ?side2 ?side3 ?side4 ?side5 ?side6 A3.out).mono ?_);(case side1 => repeat (first|exact (cb_ HR0_1.out HB.out)|(with_reducible refine ca_ ?_ _)|(with_reducible refine cn_ ?_ _)|(with_reducible refine cd_ ?_)));(case side2 => exact HC0_1.out);(case side3 => repeat (first|exact (cb_ HR0_2.out HB.out)|(with_reducible refine ca_ ?_ _)|(with_reducible refine cn_ ?_ _)|(with_reducible refine cd_ ?_)));(case side4 => exact HC0_2.out);(case side5 => repeat (first|exact (cb_ HR0_3.out HB.out)|(with_reducible refine ca_ ?_ _)|(with_reducible refine cn_ ?_ _)|(with_reducible refine cd_ ?_)));(case side6 => exact HC0_3.out);rintro e w35 ⟨rfl,hb⟩;have n0_:=mk_ (blk_below (g:=gb318) (o:=.cells #[.int .i64 a0_0,.slice A0_1 l0_1.length c0_1,.slice A0_2 l0_2.length c0_2,.slice A0_3 l0_3.length c0_3] 30 (0,0)) (by (with_reducible repeat (first|refine kn_ ?_ _|refine kd_ ?_|refine ka_ ?_ _));exact BK318.out) hb);have n1_:=mk_ (st_ (by repeat (first|(with_reducible first|exact HB.out|apply ba_|apply bn_|apply bd_|refine bs_ ?_ GE318.out)|exact HB.out)) hb);clear BK318;clear HB;have BK318:=n0_;have HB:=n1_;clear n0_ n1_;(try clear hb);(try clear hb2);(try clear hk);(try clear hi))))
  go_ret
  exact ⟨_,by first|rfl|(simp [errW_none,errW_some] <;> rfl)|(simp [*,errW_none,errW_some] <;> rfl),by first|exact Kd.R_nil _ _ _ _ _|exact Kd.N_nil _ _ _ _ _|exact Kd.V_nil _ _ _ _ _|exact Kd.Q_nil _ _ _ _ _|exact Kd.S_nil _ _ _ _ _,by repeat (first|(with_reducible first|exact HB.out|apply ba_|apply bn_|apply bd_|refine bs_ ?_ GE318.out)|exact HB.out)⟩

/-! ### spec_l1In: function 40 -/
def spec_l1In.f (a0 : Int) (a1 : Int) (a2 : Int) : Option (Bool):=if a0 ≥ a1 then (some (decide (a0 ≤ a2))) else (some false)
set_option maxHeartbeats 8000000 in
set_option maxRecDepth 100000 in
theorem spec_l1In.calls (a0 : Int) (a1 : Int) (a2 : Int) (r : Bool) (w : World) (h : spec_l1In.f a0 a1 a2 = some r) :
  Calls Try.prog 40 #[.int .i64 a0,.int .i64 a1,.int .i64 a2] w fun e w' => e = .returned (.bool r) ∧ Drawn0 w w':=by
 have H : (if a0 ≥ a1 then (some (decide (a0 ≤ a2))) else (some false)) = some r:=h
 clear h
 by_cases c4 : a0 ≥ a1
 ·rw [if_pos c4] at H
  have c4b0 : decide (a1 ≤ a0) = true:=decide_eq_true c4
  clear c4
  obtain rfl:=Option.some.inj H
  go_enter Try.func40,Try.ntmps40
  go_wp2
  go_ret
  exact ⟨by first|rfl|(simp;done)|(simp [*];done),by repeat (first|exact Drawn0.refl _|apply Drawn0.step)⟩
 ·rw [if_neg c4] at H
  have c4b0 : decide (a1 ≤ a0) = false:=decide_eq_false c4
  clear c4
  obtain rfl:=Option.some.inj H
  go_enter Try.func40,Try.ntmps40
  go_wp2
  go_ret
  exact ⟨by first|rfl|(simp;done)|(simp [*];done),by repeat (first|exact Drawn0.refl _|apply Drawn0.step)⟩

/-! ### spec_l10Vlan: function 41 -/
def spec_l10Vlan.f (a0 : Int) : Option (Bool):=(spec_l1In.f a0 1 9).bind fun t334 => (some t334)
set_option maxHeartbeats 8000000 in
set_option maxRecDepth 100000 in
theorem spec_l10Vlan.calls (a0 : Int) (r : Bool) (w : World) (h : spec_l10Vlan.f a0 = some r) :
  Calls Try.prog 41 #[.int .i64 a0] w fun e w' => e = .returned (.bool r) ∧ Drawn0 w w':=by
 have H : ((spec_l1In.f a0 1 9).bind fun t334 => (some t334)) = some r:=h
 clear h
 replace H:=Option.bind_eq_some_iff.mp H
 obtain ⟨t334,A20,H⟩:=H
 replace H : (some t334) = some r:=H
 have A2:=mk_ A20
 clear A20
 obtain rfl:=Option.some.inj H
 go_enter Try.func41,Try.ntmps41
 go_wp2_with (first|((with_reducible refine gate_callee (f:=40) rfl ?_);refine goesL_ (some 4) rfl rfl Try.func40 (by kernel_rfl) rfl #[.int .i64 a0,.int .i64 1,.int .i64 9] rfl (by (try simp only [List.map_toArray,List.map_cons,List.map_nil]);first|done|rfl|(simp only [List.length_drop,List.length_take];rfl)) ?_;(with_reducible refine (spec_l1In.calls a0 1 9 t334 _ A2.out).mono ?_);rintro e w' ⟨rfl,⟨nd,rfl⟩⟩;refine ⟨_,rfl,?_⟩))
 go_ret
 exact ⟨by first|rfl|(simp;done)|(simp [*];done),by repeat (first|exact Drawn0.refl _|apply Drawn0.step)⟩

/-! ### spec_CablesValid: function 42 -/
mutual
def spec_CablesValid.j0 : Nat → Int → List (S51) → Bool → Option (Bool)
 | 0,_,_,_ => none
 | k + 1,x0,x1,x14 => if x14 = true then (some false) else (spec_CablesValid.l0 k x0 x1 0)
def spec_CablesValid.l0 : Nat → Int → List (S51) → Int → Option (Bool)
 | 0,_,_,_ => none
 | k + 1,x0,x1,x5 => if x5 < (x1.length : Int) then (if 0 ≤ x5 then ((spec_l1In.f ((rd_T51 x1 x5).f0) 0 (wrap64 (x0 - 1))).bind fun t338 => (if t338 = true then ((spec_l1In.f ((rd_T51 x1 x5).f1) 0 (wrap64 (x0 - 1))).bind fun t339 => (if t339 = true then (if ((rd_T51 x1 x5).f0) = ((rd_T51 x1 x5).f1) then (some false) else ((spec_l1In.f ((rd_T51 x1 x5).f2) 1 99).bind fun t340 => (if t340 = true then (spec_CablesValid.l0 k x0 x1 (wrap64 (x5 + 1))) else (some false)))) else (some false))) else (some false))) else (none)) else (some true)
end
def spec_CablesValid.f (k : Nat) (a0 : Int) (l1 : List (S51)) : Option (Bool):=(spec_l1In.f a0 1 8).bind fun t335 => (if t335 = true then (spec_CablesValid.j0 k a0 l1 (decide ((l1.length : Int) > 20))) else (spec_CablesValid.j0 k a0 l1 true))
theorem spec_CablesValid.mono_l : ∀ k,(∀ y0 y1 y2,LeO (spec_CablesValid.j0 k y0 y1 y2) (spec_CablesValid.j0 (k + 1) y0 y1 y2)) ∧ (∀ y0 y1 y2,LeO (spec_CablesValid.l0 k y0 y1 y2) (spec_CablesValid.l0 (k + 1) y0 y1 y2))
 | 0 => ⟨fun _ _ _ r h => by simp [spec_CablesValid.j0] at h,fun _ _ _ r h => by simp [spec_CablesValid.l0] at h⟩
 | k + 1 => by
  obtain ⟨ih0,ih1⟩:=spec_CablesValid.mono_l k
  refine ⟨?_,?_⟩
  ·intro y0 y1 y2
   unfold spec_CablesValid.j0
   repeat' first
   | (with_reducible exact ih0 _ _ _)
   | (with_reducible exact ih1 _ _ _)
   | (with_reducible exact LeO.refl _)
   | (with_reducible exact LeO.none _)
   | (with_reducible refine LeO.ite ?_ ?_)
   | (with_reducible refine LeO.bind ?_ (fun _ => ?_))
   | exact ih0 _ _ _
   | exact ih1 _ _ _
   | exact LeO.none _
   | refine LeO.ite ?_ ?_
   | refine LeO.bind ?_ (fun _ => ?_)
  ·intro y0 y1 y2
   unfold spec_CablesValid.l0
   repeat' first
   | (with_reducible exact ih0 _ _ _)
   | (with_reducible exact ih1 _ _ _)
   | (with_reducible exact LeO.refl _)
   | (with_reducible exact LeO.none _)
   | (with_reducible refine LeO.ite ?_ ?_)
   | (with_reducible refine LeO.bind ?_ (fun _ => ?_))
   | exact ih0 _ _ _
   | exact ih1 _ _ _
   | exact LeO.none _
   | refine LeO.ite ?_ ?_
   | refine LeO.bind ?_ (fun _ => ?_)
theorem spec_CablesValid.mono : ∀ a0 a1 k,LeO (spec_CablesValid.f k a0 a1) (spec_CablesValid.f (k + 1) a0 a1):=by
 intro a0 a1 k
 obtain ⟨ih0,ih1⟩:=spec_CablesValid.mono_l k
 unfold spec_CablesValid.f
 repeat' first
   | (with_reducible exact ih0 _ _ _)
   | (with_reducible exact ih1 _ _ _)
   | (with_reducible exact LeO.refl _)
   | (with_reducible exact LeO.none _)
   | (with_reducible refine LeO.ite ?_ ?_)
   | (with_reducible refine LeO.bind ?_ (fun _ => ?_))
   | exact ih0 _ _ _
   | exact ih1 _ _ _
   | exact LeO.none _
   | refine LeO.ite ?_ ?_
   | refine LeO.bind ?_ (fun _ => ?_)
set_option maxHeartbeats 8000000 in
set_option maxRecDepth 100000 in
theorem spec_CablesValid.calls (k : Nat) (a0 : Int) (A1 : Option Addr) (c1 : Nat) (l1 : List (S51)) (r : Bool) (w : World) (hr1 : Kd.C k51 w A1 l1.length l1) (hc1 : l1.length ≤ c1) (h : spec_CablesValid.f k a0 l1 = some r) :
  Calls Try.prog 42 #[.int .i64 a0,.slice A1 l1.length c1] w fun e w' => e = .returned (.bool r) ∧ Below w.heap.size w w':=by
 have hu51:=Try.underlying51
 have HR1:=mk_ hr1
 have HC1:=mk_ hc1
 clear hr1 hc1
 have HB:=mk_ (Below.refl w.heap.size w)
 have H : ((spec_l1In.f a0 1 8).bind fun t335 => (if t335 = true then (spec_CablesValid.j0 k a0 l1 (decide ((l1.length : Int) > 20))) else (spec_CablesValid.j0 k a0 l1 true))) = some r:=h
 clear h
 have HC3:=mk_ H
 clear H
 go_enter Try.func42,Try.ntmps42
 go_upto_region 1 with (fail)
 go_cut [14] (fun v14 wc => ∃ (kq : Nat) (x14_2 : Bool),v14 = .bool x14_2 ∧ Aside0 (spec_CablesValid.j0 kq a0 l1 x14_2 = some r) ∧ Aside0 (kq ≤ k) ∧ Aside0 (Below w.heap.size w wc))
 case first =>
  have H:=HC3.out
  clear HC3
  replace H:=Option.bind_eq_some_iff.mp H
  obtain ⟨t335,A40,H⟩:=H
  replace H : (if t335 = true then (spec_CablesValid.j0 k a0 l1 (decide ((l1.length : Int) > 20))) else (spec_CablesValid.j0 k a0 l1 true)) = some r:=H
  have A4:=mk_ A40
  clear A40
  by_cases c5 : t335 = true
  ·subst c5
   have H1 : (spec_CablesValid.j0 k a0 l1 (decide ((l1.length : Int) > 20))) = some r:=by rw [if_pos rfl] at H;exact H
   clear H
   have H:=H1
   clear H1
   have H':=mk_ H
   clear H
   go_wp2_with (first|((with_reducible refine gate_callee (f:=40) rfl ?_);refine goesL_ (some 8) rfl rfl Try.func40 (by kernel_rfl) rfl #[.int .i64 a0,.int .i64 1,.int .i64 8] rfl (by (try simp only [List.map_toArray,List.map_cons,List.map_nil]);first|done|rfl|(simp only [List.length_drop,List.length_take];rfl)) ?_;(with_reducible refine (spec_l1In.calls a0 1 8 true _ A4.out).mono ?_);rintro e w' ⟨rfl,⟨nd,rfl⟩⟩;refine ⟨_,rfl,?_⟩))
   go_meet
   case rel => exact ⟨_,(decide ((l1.length : Int) > 20)),(by first|rfl|(simp;done)|(simp [*];done)),H',⟨by first|omega|exact Nat.le_refl _⟩,⟨by repeat (first|(with_reducible first|exact HB.out|apply ba_|apply bn_|apply bd_)|exact HB.out)⟩⟩
  ·replace c5:=Bool.eq_false_iff.mpr c5
   subst c5
   have H1 : (spec_CablesValid.j0 k a0 l1 true) = some r:=by rw [if_neg (show ¬ (false = true) by decide)] at H;exact H
   clear H
   have H:=H1
   clear H1
   have H':=mk_ H
   clear H
   go_wp2_with (first|((with_reducible refine gate_callee (f:=40) rfl ?_);refine goesL_ (some 8) rfl rfl Try.func40 (by kernel_rfl) rfl #[.int .i64 a0,.int .i64 1,.int .i64 8] rfl (by (try simp only [List.map_toArray,List.map_cons,List.map_nil]);first|done|rfl|(simp only [List.length_drop,List.length_take];rfl)) ?_;(with_reducible refine (spec_l1In.calls a0 1 8 false _ A4.out).mono ?_);rintro e w' ⟨rfl,⟨nd,rfl⟩⟩;refine ⟨_,rfl,?_⟩))
   go_meet
   case rel => exact ⟨_,(true),(by first|rfl|(simp;done)|(simp [*];done)),H',⟨by first|omega|exact Nat.le_refl _⟩,⟨by repeat (first|(with_reducible first|exact HB.out|apply ba_|apply bn_|apply bd_)|exact HB.out)⟩⟩
 case rest =>
  clear HC3
  try clear c1
  try clear p2
  try clear c4
  try clear c5
  obtain ⟨kq,x14_2,rfl,HA,HJ2,HB⟩:=hcut
  cases kq with
  | zero => exact absurd HA.out (by simp [spec_CablesValid.j0])
  | succ kj2 =>
   have H:=HA.out
   clear HA
   simp only [spec_CablesValid.j0] at H
   by_cases c6 : x14_2 = true
   ·subst c6
    have H1 : (some false) = some r:=by rw [if_pos rfl] at H;exact H
    clear H
    have H:=H1
    clear H1
    obtain rfl:=Option.some.inj H
    go_wp2
    go_ret
    exact ⟨by first|rfl|(simp [errW_none,errW_some] <;> rfl)|(simp [*,errW_none,errW_some] <;> rfl),by repeat (first|(with_reducible first|exact HB.out|apply ba_|apply bn_|apply bd_)|exact HB.out)⟩
   ·replace c6:=Bool.eq_false_iff.mpr c6
    subst c6
    have H1 : (spec_CablesValid.l0 kj2 a0 l1 0) = some r:=by rw [if_neg (show ¬ (false = true) by decide)] at H;exact H
    clear H
    have H:=H1
    clear H1
    have H':=mk_ H
    clear H
    go_wp2
    go_loopg [5] kj2 (fun kq v5 w' => ∃ (x5_2 : Int),v5 = .int .i64 x5_2 ∧ Aside0 (spec_CablesValid.l0 kq a0 l1 x5_2 = some r) ∧ Aside0 (kq ≤ kj2) ∧ Aside0 (Below w.heap.size w w'))
    case atStart => exact ⟨(0),(by first|rfl|(simp;done)|(simp [*];done)),H',⟨Nat.le_refl _⟩,⟨by repeat (first|(with_reducible first|exact HB.out|apply ba_|apply bn_|apply bd_)|exact HB.out)⟩⟩
    case round =>
     clear H'
     try clear c1
     try clear p2
     try clear c4
     try clear c5
     try clear c6
     try clear p2
     obtain ⟨x5_2,rfl,HA,HK2,HB⟩:=hrel
     cases gk with
     | zero => exact absurd HA.out (by simp [spec_CablesValid.l0])
     | succ k2 =>
      have H:=HA.out
      clear HA
      simp only [spec_CablesValid.l0] at H
      by_cases c7 : x5_2 < (l1.length : Int)
      ·rw [if_pos c7] at H
       have c7b0 : decide (x5_2 < (l1.length : Int)) = true:=decide_eq_true c7
       clear c7
       by_cases c8 : 0 ≤ x5_2
       ·rw [if_pos c8] at H
        have c8b0 : decide (0 ≤ x5_2) = true:=decide_eq_true c8
        clear c8
        replace H:=Option.bind_eq_some_iff.mp H
        obtain ⟨t338,A90,H⟩:=H
        replace H : (if t338 = true then ((spec_l1In.f ((rd_T51 l1 x5_2).f1) 0 (wrap64 (a0 - 1))).bind fun t339 => (if t339 = true then (if ((rd_T51 l1 x5_2).f0) = ((rd_T51 l1 x5_2).f1) then (some false) else ((spec_l1In.f ((rd_T51 l1 x5_2).f2) 1 99).bind fun t340 => (if t340 = true then (spec_CablesValid.l0 k2 a0 l1 (wrap64 (x5_2 + 1))) else (some false)))) else (some false))) else (some false)) = some r:=H
        have A9:=mk_ A90
        clear A90
        by_cases c10 : t338 = true
        ·subst c10
         have H1 : ((spec_l1In.f ((rd_T51 l1 x5_2).f1) 0 (wrap64 (a0 - 1))).bind fun t339 => (if t339 = true then (if ((rd_T51 l1 x5_2).f0) = ((rd_T51 l1 x5_2).f1) then (some false) else ((spec_l1In.f ((rd_T51 l1 x5_2).f2) 1 99).bind fun t340 => (if t340 = true then (spec_CablesValid.l0 k2 a0 l1 (wrap64 (x5_2 + 1))) else (some false)))) else (some false))) = some r:=by rw [if_pos rfl] at H;exact H
         clear H
         have H:=H1
         clear H1
         replace H:=Option.bind_eq_some_iff.mp H
         obtain ⟨t339,A110,H⟩:=H
         replace H : (if t339 = true then (if ((rd_T51 l1 x5_2).f0) = ((rd_T51 l1 x5_2).f1) then (some false) else ((spec_l1In.f ((rd_T51 l1 x5_2).f2) 1 99).bind fun t340 => (if t340 = true then (spec_CablesValid.l0 k2 a0 l1 (wrap64 (x5_2 + 1))) else (some false)))) else (some false)) = some r:=H
         have A11:=mk_ A110
         clear A110
         by_cases c12 : t339 = true
         ·subst c12
          have H1 : (if ((rd_T51 l1 x5_2).f0) = ((rd_T51 l1 x5_2).f1) then (some false) else ((spec_l1In.f ((rd_T51 l1 x5_2).f2) 1 99).bind fun t340 => (if t340 = true then (spec_CablesValid.l0 k2 a0 l1 (wrap64 (x5_2 + 1))) else (some false)))) = some r:=by rw [if_pos rfl] at H;exact H
          clear H
          have H:=H1
          clear H1
          by_cases c13 : ((rd_T51 l1 x5_2).f0) = ((rd_T51 l1 x5_2).f1)
          ·rw [if_pos c13] at H
           have c13b0 : (((rd_T51 l1 x5_2).f0) == ((rd_T51 l1 x5_2).f1)) = true:=beq_iff_eq.mpr c13
           have c13b1 : (((rd_T51 l1 x5_2).f0) != ((rd_T51 l1 x5_2).f1)) = false:=bne_eq_false_iff_eq.mpr c13
           clear c13
           obtain rfl:=Option.some.inj H
           have p336 : 0 ≤ (x5_2 : Int):=od_ (by first|(with_reducible assumption)|assumption)
           have q336 : x5_2 < (l1.length : Int):=od_ (by first|(with_reducible assumption)|assumption)
           obtain ⟨ad336,e336,hx336_0,hx336_1,hx336_2⟩:=at_T51 HR1.out x5_2 p336 q336
           cases e336
           replace hx336_0:=(HB.out.cell (wl_ w _ hx336_0)).trans hx336_0
           replace hx336_1:=(HB.out.cell (wl_ w _ hx336_1)).trans hx336_1
           replace hx336_2:=(HB.out.cell (wl_ w _ hx336_2)).trans hx336_2
           replace p336:=eq_true p336
           replace q336:=eq_true q336
           go_wp2_with (first|((with_reducible refine gate_dst (N:=6) rfl ?_);(try (refine gate_guard (by rfl) ?_;dsimp only));refine box_event ?hg (N:=6) ?hd (cs:=#[.int .i64 0,.int .i64 0,.int .i64 0]) (t:=51) ?hr ?_;(case hd => rfl);(case hg => rfl);(case hr => first|(go_simp;done)|(go_simp;rfl));intro gb337 hg w14 hbox hb;have n0_:=mk_ (st_ (by repeat (first|(with_reducible first|exact HB.out|apply ba_|apply bn_|apply bd_)|exact HB.out)) hb);have n1_:=mk_ (hbox);have n2_:=mk_ ((by rw [hg];exact (bz_ (by repeat (first|(with_reducible first|exact HB.out|apply ba_|apply bn_|apply bd_)|exact HB.out))) : w.heap.size ≤ gb337));have n3_:=mk_ ((by rw [hg];exact (bz_ (by repeat (first|(with_reducible first|exact HB.out|apply ba_|apply bn_|apply bd_)|exact HB.out))) : w.heap.size ≤ gb337));clear HB;have HB:=n0_;have BK337:=n1_;have GW337:=n2_;have GE337:=n3_;clear n0_ n1_ n2_ n3_;clear hb hbox hg;have hcz15_0 : w14.cell? ⟨gb337,0,none⟩ = some (.int .i64 0):=(bc_ BK337.out 0).trans rfl;have hcz15_1 : w14.cell? ⟨gb337,1,none⟩ = some (.int .i64 0):=(bc_ BK337.out 1).trans rfl;have hcz15_2 : w14.cell? ⟨gb337,2,none⟩ = some (.int .i64 0):=(bc_ BK337.out 2).trans rfl;have hfz15_0:=bf_ BK337.out 0;have hfz15_1:=bf_ BK337.out 1;have hfz15_2:=bf_ BK337.out 2)|((with_reducible refine gate_callee (f:=40) rfl ?_);refine goesL_ (some 29) rfl rfl Try.func40 (by kernel_rfl) rfl #[.int .i64 ((rd_T51 l1 x5_2).f0),.int .i64 0,.int .i64 (wrap64 (a0 - 1))] rfl (by (try simp only [List.map_toArray,List.map_cons,List.map_nil]);first|done|rfl|(simp only [List.length_drop,List.length_take];rfl)) ?_;(with_reducible refine (spec_l1In.calls ((rd_T51 l1 x5_2).f0) 0 (wrap64 (a0 - 1)) true _ A9.out).mono ?_);rintro e w' ⟨rfl,⟨nd,rfl⟩⟩;refine ⟨_,rfl,?_⟩)|(go_at_call 40;(with_reducible refine (spec_l1In.calls ((rd_T51 l1 x5_2).f1) 0 (wrap64 (a0 - 1)) true _ A11.out).mono ?_);rintro e w' ⟨rfl,⟨nd,rfl⟩⟩))
           go_ret
           exact ⟨by first|rfl|(simp [errW_none,errW_some] <;> rfl)|(simp [*,errW_none,errW_some] <;> rfl),by repeat (first|(with_reducible first|exact HB.out|apply ba_|apply bn_|apply bd_|refine bs_ ?_ GE337.out)|exact HB.out)⟩
          ·rw [if_neg c13] at H
           have c13b0 : (((rd_T51 l1 x5_2).f0) == ((rd_T51 l1 x5_2).f1)) = false:=beq_eq_false_iff_ne.mpr c13
           have c13b1 : (((rd_T51 l1 x5_2).f0) != ((rd_T51 l1 x5_2).f1)) = true:=bne_iff_ne.mpr c13
           replace H:=Option.bind_eq_some_iff.mp H
           obtain ⟨t340,A160,H⟩:=H
           replace H : (if t340 = true then (spec_CablesValid.l0 k2 a0 l1 (wrap64 (x5_2 + 1))) else (some false)) = some r:=H
           have A16:=mk_ A160
           clear A160
           by_cases c17 : t340 = true
           ·subst c17
            have H1 : (spec_CablesValid.l0 k2 a0 l1 (wrap64 (x5_2 + 1))) = some r:=by rw [if_pos rfl] at H;exact H
            clear H
            have H:=H1
            clear H1
            have H':=mk_ H
            clear H
            have p336 : 0 ≤ (x5_2 : Int):=od_ (by first|(with_reducible assumption)|assumption)
            have q336 : x5_2 < (l1.length : Int):=od_ (by first|(with_reducible assumption)|assumption)
            obtain ⟨ad336,e336,hx336_0,hx336_1,hx336_2⟩:=at_T51 HR1.out x5_2 p336 q336
            cases e336
            replace hx336_0:=(HB.out.cell (wl_ w _ hx336_0)).trans hx336_0
            replace hx336_1:=(HB.out.cell (wl_ w _ hx336_1)).trans hx336_1
            replace hx336_2:=(HB.out.cell (wl_ w _ hx336_2)).trans hx336_2
            replace p336:=eq_true p336
            replace q336:=eq_true q336
            go_wp2_with (first|((with_reducible refine gate_dst (N:=6) rfl ?_);(try (refine gate_guard (by rfl) ?_;dsimp only));refine box_event ?hg (N:=6) ?hd (cs:=#[.int .i64 0,.int .i64 0,.int .i64 0]) (t:=51) ?hr ?_;(case hd => rfl);(case hg => rfl);(case hr => first|(go_simp;done)|(go_simp;rfl));intro gb337 hg w18 hbox hb;have n0_:=mk_ (st_ (by repeat (first|(with_reducible first|exact HB.out|apply ba_|apply bn_|apply bd_)|exact HB.out)) hb);have n1_:=mk_ (hbox);have n2_:=mk_ ((by rw [hg];exact (bz_ (by repeat (first|(with_reducible first|exact HB.out|apply ba_|apply bn_|apply bd_)|exact HB.out))) : w.heap.size ≤ gb337));have n3_:=mk_ ((by rw [hg];exact (bz_ (by repeat (first|(with_reducible first|exact HB.out|apply ba_|apply bn_|apply bd_)|exact HB.out))) : w.heap.size ≤ gb337));clear HB;have HB:=n0_;have BK337:=n1_;have GW337:=n2_;have GE337:=n3_;clear n0_ n1_ n2_ n3_;clear hb hbox hg;have hcz19_0 : w18.cell? ⟨gb337,0,none⟩ = some (.int .i64 0):=(bc_ BK337.out 0).trans rfl;have hcz19_1 : w18.cell? ⟨gb337,1,none⟩ = some (.int .i64 0):=(bc_ BK337.out 1).trans rfl;have hcz19_2 : w18.cell? ⟨gb337,2,none⟩ = some (.int .i64 0):=(bc_ BK337.out 2).trans rfl;have hfz19_0:=bf_ BK337.out 0;have hfz19_1:=bf_ BK337.out 1;have hfz19_2:=bf_ BK337.out 2)|((with_reducible refine gate_callee (f:=40) rfl ?_);refine goesL_ (some 29) rfl rfl Try.func40 (by kernel_rfl) rfl #[.int .i64 ((rd_T51 l1 x5_2).f0),.int .i64 0,.int .i64 (wrap64 (a0 - 1))] rfl (by (try simp only [List.map_toArray,List.map_cons,List.map_nil]);first|done|rfl|(simp only [List.length_drop,List.length_take];rfl)) ?_;(with_reducible refine (spec_l1In.calls ((rd_T51 l1 x5_2).f0) 0 (wrap64 (a0 - 1)) true _ A9.out).mono ?_);rintro e w' ⟨rfl,⟨nd,rfl⟩⟩;refine ⟨_,rfl,?_⟩)|(go_at_call 40;(with_reducible refine (spec_l1In.calls ((rd_T51 l1 x5_2).f1) 0 (wrap64 (a0 - 1)) true _ A11.out).mono ?_);rintro e w' ⟨rfl,⟨nd,rfl⟩⟩)|(go_at_call 40;(with_reducible refine (spec_l1In.calls ((rd_T51 l1 x5_2).f2) 1 99 true _ A16.out).mono ?_);rintro e w' ⟨rfl,⟨nd,rfl⟩⟩))
            go_roundg k2
            case measure => have:=HJ2.out;have:=HK2.out;omega
            case rel => exact ⟨(wrap64 (x5_2 + 1)),(by first|rfl|(simp;done)|(simp [*];done)),H',⟨by have:=HJ2.out;have:=HK2.out;omega⟩,⟨by repeat (first|(with_reducible first|exact HB.out|apply ba_|apply bn_|apply bd_|refine bs_ ?_ GE337.out)|exact HB.out)⟩⟩
           ·replace c17:=Bool.eq_false_iff.mpr c17
            subst c17
            have H1 : (some false) = some r:=by rw [if_neg (show ¬ (false = true) by decide)] at H;exact H
            clear H
            have H:=H1
            clear H1
            obtain rfl:=Option.some.inj H
            have p336 : 0 ≤ (x5_2 : Int):=od_ (by first|(with_reducible assumption)|assumption)
            have q336 : x5_2 < (l1.length : Int):=od_ (by first|(with_reducible assumption)|assumption)
            obtain ⟨ad336,e336,hx336_0,hx336_1,hx336_2⟩:=at_T51 HR1.out x5_2 p336 q336
            cases e336
            replace hx336_0:=(HB.out.cell (wl_ w _ hx336_0)).trans hx336_0
            replace hx336_1:=(HB.out.cell (wl_ w _ hx336_1)).trans hx336_1
            replace hx336_2:=(HB.out.cell (wl_ w _ hx336_2)).trans hx336_2
            replace p336:=eq_true p336
            replace q336:=eq_true q336
            go_wp2_with (first|((with_reducible refine gate_dst (N:=6) rfl ?_);(try (refine gate_guard (by rfl) ?_;dsimp only));refine box_event ?hg (N:=6) ?hd (cs:=#[.int .i64 0,.int .i64 0,.int .i64 0]) (t:=51) ?hr ?_;(case hd => rfl);(case hg => rfl);(case hr => first|(go_simp;done)|(go_simp;rfl));intro gb337 hg w20 hbox hb;have n0_:=mk_ (st_ (by repeat (first|(with_reducible first|exact HB.out|apply ba_|apply bn_|apply bd_)|exact HB.out)) hb);have n1_:=mk_ (hbox);have n2_:=mk_ ((by rw [hg];exact (bz_ (by repeat (first|(with_reducible first|exact HB.out|apply ba_|apply bn_|apply bd_)|exact HB.out))) : w.heap.size ≤ gb337));have n3_:=mk_ ((by rw [hg];exact (bz_ (by repeat (first|(with_reducible first|exact HB.out|apply ba_|apply bn_|apply bd_)|exact HB.out))) : w.heap.size ≤ gb337));clear HB;have HB:=n0_;have BK337:=n1_;have GW337:=n2_;have GE337:=n3_;clear n0_ n1_ n2_ n3_;clear hb hbox hg;have hcz21_0 : w20.cell? ⟨gb337,0,none⟩ = some (.int .i64 0):=(bc_ BK337.out 0).trans rfl;have hcz21_1 : w20.cell? ⟨gb337,1,none⟩ = some (.int .i64 0):=(bc_ BK337.out 1).trans rfl;have hcz21_2 : w20.cell? ⟨gb337,2,none⟩ = some (.int .i64 0):=(bc_ BK337.out 2).trans rfl;have hfz21_0:=bf_ BK337.out 0;have hfz21_1:=bf_ BK337.out 1;have hfz21_2:=bf_ BK337.out 2)|((with_reducible refine gate_callee (f:=40) rfl ?_);refine goesL_ (some 29) rfl rfl Try.func40 (by kernel_rfl) rfl #[.int .i64 ((rd_T51 l1 x5_2).f0),.int .i64 0,.int .i64 (wrap64 (a0 - 1))] rfl (by (try simp only [List.map_toArray,List.map_cons,List.map_nil]);first|done|rfl|(simp only [List.length_drop,List.length_take];rfl)) ?_;(with_reducible refine (spec_l1In.calls ((rd_T51 l1 x5_2).f0) 0 (wrap64 (a0 - 1)) true _ A9.out).mono ?_);rintro e w' ⟨rfl,⟨nd,rfl⟩⟩;refine ⟨_,rfl,?_⟩)|(go_at_call 40;(with_reducible refine (spec_l1In.calls ((rd_T51 l1 x5_2).f1) 0 (wrap64 (a0 - 1)) true _ A11.out).mono ?_);rintro e w' ⟨rfl,⟨nd,rfl⟩⟩)|(go_at_call 40;(with_reducible refine (spec_l1In.calls ((rd_T51 l1 x5_2).f2) 1 99 false _ A16.out).mono ?_);rintro e w' ⟨rfl,⟨nd,rfl⟩⟩))
            go_ret
            exact ⟨by first|rfl|(simp [errW_none,errW_some] <;> rfl)|(simp [*,errW_none,errW_some] <;> rfl),by repeat (first|(with_reducible first|exact HB.out|apply ba_|apply bn_|apply bd_|refine bs_ ?_ GE337.out)|exact HB.out)⟩
         ·replace c12:=Bool.eq_false_iff.mpr c12
          subst c12
          have H1 : (some false) = some r:=by rw [if_neg (show ¬ (false = true) by decide)] at H;exact H
          clear H
          have H:=H1
          clear H1
          obtain rfl:=Option.some.inj H
          have p336 : 0 ≤ (x5_2 : Int):=od_ (by first|(with_reducible assumption)|assumption)
          have q336 : x5_2 < (l1.length : Int):=od_ (by first|(with_reducible assumption)|assumption)
          obtain ⟨ad336,e336,hx336_0,hx336_1,hx336_2⟩:=at_T51 HR1.out x5_2 p336 q336
          cases e336
          replace hx336_0:=(HB.out.cell (wl_ w _ hx336_0)).trans hx336_0
          replace hx336_1:=(HB.out.cell (wl_ w _ hx336_1)).trans hx336_1
          replace hx336_2:=(HB.out.cell (wl_ w _ hx336_2)).trans hx336_2
          replace p336:=eq_true p336
          replace q336:=eq_true q336
          go_wp2_with (first|((with_reducible refine gate_dst (N:=6) rfl ?_);(try (refine gate_guard (by rfl) ?_;dsimp only));refine box_event ?hg (N:=6) ?hd (cs:=#[.int .i64 0,.int .i64 0,.int .i64 0]) (t:=51) ?hr ?_;(case hd => rfl);(case hg => rfl);(case hr => first|(go_simp;done)|(go_simp;rfl));intro gb337 hg w22 hbox hb;have n0_:=mk_ (st_ (by repeat (first|(with_reducible first|exact HB.out|apply ba_|apply bn_|apply bd_)|exact HB.out)) hb);have n1_:=mk_ (hbox);have n2_:=mk_ ((by rw [hg];exact (bz_ (by repeat (first|(with_reducible first|exact HB.out|apply ba_|apply bn_|apply bd_)|exact HB.out))) : w.heap.size ≤ gb337));have n3_:=mk_ ((by rw [hg];exact (bz_ (by repeat (first|(with_reducible first|exact HB.out|apply ba_|apply bn_|apply bd_)|exact HB.out))) : w.heap.size ≤ gb337));clear HB;have HB:=n0_;have BK337:=n1_;have GW337:=n2_;have GE337:=n3_;clear n0_ n1_ n2_ n3_;clear hb hbox hg;have hcz23_0 : w22.cell? ⟨gb337,0,none⟩ = some (.int .i64 0):=(bc_ BK337.out 0).trans rfl;have hcz23_1 : w22.cell? ⟨gb337,1,none⟩ = some (.int .i64 0):=(bc_ BK337.out 1).trans rfl;have hcz23_2 : w22.cell? ⟨gb337,2,none⟩ = some (.int .i64 0):=(bc_ BK337.out 2).trans rfl;have hfz23_0:=bf_ BK337.out 0;have hfz23_1:=bf_ BK337.out 1;have hfz23_2:=bf_ BK337.out 2)|((with_reducible refine gate_callee (f:=40) rfl ?_);refine goesL_ (some 29) rfl rfl Try.func40 (by kernel_rfl) rfl #[.int .i64 ((rd_T51 l1 x5_2).f0),.int .i64 0,.int .i64 (wrap64 (a0 - 1))] rfl (by (try simp only [List.map_toArray,List.map_cons,List.map_nil]);first|done|rfl|(simp only [List.length_drop,List.length_take];rfl)) ?_;(with_reducible refine (spec_l1In.calls ((rd_T51 l1 x5_2).f0) 0 (wrap64 (a0 - 1)) true _ A9.out).mono ?_);rintro e w' ⟨rfl,⟨nd,rfl⟩⟩;refine ⟨_,rfl,?_⟩)|(go_at_call 40;(with_reducible refine (spec_l1In.calls ((rd_T51 l1 x5_2).f1) 0 (wrap64 (a0 - 1)) false _ A11.out).mono ?_);rintro e w' ⟨rfl,⟨nd,rfl⟩⟩))
          go_ret
          exact ⟨by first|rfl|(simp [errW_none,errW_some] <;> rfl)|(simp [*,errW_none,errW_some] <;> rfl),by repeat (first|(with_reducible first|exact HB.out|apply ba_|apply bn_|apply bd_|refine bs_ ?_ GE337.out)|exact HB.out)⟩
        ·replace c10:=Bool.eq_false_iff.mpr c10
         subst c10
         have H1 : (some false) = some r:=by rw [if_neg (show ¬ (false = true) by decide)] at H;exact H
         clear H
         have H:=H1
         clear H1
         obtain rfl:=Option.some.inj H
         have p336 : 0 ≤ (x5_2 : Int):=od_ (by first|(with_reducible assumption)|assumption)
         have q336 : x5_2 < (l1.length : Int):=od_ (by first|(with_reducible assumption)|assumption)
         obtain ⟨ad336,e336,hx336_0,hx336_1,hx336_2⟩:=at_T51 HR1.out x5_2 p336 q336
         cases e336
         replace hx336_0:=(HB.out.cell (wl_ w _ hx336_0)).trans hx336_0
         replace hx336_1:=(HB.out.cell (wl_ w _ hx336_1)).trans hx336_1
         replace hx336_2:=(HB.out.cell (wl_ w _ hx336_2)).trans hx336_2
         replace p336:=eq_true p336
         replace q336:=eq_true q336
         go_wp2_with (first|((with_reducible refine gate_dst (N:=6) rfl ?_);(try (refine gate_guard (by rfl) ?_;dsimp only));refine box_event ?hg (N:=6) ?hd (cs:=#[.int .i64 0,.int .i64 0,.int .i64 0]) (t:=51) ?hr ?_;(case hd => rfl);(case hg => rfl);(case hr => first|(go_simp;done)|(go_simp;rfl));intro gb337 hg w24 hbox hb;have n0_:=mk_ (st_ (by repeat (first|(with_reducible first|exact HB.out|apply ba_|apply bn_|apply bd_)|exact HB.out)) hb);have n1_:=mk_ (hbox);have n2_:=mk_ ((by rw [hg];exact (bz_ (by repeat (first|(with_reducible first|exact HB.out|apply ba_|apply bn_|apply bd_)|exact HB.out))) : w.heap.size ≤ gb337));have n3_:=mk_ ((by rw [hg];exact (bz_ (by repeat (first|(with_reducible first|exact HB.out|apply ba_|apply bn_|apply bd_)|exact HB.out))) : w.heap.size ≤ gb337));clear HB;have HB:=n0_;have BK337:=n1_;have GW337:=n2_;have GE337:=n3_;clear n0_ n1_ n2_ n3_;clear hb hbox hg;have hcz25_0 : w24.cell? ⟨gb337,0,none⟩ = some (.int .i64 0):=(bc_ BK337.out 0).trans rfl;have hcz25_1 : w24.cell? ⟨gb337,1,none⟩ = some (.int .i64 0):=(bc_ BK337.out 1).trans rfl;have hcz25_2 : w24.cell? ⟨gb337,2,none⟩ = some (.int .i64 0):=(bc_ BK337.out 2).trans rfl;have hfz25_0:=bf_ BK337.out 0;have hfz25_1:=bf_ BK337.out 1;have hfz25_2:=bf_ BK337.out 2)|((with_reducible refine gate_callee (f:=40) rfl ?_);refine goesL_ (some 29) rfl rfl Try.func40 (by kernel_rfl) rfl #[.int .i64 ((rd_T51 l1 x5_2).f0),.int .i64 0,.int .i64 (wrap64 (a0 - 1))] rfl (by (try simp only [List.map_toArray,List.map_cons,List.map_nil]);first|done|rfl|(simp only [List.length_drop,List.length_take];rfl)) ?_;(with_reducible refine (spec_l1In.calls ((rd_T51 l1 x5_2).f0) 0 (wrap64 (a0 - 1)) false _ A9.out).mono ?_);rintro e w' ⟨rfl,⟨nd,rfl⟩⟩;refine ⟨_,rfl,?_⟩))
         go_ret
         exact ⟨by first|rfl|(simp [errW_none,errW_some] <;> rfl)|(simp [*,errW_none,errW_some] <;> rfl),by repeat (first|(with_reducible first|exact HB.out|apply ba_|apply bn_|apply bd_|refine bs_ ?_ GE337.out)|exact HB.out)⟩
       ·rw [if_neg c8] at H
        exact absurd H (by simp)
      ·rw [if_neg c7] at H
       have c7b0 : decide (x5_2 < (l1.length : Int)) = false:=decide_eq_false c7
       clear c7
       obtain rfl:=Option.some.inj H
       go_wp2
       go_ret
       exact ⟨by first|rfl|(simp [errW_none,errW_some] <;> rfl)|(simp [*,errW_none,errW_some] <;> rfl),by repeat (first|(with_reducible first|exact HB.out|apply ba_|apply bn_|apply bd_)|exact HB.out)⟩

/-! ### spec_NetValid: function 13 -/
mutual
def spec_NetValid.l0 : Nat → Int → Int → List (S51) → List Int → List Int → Option (Bool)
 | 0,_,_,_,_,_ => none
 | k + 1,x3,x342000,x342001,x342002,x342003 => if x3 < (x342002.length : Int) then (if 0 ≤ x3 then ((spec_l1In.f (rd x342002 x3) 0 (wrap64 (x342000 - 1))).bind fun t343 => (if t343 = true then (spec_NetValid.l0 k (wrap64 (x3 + 1)) x342000 x342001 x342002 x342003) else (some false))) else (none)) else (spec_NetValid.l1 k 0 x342000 x342001 x342002 x342003)
def spec_NetValid.l1 : Nat → Int → Int → List (S51) → List Int → List Int → Option (Bool)
 | 0,_,_,_,_,_ => none
 | k + 1,x4,x342000,x342001,x342002,x342003 => if x4 < (x342003.length : Int) then (if 0 ≤ x4 then ((spec_l10Vlan.f (rd x342003 x4)).bind fun t345 => (if t345 = true then (spec_NetValid.l1 k (wrap64 (x4 + 1)) x342000 x342001 x342002 x342003) else (some false))) else (none)) else ((spec_CablesValid.f k x342000 x342001).bind fun t346 => (if t346 = true then (if (x342002.length : Int) = (x342003.length : Int) then (some (decide ((x342002.length : Int) ≤ 15))) else (some false)) else (some false)))
end
def spec_NetValid.f (k : Nat) (a0_0 : Int) (l0_1 : List (S51)) (l0_2 : List Int) (l0_3 : List Int) : Option (Bool):=spec_NetValid.l0 k 0 a0_0 l0_1 l0_2 l0_3
theorem spec_NetValid.mono_l : ∀ k,(∀ y0 y1 y2 y3 y4,LeO (spec_NetValid.l0 k y0 y1 y2 y3 y4) (spec_NetValid.l0 (k + 1) y0 y1 y2 y3 y4)) ∧ (∀ y0 y1 y2 y3 y4,LeO (spec_NetValid.l1 k y0 y1 y2 y3 y4) (spec_NetValid.l1 (k + 1) y0 y1 y2 y3 y4))
 | 0 => ⟨fun _ _ _ _ _ r h => by simp [spec_NetValid.l0] at h,fun _ _ _ _ _ r h => by simp [spec_NetValid.l1] at h⟩
 | k + 1 => by
  obtain ⟨ih0,ih1⟩:=spec_NetValid.mono_l k
  refine ⟨?_,?_⟩
  ·intro y0 y1 y2 y3 y4
   unfold spec_NetValid.l0
   repeat' first
   | (with_reducible exact ih0 _ _ _ _ _)
   | (with_reducible exact ih1 _ _ _ _ _)
   | (with_reducible exact spec_CablesValid.mono _ _ _)
   | (with_reducible exact LeO.refl _)
   | (with_reducible exact LeO.none _)
   | (with_reducible refine LeO.ite ?_ ?_)
   | (with_reducible refine LeO.bind ?_ (fun _ => ?_))
   | exact ih0 _ _ _ _ _
   | exact ih1 _ _ _ _ _
   | exact spec_CablesValid.mono _ _ _
   | exact LeO.none _
   | refine LeO.ite ?_ ?_
   | refine LeO.bind ?_ (fun _ => ?_)
  ·intro y0 y1 y2 y3 y4
   unfold spec_NetValid.l1
   repeat' first
   | (with_reducible exact ih0 _ _ _ _ _)
   | (with_reducible exact ih1 _ _ _ _ _)
   | (with_reducible exact spec_CablesValid.mono _ _ _)
   | (with_reducible exact LeO.refl _)
   | (with_reducible exact LeO.none _)
   | (with_reducible refine LeO.ite ?_ ?_)
   | (with_reducible refine LeO.bind ?_ (fun _ => ?_))
   | exact ih0 _ _ _ _ _
   | exact ih1 _ _ _ _ _
   | exact spec_CablesValid.mono _ _ _
   | exact LeO.none _
   | refine LeO.ite ?_ ?_
   | refine LeO.bind ?_ (fun _ => ?_)
theorem spec_NetValid.mono : ∀ a0 a1 a2 a3 k,LeO (spec_NetValid.f k a0 a1 a2 a3) (spec_NetValid.f (k + 1) a0 a1 a2 a3):=by
 intro a0 a1 a2 a3 k
 obtain ⟨ih0,ih1⟩:=spec_NetValid.mono_l k
 unfold spec_NetValid.f
 repeat' first
   | (with_reducible exact ih0 _ _ _ _ _)
   | (with_reducible exact ih1 _ _ _ _ _)
   | (with_reducible exact spec_CablesValid.mono _ _ _)
   | (with_reducible exact LeO.refl _)
   | (with_reducible exact LeO.none _)
   | (with_reducible refine LeO.ite ?_ ?_)
   | (with_reducible refine LeO.bind ?_ (fun _ => ?_))
   | exact ih0 _ _ _ _ _
   | exact ih1 _ _ _ _ _
   | exact spec_CablesValid.mono _ _ _
   | exact LeO.none _
   | refine LeO.ite ?_ ?_
   | refine LeO.bind ?_ (fun _ => ?_)
set_option maxHeartbeats 8000000 in
set_option maxRecDepth 100000 in
theorem spec_NetValid.calls (k : Nat) (a0_0 : Int) (A0_1 : Option Addr) (c0_1 : Nat) (l0_1 : List (S51)) (A0_2 : Option Addr) (c0_2 : Nat) (l0_2 : List Int) (A0_3 : Option Addr) (c0_3 : Nat) (l0_3 : List Int) (r : Bool) (w : World) (hr0_1 : Kd.C k51 w A0_1 l0_1.length l0_1) (hc0_1 : l0_1.length ≤ c0_1) (hr0_2 : Kd.C (Kd.int .i64) w A0_2 l0_2.length l0_2) (hc0_2 : l0_2.length ≤ c0_2) (hr0_3 : Kd.C (Kd.int .i64) w A0_3 l0_3.length l0_3) (hc0_3 : l0_3.length ≤ c0_3) (h : spec_NetValid.f k a0_0 l0_1 l0_2 l0_3 = some r) :
  Calls Try.prog 13 #[.agg #[.int .i64 a0_0,.slice A0_1 l0_1.length c0_1,.slice A0_2 l0_2.length c0_2,.slice A0_3 l0_3.length c0_3]] w fun e w' => e = .returned (.bool r) ∧ Below w.heap.size w w':=by
 have hu30:=Try.underlying30
 have HR0_1:=mk_ hr0_1
 have HC0_1:=mk_ hc0_1
 clear hr0_1 hc0_1
 have HR0_2:=mk_ hr0_2
 have HC0_2:=mk_ hc0_2
 clear hr0_2 hc0_2
 have HR0_3:=mk_ hr0_3
 have HC0_3:=mk_ hc0_3
 clear hr0_3 hc0_3
 have HB:=mk_ (Below.refl w.heap.size w)
 have H : (spec_NetValid.l0 k 0 a0_0 l0_1 l0_2 l0_3) = some r:=h
 clear h
 have H':=mk_ H
 clear H
 go_enter Try.func13,Try.ntmps13
 go_wp2_with (first|((with_reducible refine gate_dst (N:=1) rfl ?_);(try (refine gate_guard (by rfl) ?_;dsimp only));refine box_event ?hg (N:=1) ?hd (cs:=#[.int .i64 a0_0,.slice A0_1 l0_1.length c0_1,.slice A0_2 l0_2.length c0_2,.slice A0_3 l0_3.length c0_3]) (t:=30) ?hr ?_;(case hd => rfl);(case hg => rfl);(case hr => first|(go_simp;done)|(go_simp;rfl));intro gb341 hg w2 hbox hb;have n0_:=mk_ (st_ (by repeat (first|(with_reducible first|exact HB.out|apply ba_|apply bn_|apply bd_)|exact HB.out)) hb);have n1_:=mk_ (hbox);have n2_:=mk_ ((by rw [hg];exact (bz_ (by repeat (first|(with_reducible first|exact HB.out|apply ba_|apply bn_|apply bd_)|exact HB.out))) : w.heap.size ≤ gb341));have n3_:=mk_ ((by rw [hg];exact (bz_ (by repeat (first|(with_reducible first|exact HB.out|apply ba_|apply bn_|apply bd_)|exact HB.out))) : w.heap.size ≤ gb341));clear HB;have HB:=n0_;have BK341:=n1_;have GW341:=n2_;have GE341:=n3_;clear n0_ n1_ n2_ n3_;clear hb hbox hg))
 repeat (go_quiet (first|((with_reducible refine gate_dst (N:=1) rfl ?_);(try (refine gate_guard (by rfl) ?_;dsimp only));refine box_event ?hg (N:=1) ?hd (cs:=#[.int .i64 a0_0,.slice A0_1 l0_1.length c0_1,.slice A0_2 l0_2.length c0_2,.slice A0_3 l0_3.length c0_3]) (t:=30) ?hr ?_;(case hd => rfl);(case hg => rfl);(case hr => first|(go_simp;done)|(go_simp;rfl));intro gb341 hg w2 hbox hb;have n0_:=mk_ (st_ (by repeat (first|(with_reducible first|exact HB.out|apply ba_|apply bn_|apply bd_)|exact HB.out)) hb);have n1_:=mk_ (hbox);have n2_:=mk_ ((by rw [hg];exact (bz_ (by repeat (first|(with_reducible first|exact HB.out|apply ba_|apply bn_|apply bd_)|exact HB.out))) : w.heap.size ≤ gb341));have n3_:=mk_ ((by rw [hg];exact (bz_ (by repeat (first|(with_reducible first|exact HB.out|apply ba_|apply bn_|apply bd_)|exact HB.out))) : w.heap.size ≤ gb341));clear HB;have HB:=n0_;have BK341:=n1_;have GW341:=n2_;have GE341:=n3_;clear n0_ n1_ n2_ n3_;clear hb hbox hg));try go_wp2_with (first|((with_reducible refine gate_dst (N:=1) rfl ?_);(try (refine gate_guard (by rfl) ?_;dsimp only));refine box_event ?hg (N:=1) ?hd (cs:=#[.int .i64 a0_0,.slice A0_1 l0_1.length c0_1,.slice A0_2 l0_2.length c0_2,.slice A0_3 l0_3.length c0_3]) (t:=30) ?hr ?_;(case hd => rfl);(case hg => rfl);(case hr => first|(go_simp;done)|(go_simp;rfl));intro gb341 hg w2 hbox hb;have n0_:=mk_ (st_ (by repeat (first|(with_reducible first|exact HB.out|apply ba_|apply bn_|apply bd_)|exact HB.out)) hb);have n1_:=mk_ (hbox);have n2_:=mk_ ((by rw [hg];exact (bz_ (by repeat (first|(with_reducible first|exact HB.out|apply ba_|apply bn_|apply bd_)|exact HB.out))) : w.heap.size ≤ gb341));have n3_:=mk_ ((by rw [hg];exact (bz_ (by repeat (first|(with_reducible first|exact HB.out|apply ba_|apply bn_|apply bd_)|exact HB.out))) : w.heap.size ≤ gb341));clear HB;have HB:=n0_;have BK341:=n1_;have GW341:=n2_;have GE341:=n3_;clear n0_ n1_ n2_ n3_;clear hb hbox hg)))
 go_loopg [3] k (fun kq v3 w' => ∃ (x3_1 : Int),v3 = .int .i64 x3_1 ∧ Aside0 (spec_NetValid.l0 kq x3_1 a0_0 l0_1 l0_2 l0_3 = some r) ∧ Aside0 (kq ≤ k) ∧ Aside0 (w'.heap[gb341]? = some (.cells #[.int .i64 a0_0,(.slice A0_1 l0_1.length c0_1),(.slice A0_2 l0_2.length c0_2),(.slice A0_3 l0_3.length c0_3)] 30 (0,0))) ∧ Aside0 (Below w.heap.size w w'))
 case atStart => exact ⟨(0),(by first|rfl|(simp;done)|(simp [*];done)),H',⟨Nat.le_refl _⟩,⟨by (with_reducible repeat (first|refine kn_ ?_ _|refine kd_ ?_|refine ka_ ?_ _));exact BK341.out⟩,⟨by repeat (first|(with_reducible first|exact HB.out|apply ba_|apply bn_|apply bd_|refine bs_ ?_ GE341.out)|exact HB.out)⟩⟩
 case round =>
  clear H'
  try clear c1
  try clear p2
  obtain ⟨x3_1,rfl,HA,HK1,BK341,HB⟩:=hrel
  cases gk with
  | zero => exact absurd HA.out (by simp [spec_NetValid.l0])
  | succ k1 =>
   have H:=HA.out
   clear HA
   simp only [spec_NetValid.l0] at H
   by_cases c3 : x3_1 < (l0_2.length : Int)
   ·rw [if_pos c3] at H
    have c3b0 : decide (x3_1 < (l0_2.length : Int)) = true:=decide_eq_true c3
    clear c3
    by_cases c4 : 0 ≤ x3_1
    ·rw [if_pos c4] at H
     have c4b0 : decide (0 ≤ x3_1) = true:=decide_eq_true c4
     clear c4
     replace H:=Option.bind_eq_some_iff.mp H
     obtain ⟨t343,A50,H⟩:=H
     replace H : (if t343 = true then (spec_NetValid.l0 k1 (wrap64 (x3_1 + 1)) a0_0 l0_1 l0_2 l0_3) else (some false)) = some r:=H
     have A5:=mk_ A50
     clear A50
     by_cases c6 : t343 = true
     ·subst c6
      have H1 : (spec_NetValid.l0 k1 (wrap64 (x3_1 + 1)) a0_0 l0_1 l0_2 l0_3) = some r:=by rw [if_pos rfl] at H;exact H
      clear H
      have H:=H1
      clear H1
      have H':=mk_ H
      clear H
      have hcz7_0 : wr.cell? ⟨gb341,0,none⟩ = some (.int .i64 a0_0):=(bc_ BK341.out 0).trans rfl
      have hcz7_1 : wr.cell? ⟨gb341,1,none⟩ = some (.slice A0_1 l0_1.length c0_1):=(bc_ BK341.out 1).trans rfl
      have hcz7_2 : wr.cell? ⟨gb341,2,none⟩ = some (.slice A0_2 l0_2.length c0_2):=(bc_ BK341.out 2).trans rfl
      have hcz7_3 : wr.cell? ⟨gb341,3,none⟩ = some (.slice A0_3 l0_3.length c0_3):=(bc_ BK341.out 3).trans rfl
      have hfz7_0:=bf_ BK341.out 0
      have hfz7_1:=bf_ BK341.out 1
      have hfz7_2:=bf_ BK341.out 2
      have hfz7_3:=bf_ BK341.out 3
      have p342 : 0 ≤ (x3_1 : Int):=od_ (by first|(with_reducible assumption)|assumption)
      have q342 : x3_1 < (l0_2.length : Int):=od_ (by first|(with_reducible assumption)|assumption)
      obtain ⟨ad342,e342,hx342_0⟩:=Kd.at_int HR0_2.out x3_1 p342 q342
      cases e342
      replace hx342_0:=(HB.out.cell (wl_ w _ hx342_0)).trans hx342_0
      replace p342:=eq_true p342
      replace q342:=eq_true q342
      go_wp2_with (first|(go_at_call 40;(with_reducible refine (spec_l1In.calls (rd l0_2 x3_1) 0 (wrap64 (a0_0 - 1)) true _ A5.out).mono ?_);rintro e w' ⟨rfl,⟨nd,rfl⟩⟩;(try first|exact ⟨rfl,_,World.drewN_drewN _ _ _⟩|exact ⟨rfl,_,Eq.trans (World.drewN_drewN _ _ _) (congrArg (World.drewN _) (Nat.add_assoc _ _ _))⟩)))
      repeat (go_quiet (first|(go_at_call 40;(with_reducible refine (spec_l1In.calls (rd l0_2 x3_1) 0 (wrap64 (a0_0 - 1)) true _ A5.out).mono ?_);rintro e w' ⟨rfl,⟨nd,rfl⟩⟩;(try first|exact ⟨rfl,_,World.drewN_drewN _ _ _⟩|exact ⟨rfl,_,Eq.trans (World.drewN_drewN _ _ _) (congrArg (World.drewN _) (Nat.add_assoc _ _ _))⟩)));try go_wp2_with (first|(go_at_call 40;(with_reducible refine (spec_l1In.calls (rd l0_2 x3_1) 0 (wrap64 (a0_0 - 1)) true _ A5.out).mono ?_);rintro e w' ⟨rfl,⟨nd,rfl⟩⟩;(try first|exact ⟨rfl,_,World.drewN_drewN _ _ _⟩|exact ⟨rfl,_,Eq.trans (World.drewN_drewN _ _ _) (congrArg (World.drewN _) (Nat.add_assoc _ _ _))⟩))))
      go_roundg k1
      case measure => have:=HK1.out;omega
      case rel => exact ⟨(wrap64 (x3_1 + 1)),(by first|rfl|(simp;done)|(simp [*];done)),H',⟨by have:=HK1.out;omega⟩,⟨by (with_reducible repeat (first|refine kn_ ?_ _|refine kd_ ?_|refine ka_ ?_ _));exact BK341.out⟩,⟨by repeat (first|(with_reducible first|exact HB.out|apply ba_|apply bn_|apply bd_|refine bs_ ?_ GE341.out)|exact HB.out)⟩⟩
     ·replace c6:=Bool.eq_false_iff.mpr c6
      subst c6
      have H1 : (some false) = some r:=by rw [if_neg (show ¬ (false = true) by decide)] at H;exact H
      clear H
      have H:=H1
      clear H1
      obtain rfl:=Option.some.inj H
      have hcz8_0 : wr.cell? ⟨gb341,0,none⟩ = some (.int .i64 a0_0):=(bc_ BK341.out 0).trans rfl
      have hcz8_1 : wr.cell? ⟨gb341,1,none⟩ = some (.slice A0_1 l0_1.length c0_1):=(bc_ BK341.out 1).trans rfl
      have hcz8_2 : wr.cell? ⟨gb341,2,none⟩ = some (.slice A0_2 l0_2.length c0_2):=(bc_ BK341.out 2).trans rfl
      have hcz8_3 : wr.cell? ⟨gb341,3,none⟩ = some (.slice A0_3 l0_3.length c0_3):=(bc_ BK341.out 3).trans rfl
      have hfz8_0:=bf_ BK341.out 0
      have hfz8_1:=bf_ BK341.out 1
      have hfz8_2:=bf_ BK341.out 2
      have hfz8_3:=bf_ BK341.out 3
      have p342 : 0 ≤ (x3_1 : Int):=od_ (by first|(with_reducible assumption)|assumption)
      have q342 : x3_1 < (l0_2.length : Int):=od_ (by first|(with_reducible assumption)|assumption)
      obtain ⟨ad342,e342,hx342_0⟩:=Kd.at_int HR0_2.out x3_1 p342 q342
      cases e342
      replace hx342_0:=(HB.out.cell (wl_ w _ hx342_0)).trans hx342_0
      replace p342:=eq_true p342
      replace q342:=eq_true q342
      go_wp2_with (first|(go_at_call 40;(with_reducible refine (spec_l1In.calls (rd l0_2 x3_1) 0 (wrap64 (a0_0 - 1)) false _ A5.out).mono ?_);rintro e w' ⟨rfl,⟨nd,rfl⟩⟩;(try first|exact ⟨rfl,_,World.drewN_drewN _ _ _⟩|exact ⟨rfl,_,Eq.trans (World.drewN_drewN _ _ _) (congrArg (World.drewN _) (Nat.add_assoc _ _ _))⟩)))
      repeat (go_quiet (first|(go_at_call 40;(with_reducible refine (spec_l1In.calls (rd l0_2 x3_1) 0 (wrap64 (a0_0 - 1)) false _ A5.out).mono ?_);rintro e w' ⟨rfl,⟨nd,rfl⟩⟩;(try first|exact ⟨rfl,_,World.drewN_drewN _ _ _⟩|exact ⟨rfl,_,Eq.trans (World.drewN_drewN _ _ _) (congrArg (World.drewN _) (Nat.add_assoc _ _ _))⟩)));try go_wp2_with (first|(go_at_call 40;(with_reducible refine (spec_l1In.calls (rd l0_2 x3_1) 0 (wrap64 (a0_0 - 1)) false _ A5.out).mono ?_);rintro e w' ⟨rfl,⟨nd,rfl⟩⟩;(try first|exact ⟨rfl,_,World.drewN_drewN _ _ _⟩|exact ⟨rfl,_,Eq.trans (World.drewN_drewN _ _ _) (congrArg (World.drewN _) (Nat.add_assoc _ _ _))⟩))))
      go_ret
      exact ⟨by first|rfl|(simp [errW_none,errW_some] <;> rfl)|(simp [*,errW_none,errW_some] <;> rfl),by repeat (first|(with_reducible first|exact HB.out|apply ba_|apply bn_|apply bd_|refine bs_ ?_ GE341.out)|exact HB.out)⟩
    ·rw [if_neg c4] at H
     exact absurd H (by simp)
   ·rw [if_neg c3] at H
    have c3b0 : decide (x3_1 < (l0_2.length : Int)) = false:=decide_eq_false c3
    clear c3
    have H':=mk_ H
    clear H
    have hcz9_0 : wr.cell? ⟨gb341,0,none⟩ = some (.int .i64 a0_0):=(bc_ BK341.out 0).trans rfl
    have hcz9_1 : wr.cell? ⟨gb341,1,none⟩ = some (.slice A0_1 l0_1.length c0_1):=(bc_ BK341.out 1).trans rfl
    have hcz9_2 : wr.cell? ⟨gb341,2,none⟩ = some (.slice A0_2 l0_2.length c0_2):=(bc_ BK341.out 2).trans rfl
    have hcz9_3 : wr.cell? ⟨gb341,3,none⟩ = some (.slice A0_3 l0_3.length c0_3):=(bc_ BK341.out 3).trans rfl
    have hfz9_0:=bf_ BK341.out 0
    have hfz9_1:=bf_ BK341.out 1
    have hfz9_2:=bf_ BK341.out 2
    have hfz9_3:=bf_ BK341.out 3
    go_wp2
    repeat (go_quiet (fail);try go_wp2)
    go_loopg [4] k1 (fun kq v4 w' => ∃ (x4_2 : Int),v4 = .int .i64 x4_2 ∧ Aside0 (spec_NetValid.l1 kq x4_2 a0_0 l0_1 l0_2 l0_3 = some r) ∧ Aside0 (kq ≤ k1) ∧ Aside0 (w'.heap[gb341]? = some (.cells #[.int .i64 a0_0,(.slice A0_1 l0_1.length c0_1),(.slice A0_2 l0_2.length c0_2),(.slice A0_3 l0_3.length c0_3)] 30 (0,0))) ∧ Aside0 (Below w.heap.size w w'))
    case atStart => exact ⟨(0),(by first|rfl|(simp;done)|(simp [*];done)),H',⟨Nat.le_refl _⟩,⟨by (with_reducible repeat (first|refine kn_ ?_ _|refine kd_ ?_|refine ka_ ?_ _));exact BK341.out⟩,⟨by repeat (first|(with_reducible first|exact HB.out|apply ba_|apply bn_|apply bd_|refine bs_ ?_ GE341.out)|exact HB.out)⟩⟩
    case round =>
     clear H'
     try clear c1
     try clear p2
     try clear c3
     try clear c3b0
     try clear p3
     try clear q3
     try clear hx3
     try clear c4
     try clear c4b0
     try clear c6
     try clear p6
     try clear hcz7_0
     try clear hcz7_1
     try clear hcz7_2
     try clear hcz7_3
     try clear hcz8_0
     try clear hcz8_1
     try clear hcz8_2
     try clear hcz8_3
     try clear hcz9_0
     try clear hcz9_1
     try clear hcz9_2
     try clear hcz9_3
     try clear hfz7_0
     try clear hfz7_1
     try clear hfz7_2
     try clear hfz7_3
     try clear hfz8_0
     try clear hfz8_1
     try clear hfz8_2
     try clear hfz8_3
     try clear hfz9_0
     try clear hfz9_1
     try clear hfz9_2
     try clear hfz9_3
     try clear hx342_0
     try clear p2
     try clear p342
     try clear q342
     obtain ⟨x4_2,rfl,HA,HK2,BK341,HB⟩:=hrel
     cases gk with
     | zero => exact absurd HA.out (by simp [spec_NetValid.l1])
     | succ k2 =>
      have H:=HA.out
      clear HA
      simp only [spec_NetValid.l1] at H
      by_cases c10 : x4_2 < (l0_3.length : Int)
      ·rw [if_pos c10] at H
       have c10b0 : decide (x4_2 < (l0_3.length : Int)) = true:=decide_eq_true c10
       clear c10
       by_cases c11 : 0 ≤ x4_2
       ·rw [if_pos c11] at H
        have c11b0 : decide (0 ≤ x4_2) = true:=decide_eq_true c11
        clear c11
        replace H:=Option.bind_eq_some_iff.mp H
        obtain ⟨t345,A120,H⟩:=H
        replace H : (if t345 = true then (spec_NetValid.l1 k2 (wrap64 (x4_2 + 1)) a0_0 l0_1 l0_2 l0_3) else (some false)) = some r:=H
        have A12:=mk_ A120
        clear A120
        by_cases c13 : t345 = true
        ·subst c13
         have H1 : (spec_NetValid.l1 k2 (wrap64 (x4_2 + 1)) a0_0 l0_1 l0_2 l0_3) = some r:=by rw [if_pos rfl] at H;exact H
         clear H
         have H:=H1
         clear H1
         have H':=mk_ H
         clear H
         have hcz14_0 : wr.cell? ⟨gb341,0,none⟩ = some (.int .i64 a0_0):=(bc_ BK341.out 0).trans rfl
         have hcz14_1 : wr.cell? ⟨gb341,1,none⟩ = some (.slice A0_1 l0_1.length c0_1):=(bc_ BK341.out 1).trans rfl
         have hcz14_2 : wr.cell? ⟨gb341,2,none⟩ = some (.slice A0_2 l0_2.length c0_2):=(bc_ BK341.out 2).trans rfl
         have hcz14_3 : wr.cell? ⟨gb341,3,none⟩ = some (.slice A0_3 l0_3.length c0_3):=(bc_ BK341.out 3).trans rfl
         have hfz14_0:=bf_ BK341.out 0
         have hfz14_1:=bf_ BK341.out 1
         have hfz14_2:=bf_ BK341.out 2
         have hfz14_3:=bf_ BK341.out 3
         have p344 : 0 ≤ (x4_2 : Int):=od_ (by first|(with_reducible assumption)|assumption)
         have q344 : x4_2 < (l0_3.length : Int):=od_ (by first|(with_reducible assumption)|assumption)
         obtain ⟨ad344,e344,hx344_0⟩:=Kd.at_int HR0_3.out x4_2 p344 q344
         cases e344
         replace hx344_0:=(HB.out.cell (wl_ w _ hx344_0)).trans hx344_0
         replace p344:=eq_true p344
         replace q344:=eq_true q344
         go_wp2_with (first|(go_at_call 41;(with_reducible refine (spec_l10Vlan.calls (rd l0_3 x4_2) true _ A12.out).mono ?_);rintro e w' ⟨rfl,⟨nd,rfl⟩⟩;(try first|exact ⟨rfl,_,World.drewN_drewN _ _ _⟩|exact ⟨rfl,_,Eq.trans (World.drewN_drewN _ _ _) (congrArg (World.drewN _) (Nat.add_assoc _ _ _))⟩)))
         repeat (go_quiet (first|(go_at_call 41;(with_reducible refine (spec_l10Vlan.calls (rd l0_3 x4_2) true _ A12.out).mono ?_);rintro e w' ⟨rfl,⟨nd,rfl⟩⟩;(try first|exact ⟨rfl,_,World.drewN_drewN _ _ _⟩|exact ⟨rfl,_,Eq.trans (World.drewN_drewN _ _ _) (congrArg (World.drewN _) (Nat.add_assoc _ _ _))⟩)));try go_wp2_with (first|(go_at_call 41;(with_reducible refine (spec_l10Vlan.calls (rd l0_3 x4_2) true _ A12.out).mono ?_);rintro e w' ⟨rfl,⟨nd,rfl⟩⟩;(try first|exact ⟨rfl,_,World.drewN_drewN _ _ _⟩|exact ⟨rfl,_,Eq.trans (World.drewN_drewN _ _ _) (congrArg (World.drewN _) (Nat.add_assoc _ _ _))⟩))))
         go_roundg k2
         case measure => have:=HK1.out;have:=HK2.out;omega
         case rel => exact ⟨(wrap64 (x4_2 + 1)),(by first|rfl|(simp;done)|(simp [*];done)),H',⟨by have:=HK1.out;have:=HK2.out;omega⟩,⟨by (with_reducible repeat (first|refine kn_ ?_ _|refine kd_ ?_|refine ka_ ?_ _));exact BK341.out⟩,⟨by repeat (first|(with_reducible first|exact HB.out|apply ba_|apply bn_|apply bd_|refine bs_ ?_ GE341.out)|exact HB.out)⟩⟩
        ·replace c13:=Bool.eq_false_iff.mpr c13
         subst c13
         have H1 : (some false) = some r:=by rw [if_neg (show ¬ (false = true) by decide)] at H;exact H
         clear H
         have H:=H1
         clear H1
         obtain rfl:=Option.some.inj H
         have hcz15_0 : wr.cell? ⟨gb341,0,none⟩ = some (.int .i64 a0_0):=(bc_ BK341.out 0).trans rfl
         have hcz15_1 : wr.cell? ⟨gb341,1,none⟩ = some (.slice A0_1 l0_1.length c0_1):=(bc_ BK341.out 1).trans rfl
         have hcz15_2 : wr.cell? ⟨gb341,2,none⟩ = some (.slice A0_2 l0_2.length c0_2):=(bc_ BK341.out 2).trans rfl
         have hcz15_3 : wr.cell? ⟨gb341,3,none⟩ = some (.slice A0_3 l0_3.length c0_3):=(bc_ BK341.out 3).trans rfl
         have hfz15_0:=bf_ BK341.out 0
         have hfz15_1:=bf_ BK341.out 1
         have hfz15_2:=bf_ BK341.out 2
         have hfz15_3:=bf_ BK341.out 3
         have p344 : 0 ≤ (x4_2 : Int):=od_ (by first|(with_reducible assumption)|assumption)
         have q344 : x4_2 < (l0_3.length : Int):=od_ (by first|(with_reducible assumption)|assumption)
         obtain ⟨ad344,e344,hx344_0⟩:=Kd.at_int HR0_3.out x4_2 p344 q344
         cases e344
         replace hx344_0:=(HB.out.cell (wl_ w _ hx344_0)).trans hx344_0
         replace p344:=eq_true p344
         replace q344:=eq_true q344
         go_wp2_with (first|(go_at_call 41;(with_reducible refine (spec_l10Vlan.calls (rd l0_3 x4_2) false _ A12.out).mono ?_);rintro e w' ⟨rfl,⟨nd,rfl⟩⟩;(try first|exact ⟨rfl,_,World.drewN_drewN _ _ _⟩|exact ⟨rfl,_,Eq.trans (World.drewN_drewN _ _ _) (congrArg (World.drewN _) (Nat.add_assoc _ _ _))⟩)))
         repeat (go_quiet (first|(go_at_call 41;(with_reducible refine (spec_l10Vlan.calls (rd l0_3 x4_2) false _ A12.out).mono ?_);rintro e w' ⟨rfl,⟨nd,rfl⟩⟩;(try first|exact ⟨rfl,_,World.drewN_drewN _ _ _⟩|exact ⟨rfl,_,Eq.trans (World.drewN_drewN _ _ _) (congrArg (World.drewN _) (Nat.add_assoc _ _ _))⟩)));try go_wp2_with (first|(go_at_call 41;(with_reducible refine (spec_l10Vlan.calls (rd l0_3 x4_2) false _ A12.out).mono ?_);rintro e w' ⟨rfl,⟨nd,rfl⟩⟩;(try first|exact ⟨rfl,_,World.drewN_drewN _ _ _⟩|exact ⟨rfl,_,Eq.trans (World.drewN_drewN _ _ _) (congrArg (World.drewN _) (Nat.add_assoc _ _ _))⟩))))
         go_ret
         exact ⟨by first|rfl|(simp [errW_none,errW_some] <;> rfl)|(simp [*,errW_none,errW_some] <;> rfl),by repeat (first|(with_reducible first|exact HB.out|apply ba_|apply bn_|apply bd_|refine bs_ ?_ GE341.out)|exact HB.out)⟩
       ·rw [if_neg c11] at H
        exact absurd H (by simp)
      ·rw [if_neg c10] at H
       have c10b0 : decide (x4_2 < (l0_3.length : Int)) = false:=decide_eq_false c10
       clear c10
       replace H:=Option.bind_eq_some_iff.mp H
       obtain ⟨t346,A160,H⟩:=H
       replace H : (if t346 = true then (if (l0_2.length : Int) = (l0_3.length : Int) then (some (decide ((l0_2.length : Int) ≤ 15))) else (some false)) else (some false)) = some r:=H
       have A16:=mk_ A160
       clear A160
       by_cases c17 : t346 = true
       ·subst c17
        have H1 : (if (l0_2.length : Int) = (l0_3.length : Int) then (some (decide ((l0_2.length : Int) ≤ 15))) else (some false)) = some r:=by rw [if_pos rfl] at H;exact H
        clear H
        have H:=H1
        clear H1
        by_cases c18 : (l0_2.length : Int) = (l0_3.length : Int)
        ·rw [if_pos c18] at H
         have c18b0 : ((l0_2.length : Int) == (l0_3.length : Int)) = true:=beq_iff_eq.mpr c18
         have c18b1 : ((l0_2.length : Int) != (l0_3.length : Int)) = false:=bne_eq_false_iff_eq.mpr c18
         have c18b2 : (l0_2.length == l0_3.length) = true:=by first|simpa using c18|(simp at c18 ⊢;omega)
         clear c18
         obtain rfl:=Option.some.inj H
         have hcz19_0 : wr.cell? ⟨gb341,0,none⟩ = some (.int .i64 a0_0):=(bc_ BK341.out 0).trans rfl
         have hcz19_1 : wr.cell? ⟨gb341,1,none⟩ = some (.slice A0_1 l0_1.length c0_1):=(bc_ BK341.out 1).trans rfl
         have hcz19_2 : wr.cell? ⟨gb341,2,none⟩ = some (.slice A0_2 l0_2.length c0_2):=(bc_ BK341.out 2).trans rfl
         have hcz19_3 : wr.cell? ⟨gb341,3,none⟩ = some (.slice A0_3 l0_3.length c0_3):=(bc_ BK341.out 3).trans rfl
         have hfz19_0:=bf_ BK341.out 0
         have hfz19_1:=bf_ BK341.out 1
         have hfz19_2:=bf_ BK341.out 2
         have hfz19_3:=bf_ BK341.out 3
         go_wp2_with (first|(go_at_call 42;(with_reducible refine (spec_CablesValid.calls k2 a0_0 _ _ l0_1 true _ ?side1 ?side2 A16.out).mono ?_);(case side1 => repeat (first|exact (cb_ HR0_1.out HB.out)|(with_reducible refine ca_ ?_ _)|(with_reducible refine cn_ ?_ _)|(with_reducible refine cd_ ?_)));(case side2 => exact HC0_1.out);rintro e w20 ⟨rfl,hb⟩;have n0_:=mk_ (blk_below (g:=gb341) (o:=.cells #[.int .i64 a0_0,.slice A0_1 l0_1.length c0_1,.slice A0_2 l0_2.length c0_2,.slice A0_3 l0_3.length c0_3] 30 (0,0)) (by (with_reducible repeat (first|refine kn_ ?_ _|refine kd_ ?_|refine ka_ ?_ _));exact BK341.out) hb);have n1_:=mk_ (st_ (by repeat (first|(with_reducible first|exact HB.out|apply ba_|apply bn_|apply bd_|refine bs_ ?_ GE341.out)|exact HB.out)) hb);clear BK341;clear HB;have BK341:=n0_;have HB:=n1_;clear n0_ n1_;(try clear hb);(try clear hb2);(try clear hk);(try clear hi);have hcz21_0 : w20.cell? ⟨gb341,0,none⟩ = some (.int .i64 a0_0):=(bc_ BK341.out 0).trans rfl;have hcz21_1 : w20.cell? ⟨gb341,1,none⟩ = some (.slice A0_1 l0_1.length c0_1):=(bc_ BK341.out 1).trans rfl;have hcz21_2 : w20.cell? ⟨gb341,2,none⟩ = some (.slice A0_2 l0_2.length c0_2):=(bc_ BK341.out 2).trans rfl;have hcz21_3 : w20.cell? ⟨gb341,3,none⟩ = some (.slice A0_3 l0_3.length c0_3):=(bc_ BK341.out 3).trans rfl;have hfz21_0:=bf_ BK341.out 0;have hfz21_1:=bf_ BK341.out 1;have hfz21_2:=bf_ BK341.out 2;have hfz21_3:=bf_ BK341.out 3))
         repeat (go_quiet (first|(go_at_call 42;(with_reducible refine (spec_CablesValid.calls k2 a0_0 _ _ l0_1 true _ ?side1 ?side2 A16.out).mono ?_);(case side1 => repeat (first|exact (cb_ HR0_1.out HB.out)|(with_reducible refine ca_ ?_ _)|(with_reducible refine cn_ ?_ _)|(with_reducible refine cd_ ?_)));(case side2 => exact HC0_1.out);rintro e w20 ⟨rfl,hb⟩;have n0_:=mk_ (blk_below (g:=gb341) (o:=.cells #[.int .i64 a0_0,.slice A0_1 l0_1.length c0_1,.slice A0_2 l0_2.length c0_2,.slice A0_3 l0_3.length c0_3] 30 (0,0)) (by (with_reducible repeat (first|refine kn_ ?_ _|refine kd_ ?_|refine ka_ ?_ _));exact BK341.out) hb);have n1_:=mk_ (st_ (by repeat (first|(with_reducible first|exact HB.out|apply ba_|apply bn_|apply bd_|refine bs_ ?_ GE341.out)|exact HB.out)) hb);clear BK341;clear HB;have BK341:=n0_;have HB:=n1_;clear n0_ n1_;(try clear hb);(try clear hb2);(try clear hk);(try clear hi);have hcz21_0 : w20.cell? ⟨gb341,0,none⟩ = some (.int .i64 a0_0):=(bc_ BK341.out 0).trans rfl;have hcz21_1 : w20.cell? ⟨gb341,1,none⟩ = some (.slice A0_1 l0_1.length c0_1):=(bc_ BK341.out 1).trans rfl;have hcz21_2 : w20.cell? ⟨gb341,2,none⟩ = some (.slice A0_2 l0_2.length c0_2):=(bc_ BK341.out 2).trans rfl;have hcz21_3 : w20.cell? ⟨gb341,3,none⟩ = some (.slice A0_3 l0_3.length c0_3):=(bc_ BK341.out 3).trans rfl;have hfz21_0:=bf_ BK341.out 0;have hfz21_1:=bf_ BK341.out 1;have hfz21_2:=bf_ BK341.out 2;have hfz21_3:=bf_ BK341.out 3));try go_wp2_with (first|(go_at_call 42;(with_reducible refine (spec_CablesValid.calls k2 a0_0 _ _ l0_1 true _ ?side1 ?side2 A16.out).mono ?_);(case side1 => repeat (first|exact (cb_ HR0_1.out HB.out)|(with_reducible refine ca_ ?_ _)|(with_reducible refine cn_ ?_ _)|(with_reducible refine cd_ ?_)));(case side2 => exact HC0_1.out);rintro e w20 ⟨rfl,hb⟩;have n0_:=mk_ (blk_below (g:=gb341) (o:=.cells #[.int .i64 a0_0,.slice A0_1 l0_1.length c0_1,.slice A0_2 l0_2.length c0_2,.slice A0_3 l0_3.length c0_3] 30 (0,0)) (by (with_reducible repeat (first|refine kn_ ?_ _|refine kd_ ?_|refine ka_ ?_ _));exact BK341.out) hb);have n1_:=mk_ (st_ (by repeat (first|(with_reducible first|exact HB.out|apply ba_|apply bn_|apply bd_|refine bs_ ?_ GE341.out)|exact HB.out)) hb);clear BK341;clear HB;have BK341:=n0_;have HB:=n1_;clear n0_ n1_;(try clear hb);(try clear hb2);(try clear hk);(try clear hi);have hcz21_0 : w20.cell? ⟨gb341,0,none⟩ = some (.int .i64 a0_0):=(bc_ BK341.out 0).trans rfl;have hcz21_1 : w20.cell? ⟨gb341,1,none⟩ = some (.slice A0_1 l0_1.length c0_1):=(bc_ BK341.out 1).trans rfl;have hcz21_2 : w20.cell? ⟨gb341,2,none⟩ = some (.slice A0_2 l0_2.length c0_2):=(bc_ BK341.out 2).trans rfl;have hcz21_3 : w20.cell? ⟨gb341,3,none⟩ = some (.slice A0_3 l0_3.length c0_3):=(bc_ BK341.out 3).trans rfl;have hfz21_0:=bf_ BK341.out 0;have hfz21_1:=bf_ BK341.out 1;have hfz21_2:=bf_ BK341.out 2;have hfz21_3:=bf_ BK341.out 3)))
         go_ret
         exact ⟨by first|rfl|(simp [errW_none,errW_some] <;> rfl)|(simp [*,errW_none,errW_some] <;> rfl),by repeat (first|(with_reducible first|exact HB.out|apply ba_|apply bn_|apply bd_|refine bs_ ?_ GE341.out)|exact HB.out)⟩
        ·rw [if_neg c18] at H
         have c18b0 : ((l0_2.length : Int) == (l0_3.length : Int)) = false:=beq_eq_false_iff_ne.mpr c18
         have c18b1 : ((l0_2.length : Int) != (l0_3.length : Int)) = true:=bne_iff_ne.mpr c18
         have c18b2 : (l0_2.length == l0_3.length) = false:=by first|simpa using c18|(simp at c18 ⊢;omega)
         obtain rfl:=Option.some.inj H
         have hcz22_0 : wr.cell? ⟨gb341,0,none⟩ = some (.int .i64 a0_0):=(bc_ BK341.out 0).trans rfl
         have hcz22_1 : wr.cell? ⟨gb341,1,none⟩ = some (.slice A0_1 l0_1.length c0_1):=(bc_ BK341.out 1).trans rfl
         have hcz22_2 : wr.cell? ⟨gb341,2,none⟩ = some (.slice A0_2 l0_2.length c0_2):=(bc_ BK341.out 2).trans rfl
         have hcz22_3 : wr.cell? ⟨gb341,3,none⟩ = some (.slice A0_3 l0_3.length c0_3):=(bc_ BK341.out 3).trans rfl
         have hfz22_0:=bf_ BK341.out 0
         have hfz22_1:=bf_ BK341.out 1
         have hfz22_2:=bf_ BK341.out 2
         have hfz22_3:=bf_ BK341.out 3
         go_wp2_with (first|(go_at_call 42;(with_reducible refine (spec_CablesValid.calls k2 a0_0 _ _ l0_1 true _ ?side1 ?side2 A16.out).mono ?_);(case side1 => repeat (first|exact (cb_ HR0_1.out HB.out)|(with_reducible refine ca_ ?_ _)|(with_reducible refine cn_ ?_ _)|(with_reducible refine cd_ ?_)));(case side2 => exact HC0_1.out);rintro e w23 ⟨rfl,hb⟩;have n0_:=mk_ (blk_below (g:=gb341) (o:=.cells #[.int .i64 a0_0,.slice A0_1 l0_1.length c0_1,.slice A0_2 l0_2.length c0_2,.slice A0_3 l0_3.length c0_3] 30 (0,0)) (by (with_reducible repeat (first|refine kn_ ?_ _|refine kd_ ?_|refine ka_ ?_ _));exact BK341.out) hb);have n1_:=mk_ (st_ (by repeat (first|(with_reducible first|exact HB.out|apply ba_|apply bn_|apply bd_|refine bs_ ?_ GE341.out)|exact HB.out)) hb);clear BK341;clear HB;have BK341:=n0_;have HB:=n1_;clear n0_ n1_;(try clear hb);(try clear hb2);(try clear hk);(try clear hi);have hcz24_0 : w23.cell? ⟨gb341,0,none⟩ = some (.int .i64 a0_0):=(bc_ BK341.out 0).trans rfl;have hcz24_1 : w23.cell? ⟨gb341,1,none⟩ = some (.slice A0_1 l0_1.length c0_1):=(bc_ BK341.out 1).trans rfl;have hcz24_2 : w23.cell? ⟨gb341,2,none⟩ = some (.slice A0_2 l0_2.length c0_2):=(bc_ BK341.out 2).trans rfl;have hcz24_3 : w23.cell? ⟨gb341,3,none⟩ = some (.slice A0_3 l0_3.length c0_3):=(bc_ BK341.out 3).trans rfl;have hfz24_0:=bf_ BK341.out 0;have hfz24_1:=bf_ BK341.out 1;have hfz24_2:=bf_ BK341.out 2;have hfz24_3:=bf_ BK341.out 3))
         repeat (go_quiet (first|(go_at_call 42;(with_reducible refine (spec_CablesValid.calls k2 a0_0 _ _ l0_1 true _ ?side1 ?side2 A16.out).mono ?_);(case side1 => repeat (first|exact (cb_ HR0_1.out HB.out)|(with_reducible refine ca_ ?_ _)|(with_reducible refine cn_ ?_ _)|(with_reducible refine cd_ ?_)));(case side2 => exact HC0_1.out);rintro e w23 ⟨rfl,hb⟩;have n0_:=mk_ (blk_below (g:=gb341) (o:=.cells #[.int .i64 a0_0,.slice A0_1 l0_1.length c0_1,.slice A0_2 l0_2.length c0_2,.slice A0_3 l0_3.length c0_3] 30 (0,0)) (by (with_reducible repeat (first|refine kn_ ?_ _|refine kd_ ?_|refine ka_ ?_ _));exact BK341.out) hb);have n1_:=mk_ (st_ (by repeat (first|(with_reducible first|exact HB.out|apply ba_|apply bn_|apply bd_|refine bs_ ?_ GE341.out)|exact HB.out)) hb);clear BK341;clear HB;have BK341:=n0_;have HB:=n1_;clear n0_ n1_;(try clear hb);(try clear hb2);(try clear hk);(try clear hi);have hcz24_0 : w23.cell? ⟨gb341,0,none⟩ = some (.int .i64 a0_0):=(bc_ BK341.out 0).trans rfl;have hcz24_1 : w23.cell? ⟨gb341,1,none⟩ = some (.slice A0_1 l0_1.length c0_1):=(bc_ BK341.out 1).trans rfl;have hcz24_2 : w23.cell? ⟨gb341,2,none⟩ = some (.slice A0_2 l0_2.length c0_2):=(bc_ BK341.out 2).trans rfl;have hcz24_3 : w23.cell? ⟨gb341,3,none⟩ = some (.slice A0_3 l0_3.length c0_3):=(bc_ BK341.out 3).trans rfl;have hfz24_0:=bf_ BK341.out 0;have hfz24_1:=bf_ BK341.out 1;have hfz24_2:=bf_ BK341.out 2;have hfz24_3:=bf_ BK341.out 3));try go_wp2_with (first|(go_at_call 42;(with_reducible refine (spec_CablesValid.calls k2 a0_0 _ _ l0_1 true _ ?side1 ?side2 A16.out).mono ?_);(case side1 => repeat (first|exact (cb_ HR0_1.out HB.out)|(with_reducible refine ca_ ?_ _)|(with_reducible refine cn_ ?_ _)|(with_reducible refine cd_ ?_)));(case side2 => exact HC0_1.out);rintro e w23 ⟨rfl,hb⟩;have n0_:=mk_ (blk_below (g:=gb341) (o:=.cells #[.int .i64 a0_0,.slice A0_1 l0_1.length c0_1,.slice A0_2 l0_2.length c0_2,.slice A0_3 l0_3.length c0_3] 30 (0,0)) (by (with_reducible repeat (first|refine kn_ ?_ _|refine kd_ ?_|refine ka_ ?_ _));exact BK341.out) hb);have n1_:=mk_ (st_ (by repeat (first|(with_reducible first|exact HB.out|apply ba_|apply bn_|apply bd_|refine bs_ ?_ GE341.out)|exact HB.out)) hb);clear BK341;clear HB;have BK341:=n0_;have HB:=n1_;clear n0_ n1_;(try clear hb);(try clear hb2);(try clear hk);(try clear hi);have hcz24_0 : w23.cell? ⟨gb341,0,none⟩ = some (.int .i64 a0_0):=(bc_ BK341.out 0).trans rfl;have hcz24_1 : w23.cell? ⟨gb341,1,none⟩ = some (.slice A0_1 l0_1.length c0_1):=(bc_ BK341.out 1).trans rfl;have hcz24_2 : w23.cell? ⟨gb341,2,none⟩ = some (.slice A0_2 l0_2.length c0_2):=(bc_ BK341.out 2).trans rfl;have hcz24_3 : w23.cell? ⟨gb341,3,none⟩ = some (.slice A0_3 l0_3.length c0_3):=(bc_ BK341.out 3).trans rfl;have hfz24_0:=bf_ BK341.out 0;have hfz24_1:=bf_ BK341.out 1;have hfz24_2:=bf_ BK341.out 2;have hfz24_3:=bf_ BK341.out 3)))
         go_ret
         exact ⟨by first|rfl|(simp [errW_none,errW_some] <;> rfl)|(simp [*,errW_none,errW_some] <;> rfl),by repeat (first|(with_reducible first|exact HB.out|apply ba_|apply bn_|apply bd_|refine bs_ ?_ GE341.out)|exact HB.out)⟩
       ·replace c17:=Bool.eq_false_iff.mpr c17
        subst c17
        have H1 : (some false) = some r:=by rw [if_neg (show ¬ (false = true) by decide)] at H;exact H
        clear H
        have H:=H1
        clear H1
        obtain rfl:=Option.some.inj H
        have hcz25_0 : wr.cell? ⟨gb341,0,none⟩ = some (.int .i64 a0_0):=(bc_ BK341.out 0).trans rfl
        have hcz25_1 : wr.cell? ⟨gb341,1,none⟩ = some (.slice A0_1 l0_1.length c0_1):=(bc_ BK341.out 1).trans rfl
        have hcz25_2 : wr.cell? ⟨gb341,2,none⟩ = some (.slice A0_2 l0_2.length c0_2):=(bc_ BK341.out 2).trans rfl
        have hcz25_3 : wr.cell? ⟨gb341,3,none⟩ = some (.slice A0_3 l0_3.length c0_3):=(bc_ BK341.out 3).trans rfl
        have hfz25_0:=bf_ BK341.out 0
        have hfz25_1:=bf_ BK341.out 1
        have hfz25_2:=bf_ BK341.out 2
        have hfz25_3:=bf_ BK341.out 3
        go_wp2_with (first|(go_at_call 42;(with_reducible refine (spec_CablesValid.calls k2 a0_0 _ _ l0_1 false _ ?side1 ?side2 A16.out).mono ?_);(case side1 => repeat (first|exact (cb_ HR0_1.out HB.out)|(with_reducible refine ca_ ?_ _)|(with_reducible refine cn_ ?_ _)|(with_reducible refine cd_ ?_)));(case side2 => exact HC0_1.out);rintro e w26 ⟨rfl,hb⟩;have n0_:=mk_ (blk_below (g:=gb341) (o:=.cells #[.int .i64 a0_0,.slice A0_1 l0_1.length c0_1,.slice A0_2 l0_2.length c0_2,.slice A0_3 l0_3.length c0_3] 30 (0,0)) (by (with_reducible repeat (first|refine kn_ ?_ _|refine kd_ ?_|refine ka_ ?_ _));exact BK341.out) hb);have n1_:=mk_ (st_ (by repeat (first|(with_reducible first|exact HB.out|apply ba_|apply bn_|apply bd_|refine bs_ ?_ GE341.out)|exact HB.out)) hb);clear BK341;clear HB;have BK341:=n0_;have HB:=n1_;clear n0_ n1_;(try clear hb);(try clear hb2);(try clear hk);(try clear hi)))
        repeat (go_quiet (first|(go_at_call 42;(with_reducible refine (spec_CablesValid.calls k2 a0_0 _ _ l0_1 false _ ?side1 ?side2 A16.out).mono ?_);(case side1 => repeat (first|exact (cb_ HR0_1.out HB.out)|(with_reducible refine ca_ ?_ _)|(with_reducible refine cn_ ?_ _)|(with_reducible refine cd_ ?_)));(case side2 => exact HC0_1.out);rintro e w26 ⟨rfl,hb⟩;have n0_:=mk_ (blk_below (g:=gb341) (o:=.cells #[.int .i64 a0_0,.slice A0_1 l0_1.length c0_1,.slice A0_2 l0_2.length c0_2,.slice A0_3 l0_3.length c0_3] 30 (0,0)) (by (with_reducible repeat (first|refine kn_ ?_ _|refine kd_ ?_|refine ka_ ?_ _));exact BK341.out) hb);have n1_:=mk_ (st_ (by repeat (first|(with_reducible first|exact HB.out|apply ba_|apply bn_|apply bd_|refine bs_ ?_ GE341.out)|exact HB.out)) hb);clear BK341;clear HB;have BK341:=n0_;have HB:=n1_;clear n0_ n1_;(try clear hb);(try clear hb2);(try clear hk);(try clear hi)));try go_wp2_with (first|(go_at_call 42;(with_reducible refine (spec_CablesValid.calls k2 a0_0 _ _ l0_1 false _ ?side1 ?side2 A16.out).mono ?_);(case side1 => repeat (first|exact (cb_ HR0_1.out HB.out)|(with_reducible refine ca_ ?_ _)|(with_reducible refine cn_ ?_ _)|(with_reducible refine cd_ ?_)));(case side2 => exact HC0_1.out);rintro e w26 ⟨rfl,hb⟩;have n0_:=mk_ (blk_below (g:=gb341) (o:=.cells #[.int .i64 a0_0,.slice A0_1 l0_1.length c0_1,.slice A0_2 l0_2.length c0_2,.slice A0_3 l0_3.length c0_3] 30 (0,0)) (by (with_reducible repeat (first|refine kn_ ?_ _|refine kd_ ?_|refine ka_ ?_ _));exact BK341.out) hb);have n1_:=mk_ (st_ (by repeat (first|(with_reducible first|exact HB.out|apply ba_|apply bn_|apply bd_|refine bs_ ?_ GE341.out)|exact HB.out)) hb);clear BK341;clear HB;have BK341:=n0_;have HB:=n1_;clear n0_ n1_;(try clear hb);(try clear hb2);(try clear hk);(try clear hi))))
        go_ret
        exact ⟨by first|rfl|(simp [errW_none,errW_some] <;> rfl)|(simp [*,errW_none,errW_some] <;> rfl),by repeat (first|(with_reducible first|exact HB.out|apply ba_|apply bn_|apply bd_|refine bs_ ?_ GE341.out)|exact HB.out)⟩

/-! ### spec_l19Station: function 56 -/
def spec_l19Station.f (a0_0 : Int) (l0_1 : List (S51)) (l0_2 : List Int) (l0_3 : List Int) (a1 : Int) : Option (Bool):=(spec_l1In.f a1 0 (wrap64 ((l0_2.length : Int) - 1))).bind fun t348 => (some t348)
set_option maxHeartbeats 8000000 in
set_option maxRecDepth 100000 in
theorem spec_l19Station.calls (a0_0 : Int) (A0_1 : Option Addr) (c0_1 : Nat) (l0_1 : List (S51)) (A0_2 : Option Addr) (c0_2 : Nat) (l0_2 : List Int) (A0_3 : Option Addr) (c0_3 : Nat) (l0_3 : List Int) (a1 : Int) (r : Bool) (w : World) (hr0_1 : Kd.C k51 w A0_1 l0_1.length l0_1) (hc0_1 : l0_1.length ≤ c0_1) (hr0_2 : Kd.C (Kd.int .i64) w A0_2 l0_2.length l0_2) (hc0_2 : l0_2.length ≤ c0_2) (hr0_3 : Kd.C (Kd.int .i64) w A0_3 l0_3.length l0_3) (hc0_3 : l0_3.length ≤ c0_3) (h : spec_l19Station.f a0_0 l0_1 l0_2 l0_3 a1 = some r) :
  Calls Try.prog 56 #[.agg #[.int .i64 a0_0,.slice A0_1 l0_1.length c0_1,.slice A0_2 l0_2.length c0_2,.slice A0_3 l0_3.length c0_3],.int .i64 a1] w fun e w' => e = .returned (.bool r) ∧ Below w.heap.size w w':=by
 have hu30:=Try.underlying30
 have HR0_1:=mk_ hr0_1
 have HC0_1:=mk_ hc0_1
 clear hr0_1 hc0_1
 have HR0_2:=mk_ hr0_2
 have HC0_2:=mk_ hc0_2
 clear hr0_2 hc0_2
 have HR0_3:=mk_ hr0_3
 have HC0_3:=mk_ hc0_3
 clear hr0_3 hc0_3
 have HB:=mk_ (Below.refl w.heap.size w)
 have H : ((spec_l1In.f a1 0 (wrap64 ((l0_2.length : Int) - 1))).bind fun t348 => (some t348)) = some r:=h
 clear h
 replace H:=Option.bind_eq_some_iff.mp H
 obtain ⟨t348,A30,H⟩:=H
 replace H : (some t348) = some r:=H
 have A3:=mk_ A30
 clear A30
 obtain rfl:=Option.some.inj H
 go_enter Try.func56,Try.ntmps56
 go_wp2_with (first|((with_reducible refine gate_dst (N:=2) rfl ?_);refine box_event ?hg (N:=2) ?hd (cs:=#[.int .i64 a0_0,.slice A0_1 l0_1.length c0_1,.slice A0_2 l0_2.length c0_2,.slice A0_3 l0_3.length c0_3]) (t:=30) ?hr ?_;(case hd => rfl);(case hg => rfl);(case hr => first|(go_simp;done)|(go_simp;rfl));intro gb347 hg w4 hbox hb;have n0_:=mk_ (st_ (by repeat (first|(with_reducible first|exact HB.out|apply ba_|apply bn_|apply bd_)|exact HB.out)) hb);have n1_:=mk_ (hbox);have n2_:=mk_ ((by rw [hg];exact (bz_ (by repeat (first|(with_reducible first|exact HB.out|apply ba_|apply bn_|apply bd_)|exact HB.out))) : w.heap.size ≤ gb347));have n3_:=mk_ ((by rw [hg];exact (bz_ (by repeat (first|(with_reducible first|exact HB.out|apply ba_|apply bn_|apply bd_)|exact HB.out))) : w.heap.size ≤ gb347));clear HB;have HB:=n0_;have BK347:=n1_;have GW347:=n2_;have GE347:=n3_;clear n0_ n1_ n2_ n3_;clear hb hbox hg;have hcz5_0 : w4.cell? ⟨gb347,0,none⟩ = some (.int .i64 a0_0):=(bc_ BK347.out 0).trans rfl;have hcz5_1 : w4.cell? ⟨gb347,1,none⟩ = some (.slice A0_1 l0_1.length c0_1):=(bc_ BK347.out 1).trans rfl;have hcz5_2 : w4.cell? ⟨gb347,2,none⟩ = some (.slice A0_2 l0_2.length c0_2):=(bc_ BK347.out 2).trans rfl;have hcz5_3 : w4.cell? ⟨gb347,3,none⟩ = some (.slice A0_3 l0_3.length c0_3):=(bc_ BK347.out 3).trans rfl;have hfz5_0:=bf_ BK347.out 0;have hfz5_1:=bf_ BK347.out 1;have hfz5_2:=bf_ BK347.out 2;have hfz5_3:=bf_ BK347.out 3)|((with_reducible refine gate_callee (f:=40) rfl ?_);refine goesL_ (some 10) rfl rfl Try.func40 (by kernel_rfl) rfl #[.int .i64 a1,.int .i64 0,.int .i64 (wrap64 ((l0_2.length : Int) - 1))] rfl (by (try simp only [List.map_toArray,List.map_cons,List.map_nil]);first|done|rfl|(simp only [List.length_drop,List.length_take];rfl)) ?_;(with_reducible refine (spec_l1In.calls a1 0 (wrap64 ((l0_2.length : Int) - 1)) t348 _ A3.out).mono ?_);rintro e w' ⟨rfl,⟨nd,rfl⟩⟩;refine ⟨_,rfl,?_⟩))
 go_ret
 exact ⟨by first|rfl|(simp [errW_none,errW_some] <;> rfl)|(simp [*,errW_none,errW_some] <;> rfl),by repeat (first|(with_reducible first|exact HB.out|apply ba_|apply bn_|apply bd_|refine bs_ ?_ GE347.out)|exact HB.out)⟩

/-! ### spec_l7Joined: function 57 -/
mutual
def spec_l7Joined.l0 : Nat → List (S51) → List Bool → Int → Int → Option (List Bool)
 | 0,_,_,_,_ => none
 | k + 1,x1,x7,x14,x15 => if x15 < x14 then (spec_l7Joined.l1 k x1 x7 0 x14 x15) else (some x7)
def spec_l7Joined.l1 : Nat → List (S51) → List Bool → Int → Int → Int → Option (List Bool)
 | 0,_,_,_,_,_ => none
 | k + 1,x1,x7,x8,x14,x15 => if x8 < (x1.length : Int) then (if 0 ≤ x8 then (if 0 ≤ ((rd_T51 x1 x8).f0) then (if ((rd_T51 x1 x8).f0) < (x7.length : Int) then (if rdOf false x7 ((rd_T51 x1 x8).f0) = true then (if 0 ≤ ((rd_T51 x1 x8).f1) then (if ((rd_T51 x1 x8).f1) < (x7.length : Int) then (spec_l7Joined.l1 k x1 ((x7.set (((rd_T51 x1 x8).f0) : Int).toNat true).set (((rd_T51 x1 x8).f1) : Int).toNat true) (wrap64 (x8 + 1)) x14 x15) else (none)) else (none)) else (if 0 ≤ ((rd_T51 x1 x8).f1) then (if ((rd_T51 x1 x8).f1) < (x7.length : Int) then (if rdOf false x7 ((rd_T51 x1 x8).f1) = true then (spec_l7Joined.l1 k x1 ((x7.set (((rd_T51 x1 x8).f0) : Int).toNat true).set (((rd_T51 x1 x8).f1) : Int).toNat true) (wrap64 (x8 + 1)) x14 x15) else (spec_l7Joined.l1 k x1 x7 (wrap64 (x8 + 1)) x14 x15)) else (none)) else (none))) else (none)) else (none)) else (none)) else (spec_l7Joined.l0 k x1 x7 x14 (wrap64 (x15 + 1)))
end
def spec_l7Joined.f (k : Nat) (a0 : Int) (l1 : List (S51)) (a2 : Int) : Option (List Bool):=if 0 ≤ a0 then (if (a0 : Int).toNat ≤ 281474976710656 then ((some (List.replicate (a0 : Int).toNat false : List Bool)).bind fun y349 => (if 0 ≤ a2 then (if a2 < (y349.length : Int) then (spec_l7Joined.l0 k l1 (y349.set (a2 : Int).toNat true) a0 0) else (none)) else (none))) else (none)) else (none)
theorem spec_l7Joined.mono_l : ∀ k,(∀ y0 y1 y2 y3,LeO (spec_l7Joined.l0 k y0 y1 y2 y3) (spec_l7Joined.l0 (k + 1) y0 y1 y2 y3)) ∧ (∀ y0 y1 y2 y3 y4,LeO (spec_l7Joined.l1 k y0 y1 y2 y3 y4) (spec_l7Joined.l1 (k + 1) y0 y1 y2 y3 y4))
 | 0 => ⟨fun _ _ _ _ r h => by simp [spec_l7Joined.l0] at h,fun _ _ _ _ _ r h => by simp [spec_l7Joined.l1] at h⟩
 | k + 1 => by
  obtain ⟨ih0,ih1⟩:=spec_l7Joined.mono_l k
  refine ⟨?_,?_⟩
  ·intro y0 y1 y2 y3
   unfold spec_l7Joined.l0
   repeat' first
   | (with_reducible exact ih0 _ _ _ _)
   | (with_reducible exact ih1 _ _ _ _ _)
   | (with_reducible exact LeO.refl _)
   | (with_reducible exact LeO.none _)
   | (with_reducible refine LeO.ite ?_ ?_)
   | (with_reducible refine LeO.bind ?_ (fun _ => ?_))
   | exact ih0 _ _ _ _
   | exact ih1 _ _ _ _ _
   | exact LeO.none _
   | refine LeO.ite ?_ ?_
   | refine LeO.bind ?_ (fun _ => ?_)
  ·intro y0 y1 y2 y3 y4
   unfold spec_l7Joined.l1
   repeat' first
   | (with_reducible exact ih0 _ _ _ _)
   | (with_reducible exact ih1 _ _ _ _ _)
   | (with_reducible exact LeO.refl _)
   | (with_reducible exact LeO.none _)
   | (with_reducible refine LeO.ite ?_ ?_)
   | (with_reducible refine LeO.bind ?_ (fun _ => ?_))
   | exact ih0 _ _ _ _
   | exact ih1 _ _ _ _ _
   | exact LeO.none _
   | refine LeO.ite ?_ ?_
   | refine LeO.bind ?_ (fun _ => ?_)
theorem spec_l7Joined.mono : ∀ a0 a1 a2 k,LeO (spec_l7Joined.f k a0 a1 a2) (spec_l7Joined.f (k + 1) a0 a1 a2):=by
 intro a0 a1 a2 k
 obtain ⟨ih0,ih1⟩:=spec_l7Joined.mono_l k
 unfold spec_l7Joined.f
 repeat' first
   | (with_reducible exact ih0 _ _ _ _)
   | (with_reducible exact ih1 _ _ _ _ _)
   | (with_reducible exact LeO.refl _)
   | (with_reducible exact LeO.none _)
   | (with_reducible refine LeO.ite ?_ ?_)
   | (with_reducible refine LeO.bind ?_ (fun _ => ?_))
   | exact ih0 _ _ _ _
   | exact ih1 _ _ _ _ _
   | exact LeO.none _
   | refine LeO.ite ?_ ?_
   | refine LeO.bind ?_ (fun _ => ?_)
set_option maxHeartbeats 8000000 in
set_option maxRecDepth 100000 in
theorem spec_l7Joined.calls (k : Nat) (a0 : Int) (A1 : Option Addr) (c1 : Nat) (l1 : List (S51)) (a2 : Int) (r : List Bool) (w : World) (hr1 : Kd.C k51 w A1 l1.length l1) (hc1 : l1.length ≤ c1) (h : spec_l7Joined.f k a0 l1 a2 = some r) :
  Calls Try.prog 57 #[.int .i64 a0,.slice A1 l1.length c1,.int .i64 a2] w fun e w' => ∃ v0_ : Value,e = .returned (v0_) ∧ Kd.R Kd.bool 4 w' w.heap.size (fun _ => True) v0_ r ∧ Below w.heap.size w w':=by
 have HR1:=mk_ hr1
 have HC1:=mk_ hc1
 clear hr1 hc1
 have HB:=mk_ (Below.refl w.heap.size w)
 have H : (if 0 ≤ a0 then (if (a0 : Int).toNat ≤ 281474976710656 then ((some (List.replicate (a0 : Int).toNat false : List Bool)).bind fun y349 => (if 0 ≤ a2 then (if a2 < (y349.length : Int) then (spec_l7Joined.l0 k l1 (y349.set (a2 : Int).toNat true) a0 0) else (none)) else (none))) else (none)) else (none)) = some r:=h
 clear h
 by_cases c4 : 0 ≤ a0
 ·rw [if_pos c4] at H
  have c4b0:=eq_true c4
  have c4b1 : decide (0 ≤ a0) = true:=decide_eq_true c4
  clear c4
  by_cases c5 : (a0 : Int).toNat ≤ 281474976710656
  ·rw [if_pos c5] at H
   have c5b0:=eq_true c5
   have c5b1 : decide ((a0 : Int).toNat ≤ 281474976710656) = true:=decide_eq_true c5
   clear c5
   obtain ⟨y349,hy349⟩ : ∃ y_ : List Bool,y_ = (List.replicate (a0 : Int).toNat false):=⟨_,rfl⟩
   replace H : (if 0 ≤ a2 then (if a2 < (y349.length : Int) then (spec_l7Joined.l0 k l1 (y349.set (a2 : Int).toNat true) a0 0) else (none)) else (none)) = some r:=by first|(rw [hy349];with_reducible exact H)|(have H2_:=(Option.bind_some _ _).symm.trans H;rw [hy349];with_reducible exact H2_)|(have H2_:=(Option.bind_some _ _).symm.trans H;with_reducible exact H2_)|with_reducible exact H|(rw [hy349];exact H)|exact H
   have Ny349:=mk_ hy349
   clear hy349
   by_cases c6 : 0 ≤ a2
   ·rw [if_pos c6] at H
    have c6b0 : decide (0 ≤ a2) = true:=decide_eq_true c6
    clear c6
    by_cases c7 : a2 < (y349.length : Int)
    ·rw [if_pos c7] at H
     have c7b0 : decide (a2 < (y349.length : Int)) = true:=decide_eq_true c7
     clear c7
     obtain ⟨y352,hy352⟩ : ∃ y_ : List Bool,y_ = (y349.set (a2 : Int).toNat true):=⟨_,rfl⟩
     replace H : (spec_l7Joined.l0 k l1 y352 a0 0) = some r:=by first|(rw [hy352];with_reducible exact H)|(have H2_:=(Option.bind_some _ _).symm.trans H;rw [hy352];with_reducible exact H2_)|(have H2_:=(Option.bind_some _ _).symm.trans H;with_reducible exact H2_)|with_reducible exact H|(rw [hy352];exact H)|exact H
     have Ny352:=mk_ hy352
     clear hy352
     have H':=mk_ H
     clear H
     go_enter Try.func57,Try.ntmps57
     go_wp2_with (first|((with_reducible refine gate_dst (N:=10) rfl ?_);refine Kd.R_make Kd.bool _ 4 rfl (N:=10) rfl 67 _ _ rfl a0 rfl rfl Try.underlying67 (.bool false) 1 info4 rfl (by decide) (by omega) false (ok:=fun _ => True) (okp:=fun _ => True) rfl (fun _ hk => hk) trivial (od_ (by first|(with_reducible assumption)|assumption)) (Nat.le_trans (Nat.mul_le_mul_right _ (od_ (by first|(with_reducible assumption)|assumption) : a0.toNat ≤ 281474976710656)) (by omega)) (Below.refl _ _) (Nat.le_refl _) ?_;intro v350 w9 ho10 hb hg_ hnew_;clear hg_ hnew_;(first|rw [← Ny349.out] at ho10|(simp only [Int.reduceToNat] at ho10;rw [← Ny349.out] at ho10));have n0_:=mk_ (Kd.R_lower ho10 (bz_ (by repeat (first|(with_reducible first|exact HB.out|apply ba_|apply bn_|apply bd_)|exact HB.out))));have n1_:=mk_ (st_ (by repeat (first|(with_reducible first|exact HB.out|apply ba_|apply bn_|apply bd_)|exact HB.out)) hb);clear HB;have HO351:=n0_;have HB:=n1_;clear n0_ n1_;clear hb ho10;have p8 : 0 ≤ (a2 : Int):=od_ (by first|(with_reducible assumption)|assumption);have q8 : (a2 : Int) < ((y349.length : Int) : Int):=od_ (by first|(with_reducible assumption)|assumption);obtain ⟨go8,co8,eo8,gb8,gl8,cl8,HG8⟩:=Kd.R_form HO351.out (by omega);(first|cases eo8|(injection eo8 with ea_ en_ ec_;(first|subst ea_|(injection ea_ with ea_;subst ea_));subst ec_;clear en_));have GB8:=mk_ gb8;have GG8:=mk_ HG8;clear gb8 gl8 HG8;obtain ⟨hx8_0,hf8_0⟩:=Kd.R_celln false HO351.out (a2 : Int) p8 q8;replace p8:=eq_true p8;replace q8:=eq_true q8;obtain ⟨hy11_,hz11_⟩:=Kd.R_celln false HO351.out (a2 : Int) (od_ (by first|(with_reducible assumption)|assumption)) (od_ (by first|(with_reducible assumption)|assumption));have HP11:=Kd.R_putg HO351.out (a2 : Int) true)|((with_reducible refine gate_store (t:=4) (p:=13) rfl ?_);refine store_event (t:=4) (p:=13) (v:=?vo_w12) (w1:=(w9.setCell ⟨go8,(a2 : Int).toNat,none⟩ (.bool true))) ?hg ?ho ?hn ?hr ?_;(case ho => rfl);(case hg => rfl);(case hn => rfl);(case hr => first|(go_simp;done)|(go_simp;rfl));intro w12 hw;have hg : w9.grownBy w12 (some go8):=(by rw [hw];exact HP11.2);have hp_ : Kd.R Kd.bool 4 w12 w.heap.size (fun _ => True) (.slice (some ⟨go8,0,none⟩) y349.length co8) y352:=(by rw [hw,Ny352.out];exact HP11.1);clear HP11;have n0_:=mk_ (hp_);have n1_:=mk_ ((by rw [hw];exact bs_ (HB.out) GB8.out : Below w.heap.size w w12));clear HO351;clear HB;have HO351:=n0_;have HB:=n1_;clear n0_ n1_;clear hg hw hp_))
     go_loopg [15] k (fun kq v15 w' => ∃ (x7_1 : List Bool) (x15_1 : Int),v15 = .int .i64 x15_1 ∧ Aside0 (spec_l7Joined.l0 kq l1 x7_1 a0 x15_1 = some r) ∧ Aside0 (kq ≤ k) ∧ Aside0 (Kd.R Kd.bool 4 w' w.heap.size (fun _ => True) (.slice (some ⟨go8,0,none⟩) y349.length co8) x7_1) ∧ Aside0 (Below w.heap.size w w'))
     case atStart => exact ⟨(y352),(0),(by first|rfl|(simp;done)|(simp [*];done)),H',⟨Nat.le_refl _⟩,⟨by (with_reducible repeat (first|apply ra_|apply rn_|apply rd_));exact HO351.out⟩,⟨by repeat (first|(with_reducible first|exact HB.out|apply ba_|apply bn_|apply bd_)|exact HB.out)⟩⟩
     case round =>
      clear H'
      try clear c1
      try clear p2
      try clear c4
      try clear c4b0
      try clear c4b1
      try clear c5
      try clear c5b0
      try clear c5b1
      try clear c6
      try clear c6b0
      try clear c7
      try clear c7b0
      try clear p8
      try clear q8
      try clear hx8
      try clear hf8
      try clear hx8_0
      try clear p8
      try clear q8
      obtain ⟨x7_1,x15_1,rfl,HA,HK1,HO_7,HB⟩:=hrel
      have hl7_1:=(rr_ HO_7.out).1
      rw [hl7_1] at HO_7
      (try simp only [hl7_1])
      cases gk with
      | zero => exact absurd HA.out (by simp [spec_l7Joined.l0])
      | succ k1 =>
       have H:=HA.out
       clear HA
       simp only [spec_l7Joined.l0] at H
       by_cases c13 : x15_1 < a0
       ·rw [if_pos c13] at H
        have c13b0 : decide (x15_1 < a0) = true:=decide_eq_true c13
        clear c13
        have H':=mk_ H
        clear H
        go_wp2
        go_loopg [8] k1 (fun kq v8 w' => ∃ (x7_2 : List Bool) (x8_2 : Int),v8 = .int .i64 x8_2 ∧ Aside0 (spec_l7Joined.l1 kq l1 x7_2 x8_2 a0 x15_1 = some r) ∧ Aside0 (kq ≤ k1) ∧ Aside0 (Kd.R Kd.bool 4 w' w.heap.size (fun _ => True) (.slice (some ⟨go8,0,none⟩) x7_1.length co8) x7_2) ∧ Aside0 (Below w.heap.size w w'))
        case atStart => exact ⟨(x7_1),(0),(by first|rfl|(simp;done)|(simp [*];done)),H',⟨Nat.le_refl _⟩,⟨by (try simp only [hl7_1]);(with_reducible repeat (first|apply ra_|apply rn_|apply rd_));exact HO_7.out⟩,⟨by repeat (first|(with_reducible first|exact HB.out|apply ba_|apply bn_|apply bd_)|exact HB.out)⟩⟩
        case round =>
         clear H'
         try clear c1
         try clear p2
         try clear c4
         try clear c4b0
         try clear c4b1
         try clear c5
         try clear c5b0
         try clear c5b1
         try clear c6
         try clear c6b0
         try clear c7
         try clear c7b0
         try clear p8
         try clear q8
         try clear hx8
         try clear hf8
         try clear c13
         try clear c13b0
         try clear hx8_0
         try clear p2
         try clear p8
         try clear q8
         obtain ⟨x7_2,x8_2,rfl,HA,HK2,HO_7,HB⟩:=hrel
         have hl7_2:=(rr_ HO_7.out).1
         rw [hl7_2] at HO_7
         (try simp only [hl7_2])
         cases gk with
         | zero => exact absurd HA.out (by simp [spec_l7Joined.l1])
         | succ k2 =>
          have H:=HA.out
          clear HA
          simp only [spec_l7Joined.l1] at H
          by_cases c14 : x8_2 < (l1.length : Int)
          ·rw [if_pos c14] at H
           have c14b0 : decide (x8_2 < (l1.length : Int)) = true:=decide_eq_true c14
           clear c14
           by_cases c15 : 0 ≤ x8_2
           ·rw [if_pos c15] at H
            have c15b0 : decide (0 ≤ x8_2) = true:=decide_eq_true c15
            clear c15
            by_cases c16 : 0 ≤ ((rd_T51 l1 x8_2).f0)
            ·rw [if_pos c16] at H
             have c16b0 : decide (0 ≤ ((rd_T51 l1 x8_2).f0)) = true:=decide_eq_true c16
             clear c16
             by_cases c17 : ((rd_T51 l1 x8_2).f0) < (x7_2.length : Int)
             ·rw [if_pos c17] at H
              have c17b0 : decide (((rd_T51 l1 x8_2).f0) < (x7_2.length : Int)) = true:=decide_eq_true c17
              clear c17
              obtain ⟨bq18,hbq18⟩ : ∃ b_ : Bool,b_ = (rdOf false x7_2 ((rd_T51 l1 x8_2).f0)):=⟨_,rfl⟩
              replace H : (if bq18 = true then (if 0 ≤ ((rd_T51 l1 x8_2).f1) then (if ((rd_T51 l1 x8_2).f1) < (x7_2.length : Int) then (spec_l7Joined.l1 k2 l1 ((x7_2.set (((rd_T51 l1 x8_2).f0) : Int).toNat true).set (((rd_T51 l1 x8_2).f1) : Int).toNat true) (wrap64 (x8_2 + 1)) a0 x15_1) else (none)) else (none)) else (if 0 ≤ ((rd_T51 l1 x8_2).f1) then (if ((rd_T51 l1 x8_2).f1) < (x7_2.length : Int) then (if rdOf false x7_2 ((rd_T51 l1 x8_2).f1) = true then (spec_l7Joined.l1 k2 l1 ((x7_2.set (((rd_T51 l1 x8_2).f0) : Int).toNat true).set (((rd_T51 l1 x8_2).f1) : Int).toNat true) (wrap64 (x8_2 + 1)) a0 x15_1) else (spec_l7Joined.l1 k2 l1 x7_2 (wrap64 (x8_2 + 1)) a0 x15_1)) else (none)) else (none))) = some r:=by rw [← hbq18] at H;exact H
              have Nbq18:=mk_ hbq18
              clear hbq18
              by_cases c19 : bq18 = true
              ·subst c19
               have H1 : (if 0 ≤ ((rd_T51 l1 x8_2).f1) then (if ((rd_T51 l1 x8_2).f1) < (x7_2.length : Int) then (spec_l7Joined.l1 k2 l1 ((x7_2.set (((rd_T51 l1 x8_2).f0) : Int).toNat true).set (((rd_T51 l1 x8_2).f1) : Int).toNat true) (wrap64 (x8_2 + 1)) a0 x15_1) else (none)) else (none)) = some r:=by rw [if_pos rfl] at H;exact H
               clear H
               have H:=H1
               clear H1
               obtain ⟨y356,hy356⟩ : ∃ y_ : List Bool,y_ = (x7_2.set (((rd_T51 l1 x8_2).f0) : Int).toNat true):=⟨_,rfl⟩
               replace H : (if 0 ≤ ((rd_T51 l1 x8_2).f1) then (if ((rd_T51 l1 x8_2).f1) < (x7_2.length : Int) then (spec_l7Joined.l1 k2 l1 (y356.set (((rd_T51 l1 x8_2).f1) : Int).toNat true) (wrap64 (x8_2 + 1)) a0 x15_1) else (none)) else (none)) = some r:=by first|(rw [hy356];with_reducible exact H)|(have H2_:=(Option.bind_some _ _).symm.trans H;rw [hy356];with_reducible exact H2_)|(have H2_:=(Option.bind_some _ _).symm.trans H;with_reducible exact H2_)|with_reducible exact H|(rw [hy356];exact H)|exact H
               have Ny356:=mk_ hy356
               clear hy356
               by_cases c21 : 0 ≤ ((rd_T51 l1 x8_2).f1)
               ·rw [if_pos c21] at H
                have c21b0 : decide (0 ≤ ((rd_T51 l1 x8_2).f1)) = true:=decide_eq_true c21
                clear c21
                by_cases c22 : ((rd_T51 l1 x8_2).f1) < (x7_2.length : Int)
                ·rw [if_pos c22] at H
                 have c22b0 : decide (((rd_T51 l1 x8_2).f1) < (x7_2.length : Int)) = true:=decide_eq_true c22
                 clear c22
                 obtain ⟨y358,hy358⟩ : ∃ y_ : List Bool,y_ = (y356.set (((rd_T51 l1 x8_2).f1) : Int).toNat true):=⟨_,rfl⟩
                 replace H : (spec_l7Joined.l1 k2 l1 y358 (wrap64 (x8_2 + 1)) a0 x15_1) = some r:=by first|(rw [hy358];with_reducible exact H)|(have H2_:=(Option.bind_some _ _).symm.trans H;rw [hy358];with_reducible exact H2_)|(have H2_:=(Option.bind_some _ _).symm.trans H;with_reducible exact H2_)|with_reducible exact H|(rw [hy358];exact H)|exact H
                 have Ny358:=mk_ hy358
                 clear hy358
                 have H':=mk_ H
                 clear H
                 have p353 : 0 ≤ (x8_2 : Int):=od_ (by first|(with_reducible assumption)|assumption)
                 have q353 : x8_2 < (l1.length : Int):=od_ (by first|(with_reducible assumption)|assumption)
                 obtain ⟨ad353,e353,hx353_0,hx353_1,hx353_2⟩:=at_T51 HR1.out x8_2 p353 q353
                 cases e353
                 replace hx353_0:=(HB.out.cell (wl_ w _ hx353_0)).trans hx353_0
                 replace hx353_1:=(HB.out.cell (wl_ w _ hx353_1)).trans hx353_1
                 replace hx353_2:=(HB.out.cell (wl_ w _ hx353_2)).trans hx353_2
                 replace p353:=eq_true p353
                 replace q353:=eq_true q353
                 have p354 : 0 ≤ (((rd_T51 l1 x8_2).f0) : Int):=od_ (by first|(with_reducible assumption)|assumption)
                 have q354 : ((rd_T51 l1 x8_2).f0) < (x7_2.length : Int):=od_ (by first|(with_reducible assumption)|assumption)
                 obtain ⟨ad354,e354,hx354_0⟩:=Kd.at_bool (rr_ HO_7.out).2.2 ((rd_T51 l1 x8_2).f0) p354 q354
                 (try rw [← Nbq18.out] at hx354_0)
                 obtain rfl : (⟨go8,0,none⟩ : Addr) = ad354:=(by injection e354)
                 (first|simp only [add_plain] at hx354_0|simp only [add_at] at hx354_0|simp only [Addr.add,Nat.zero_add] at hx354_0|skip)
                 replace p354:=eq_true p354
                 replace q354:=eq_true q354
                 have p355 : 0 ≤ (x8_2 : Int):=od_ (by first|(with_reducible assumption)|assumption)
                 have q355 : x8_2 < (l1.length : Int):=od_ (by first|(with_reducible assumption)|assumption)
                 obtain ⟨ad355,e355,hx355_0,hx355_1,hx355_2⟩:=at_T51 HR1.out x8_2 p355 q355
                 obtain rfl : ad353 = ad355:=(by injection e355)
                 replace hx355_0:=(HB.out.cell (wl_ w _ hx355_0)).trans hx355_0
                 replace hx355_1:=(HB.out.cell (wl_ w _ hx355_1)).trans hx355_1
                 replace hx355_2:=(HB.out.cell (wl_ w _ hx355_2)).trans hx355_2
                 replace p355:=eq_true p355
                 replace q355:=eq_true q355
                 have p20 : 0 ≤ (((rd_T51 l1 x8_2).f0) : Int):=od_ (by first|(with_reducible assumption)|assumption)
                 have q20 : (((rd_T51 l1 x8_2).f0) : Int) < ((x7_2.length : Int) : Int):=od_ (by first|(with_reducible assumption)|assumption)
                 obtain ⟨hx20_0,hf20_0⟩:=Kd.R_celln false HO_7.out (((rd_T51 l1 x8_2).f0) : Int) p20 q20
                 replace p20:=eq_true p20
                 replace q20:=eq_true q20
                 have HP24:=Kd.R_putg HO_7.out (((rd_T51 l1 x8_2).f0) : Int) true
                 go_wp2_with (first|((with_reducible refine gate_store (t:=4) (p:=47) rfl ?_);refine store_event (t:=4) (p:=47) (v:=?vo_w25) (w1:=(wr.setCell ⟨go8,(((rd_T51 l1 x8_2).f0) : Int).toNat,none⟩ (.bool true))) ?hg ?ho ?hn ?hr ?_;(case ho => rfl);(case hg => rfl);(case hn => rfl);(case hr => first|(go_simp;done)|(go_simp;rfl));intro w25 hw;have hg : wr.grownBy w25 (some go8):=(by rw [hw];exact HP24.2);have hp_ : Kd.R Kd.bool 4 w25 w.heap.size (fun _ => True) (.slice (some ⟨go8,0,none⟩) x7_2.length co8) y356:=(by rw [hw,Ny356.out];exact HP24.1);clear HP24;have n0_:=mk_ (hp_);have n1_:=mk_ ((by rw [hw];exact bs_ (HB.out) GB8.out : Below w.heap.size w w25));clear HO_7;clear HB;have HO_7:=n0_;have HB:=n1_;clear n0_ n1_;clear hg hw hp_;have p357 : 0 ≤ (x8_2 : Int):=od_ (by first|(with_reducible assumption)|assumption);have q357 : x8_2 < (l1.length : Int):=od_ (by first|(with_reducible assumption)|assumption);obtain ⟨ad357,e357,hx357_0,hx357_1,hx357_2⟩:=at_T51 HR1.out x8_2 p357 q357;obtain rfl : ad353 = ad357:=(by injection e357);replace hx357_0:=(HB.out.cell (wl_ w _ hx357_0)).trans hx357_0;replace hx357_1:=(HB.out.cell (wl_ w _ hx357_1)).trans hx357_1;replace hx357_2:=(HB.out.cell (wl_ w _ hx357_2)).trans hx357_2;replace p357:=eq_true p357;replace q357:=eq_true q357;have p23 : 0 ≤ (((rd_T51 l1 x8_2).f1) : Int):=od_ (by first|(with_reducible assumption)|assumption);have q23 : (((rd_T51 l1 x8_2).f1) : Int) < ((x7_2.length : Int) : Int):=od_ (by first|(with_reducible assumption)|assumption);obtain ⟨hx23_0,hf23_0⟩:=Kd.R_celln false HO_7.out (((rd_T51 l1 x8_2).f1) : Int) p23 q23;replace p23:=eq_true p23;replace q23:=eq_true q23;obtain ⟨hy26_,hz26_⟩:=Kd.R_celln false HO_7.out (((rd_T51 l1 x8_2).f1) : Int) (od_ (by first|(with_reducible assumption)|assumption)) (od_ (by first|(with_reducible assumption)|assumption));have HP26:=Kd.R_putg HO_7.out (((rd_T51 l1 x8_2).f1) : Int) true)|((with_reducible refine gate_store (t:=4) (p:=54) rfl ?_);refine store_event (t:=4) (p:=54) (v:=?vo_w27) (w1:=(w25.setCell ⟨go8,(((rd_T51 l1 x8_2).f1) : Int).toNat,none⟩ (.bool true))) ?hg ?ho ?hn ?hr ?_;(case ho => rfl);(case hg => rfl);(case hn => rfl);(case hr => first|(go_simp;done)|(go_simp;rfl));intro w27 hw;have hg : w25.grownBy w27 (some go8):=(by rw [hw];exact HP26.2);have hp_ : Kd.R Kd.bool 4 w27 w.heap.size (fun _ => True) (.slice (some ⟨go8,0,none⟩) x7_2.length co8) y358:=(by rw [hw,Ny358.out];exact HP26.1);clear HP26;have n0_:=mk_ (hp_);have n1_:=mk_ ((by rw [hw];exact bs_ (HB.out) GB8.out : Below w.heap.size w w27));clear HO_7;clear HB;have HO_7:=n0_;have HB:=n1_;clear n0_ n1_;clear hg hw hp_))
                 (try simp only [← hl7_2])
                 go_roundg k2
                 case measure => have:=HK1.out;have:=HK2.out;omega
                 case rel => exact ⟨(y358),(wrap64 (x8_2 + 1)),(by first|rfl|(simp;done)|(simp [*];done)),H',⟨by have:=HK1.out;have:=HK2.out;omega⟩,⟨by (try simp only [hl7_1]);(try simp only [hl7_2]);(with_reducible repeat (first|apply ra_|apply rn_|apply rd_));exact HO_7.out⟩,⟨by repeat (first|(with_reducible first|exact HB.out|apply ba_|apply bn_|apply bd_)|exact HB.out)⟩⟩
                ·rw [if_neg c22] at H
                 exact absurd H (by simp)
               ·rw [if_neg c21] at H
                exact absurd H (by simp)
              ·replace c19:=Bool.eq_false_iff.mpr c19
               subst c19
               have H1 : (if 0 ≤ ((rd_T51 l1 x8_2).f1) then (if ((rd_T51 l1 x8_2).f1) < (x7_2.length : Int) then (if rdOf false x7_2 ((rd_T51 l1 x8_2).f1) = true then (spec_l7Joined.l1 k2 l1 ((x7_2.set (((rd_T51 l1 x8_2).f0) : Int).toNat true).set (((rd_T51 l1 x8_2).f1) : Int).toNat true) (wrap64 (x8_2 + 1)) a0 x15_1) else (spec_l7Joined.l1 k2 l1 x7_2 (wrap64 (x8_2 + 1)) a0 x15_1)) else (none)) else (none)) = some r:=by rw [if_neg (show ¬ (false = true) by decide)] at H;exact H
               clear H
               have H:=H1
               clear H1
               by_cases c28 : 0 ≤ ((rd_T51 l1 x8_2).f1)
               ·rw [if_pos c28] at H
                have c28b0 : decide (0 ≤ ((rd_T51 l1 x8_2).f1)) = true:=decide_eq_true c28
                clear c28
                by_cases c29 : ((rd_T51 l1 x8_2).f1) < (x7_2.length : Int)
                ·rw [if_pos c29] at H
                 have c29b0 : decide (((rd_T51 l1 x8_2).f1) < (x7_2.length : Int)) = true:=decide_eq_true c29
                 clear c29
                 obtain ⟨bq30,hbq30⟩ : ∃ b_ : Bool,b_ = (rdOf false x7_2 ((rd_T51 l1 x8_2).f1)):=⟨_,rfl⟩
                 replace H : (if bq30 = true then (spec_l7Joined.l1 k2 l1 ((x7_2.set (((rd_T51 l1 x8_2).f0) : Int).toNat true).set (((rd_T51 l1 x8_2).f1) : Int).toNat true) (wrap64 (x8_2 + 1)) a0 x15_1) else (spec_l7Joined.l1 k2 l1 x7_2 (wrap64 (x8_2 + 1)) a0 x15_1)) = some r:=by rw [← hbq30] at H;exact H
                 have Nbq30:=mk_ hbq30
                 clear hbq30
                 by_cases c31 : bq30 = true
                 ·subst c31
                  have H1 : (spec_l7Joined.l1 k2 l1 ((x7_2.set (((rd_T51 l1 x8_2).f0) : Int).toNat true).set (((rd_T51 l1 x8_2).f1) : Int).toNat true) (wrap64 (x8_2 + 1)) a0 x15_1) = some r:=by rw [if_pos rfl] at H;exact H
                  clear H
                  have H:=H1
                  clear H1
                  obtain ⟨y362,hy362⟩ : ∃ y_ : List Bool,y_ = (x7_2.set (((rd_T51 l1 x8_2).f0) : Int).toNat true):=⟨_,rfl⟩
                  replace H : (spec_l7Joined.l1 k2 l1 (y362.set (((rd_T51 l1 x8_2).f1) : Int).toNat true) (wrap64 (x8_2 + 1)) a0 x15_1) = some r:=by first|(rw [hy362];with_reducible exact H)|(have H2_:=(Option.bind_some _ _).symm.trans H;rw [hy362];with_reducible exact H2_)|(have H2_:=(Option.bind_some _ _).symm.trans H;with_reducible exact H2_)|with_reducible exact H|(rw [hy362];exact H)|exact H
                  have Ny362:=mk_ hy362
                  clear hy362
                  obtain ⟨y364,hy364⟩ : ∃ y_ : List Bool,y_ = (y362.set (((rd_T51 l1 x8_2).f1) : Int).toNat true):=⟨_,rfl⟩
                  replace H : (spec_l7Joined.l1 k2 l1 y364 (wrap64 (x8_2 + 1)) a0 x15_1) = some r:=by first|(rw [hy364];with_reducible exact H)|(have H2_:=(Option.bind_some _ _).symm.trans H;rw [hy364];with_reducible exact H2_)|(have H2_:=(Option.bind_some _ _).symm.trans H;with_reducible exact H2_)|with_reducible exact H|(rw [hy364];exact H)|exact H
                  have Ny364:=mk_ hy364
                  clear hy364
                  have H':=mk_ H
                  clear H
                  have p353 : 0 ≤ (x8_2 : Int):=od_ (by first|(with_reducible assumption)|assumption)
                  have q353 : x8_2 < (l1.length : Int):=od_ (by first|(with_reducible assumption)|assumption)
                  obtain ⟨ad353,e353,hx353_0,hx353_1,hx353_2⟩:=at_T51 HR1.out x8_2 p353 q353
                  cases e353
                  replace hx353_0:=(HB.out.cell (wl_ w _ hx353_0)).trans hx353_0
                  replace hx353_1:=(HB.out.cell (wl_ w _ hx353_1)).trans hx353_1
                  replace hx353_2:=(HB.out.cell (wl_ w _ hx353_2)).trans hx353_2
                  replace p353:=eq_true p353
                  replace q353:=eq_true q353
                  have p354 : 0 ≤ (((rd_T51 l1 x8_2).f0) : Int):=od_ (by first|(with_reducible assumption)|assumption)
                  have q354 : ((rd_T51 l1 x8_2).f0) < (x7_2.length : Int):=od_ (by first|(with_reducible assumption)|assumption)
                  obtain ⟨ad354,e354,hx354_0⟩:=Kd.at_bool (rr_ HO_7.out).2.2 ((rd_T51 l1 x8_2).f0) p354 q354
                  (try rw [← Nbq18.out] at hx354_0)
                  (try rw [← Nbq30.out] at hx354_0)
                  obtain rfl : (⟨go8,0,none⟩ : Addr) = ad354:=(by injection e354)
                  (first|simp only [add_plain] at hx354_0|simp only [add_at] at hx354_0|simp only [Addr.add,Nat.zero_add] at hx354_0|skip)
                  replace p354:=eq_true p354
                  replace q354:=eq_true q354
                  have p359 : 0 ≤ (x8_2 : Int):=od_ (by first|(with_reducible assumption)|assumption)
                  have q359 : x8_2 < (l1.length : Int):=od_ (by first|(with_reducible assumption)|assumption)
                  obtain ⟨ad359,e359,hx359_0,hx359_1,hx359_2⟩:=at_T51 HR1.out x8_2 p359 q359
                  obtain rfl : ad353 = ad359:=(by injection e359)
                  replace hx359_0:=(HB.out.cell (wl_ w _ hx359_0)).trans hx359_0
                  replace hx359_1:=(HB.out.cell (wl_ w _ hx359_1)).trans hx359_1
                  replace hx359_2:=(HB.out.cell (wl_ w _ hx359_2)).trans hx359_2
                  replace p359:=eq_true p359
                  replace q359:=eq_true q359
                  have p360 : 0 ≤ (((rd_T51 l1 x8_2).f1) : Int):=od_ (by first|(with_reducible assumption)|assumption)
                  have q360 : ((rd_T51 l1 x8_2).f1) < (x7_2.length : Int):=od_ (by first|(with_reducible assumption)|assumption)
                  obtain ⟨ad360,e360,hx360_0⟩:=Kd.at_bool (rr_ HO_7.out).2.2 ((rd_T51 l1 x8_2).f1) p360 q360
                  (try rw [← Nbq18.out] at hx360_0)
                  (try rw [← Nbq30.out] at hx360_0)
                  obtain rfl : (⟨go8,0,none⟩ : Addr) = ad360:=(by injection e360)
                  (first|simp only [add_plain] at hx360_0|simp only [add_at] at hx360_0|simp only [Addr.add,Nat.zero_add] at hx360_0|skip)
                  replace p360:=eq_true p360
                  replace q360:=eq_true q360
                  have p361 : 0 ≤ (x8_2 : Int):=od_ (by first|(with_reducible assumption)|assumption)
                  have q361 : x8_2 < (l1.length : Int):=od_ (by first|(with_reducible assumption)|assumption)
                  obtain ⟨ad361,e361,hx361_0,hx361_1,hx361_2⟩:=at_T51 HR1.out x8_2 p361 q361
                  obtain rfl : ad353 = ad361:=(by injection e361)
                  replace hx361_0:=(HB.out.cell (wl_ w _ hx361_0)).trans hx361_0
                  replace hx361_1:=(HB.out.cell (wl_ w _ hx361_1)).trans hx361_1
                  replace hx361_2:=(HB.out.cell (wl_ w _ hx361_2)).trans hx361_2
                  replace p361:=eq_true p361
                  replace q361:=eq_true q361
                  have p32 : 0 ≤ (((rd_T51 l1 x8_2).f0) : Int):=od_ (by first|(with_reducible assumption)|assumption)
                  have q32 : (((rd_T51 l1 x8_2).f0) : Int) < ((x7_2.length : Int) : Int):=od_ (by first|(with_reducible assumption)|assumption)
                  obtain ⟨hx32_0,hf32_0⟩:=Kd.R_celln false HO_7.out (((rd_T51 l1 x8_2).f0) : Int) p32 q32
                  replace p32:=eq_true p32
                  replace q32:=eq_true q32
                  have HP34:=Kd.R_putg HO_7.out (((rd_T51 l1 x8_2).f0) : Int) true
                  go_wp2_with (first|((with_reducible refine gate_store (t:=4) (p:=47) rfl ?_);refine store_event (t:=4) (p:=47) (v:=?vo_w35) (w1:=(wr.setCell ⟨go8,(((rd_T51 l1 x8_2).f0) : Int).toNat,none⟩ (.bool true))) ?hg ?ho ?hn ?hr ?_;(case ho => rfl);(case hg => rfl);(case hn => rfl);(case hr => first|(go_simp;done)|(go_simp;rfl));intro w35 hw;have hg : wr.grownBy w35 (some go8):=(by rw [hw];exact HP34.2);have hp_ : Kd.R Kd.bool 4 w35 w.heap.size (fun _ => True) (.slice (some ⟨go8,0,none⟩) x7_2.length co8) y362:=(by rw [hw,Ny362.out];exact HP34.1);clear HP34;have n0_:=mk_ (hp_);have n1_:=mk_ ((by rw [hw];exact bs_ (HB.out) GB8.out : Below w.heap.size w w35));clear HO_7;clear HB;have HO_7:=n0_;have HB:=n1_;clear n0_ n1_;clear hg hw hp_;have p363 : 0 ≤ (x8_2 : Int):=od_ (by first|(with_reducible assumption)|assumption);have q363 : x8_2 < (l1.length : Int):=od_ (by first|(with_reducible assumption)|assumption);obtain ⟨ad363,e363,hx363_0,hx363_1,hx363_2⟩:=at_T51 HR1.out x8_2 p363 q363;obtain rfl : ad353 = ad363:=(by injection e363);replace hx363_0:=(HB.out.cell (wl_ w _ hx363_0)).trans hx363_0;replace hx363_1:=(HB.out.cell (wl_ w _ hx363_1)).trans hx363_1;replace hx363_2:=(HB.out.cell (wl_ w _ hx363_2)).trans hx363_2;replace p363:=eq_true p363;replace q363:=eq_true q363;have p33 : 0 ≤ (((rd_T51 l1 x8_2).f1) : Int):=od_ (by first|(with_reducible assumption)|assumption);have q33 : (((rd_T51 l1 x8_2).f1) : Int) < ((x7_2.length : Int) : Int):=od_ (by first|(with_reducible assumption)|assumption);obtain ⟨hx33_0,hf33_0⟩:=Kd.R_celln false HO_7.out (((rd_T51 l1 x8_2).f1) : Int) p33 q33;replace p33:=eq_true p33;replace q33:=eq_true q33;obtain ⟨hy36_,hz36_⟩:=Kd.R_celln false HO_7.out (((rd_T51 l1 x8_2).f1) : Int) (od_ (by first|(with_reducible assumption)|assumption)) (od_ (by first|(with_reducible assumption)|assumption));have HP36:=Kd.R_putg HO_7.out (((rd_T51 l1 x8_2).f1) : Int) true)|((with_reducible refine gate_store (t:=4) (p:=54) rfl ?_);refine store_event (t:=4) (p:=54) (v:=?vo_w37) (w1:=(w35.setCell ⟨go8,(((rd_T51 l1 x8_2).f1) : Int).toNat,none⟩ (.bool true))) ?hg ?ho ?hn ?hr ?_;(case ho => rfl);(case hg => rfl);(case hn => rfl);(case hr => first|(go_simp;done)|(go_simp;rfl));intro w37 hw;have hg : w35.grownBy w37 (some go8):=(by rw [hw];exact HP36.2);have hp_ : Kd.R Kd.bool 4 w37 w.heap.size (fun _ => True) (.slice (some ⟨go8,0,none⟩) x7_2.length co8) y364:=(by rw [hw,Ny364.out];exact HP36.1);clear HP36;have n0_:=mk_ (hp_);have n1_:=mk_ ((by rw [hw];exact bs_ (HB.out) GB8.out : Below w.heap.size w w37));clear HO_7;clear HB;have HO_7:=n0_;have HB:=n1_;clear n0_ n1_;clear hg hw hp_))
                  (try simp only [← hl7_2])
                  go_roundg k2
                  case measure => have:=HK1.out;have:=HK2.out;omega
                  case rel => exact ⟨(y364),(wrap64 (x8_2 + 1)),(by first|rfl|(simp;done)|(simp [*];done)),H',⟨by have:=HK1.out;have:=HK2.out;omega⟩,⟨by (try simp only [hl7_1]);(try simp only [hl7_2]);(with_reducible repeat (first|apply ra_|apply rn_|apply rd_));exact HO_7.out⟩,⟨by repeat (first|(with_reducible first|exact HB.out|apply ba_|apply bn_|apply bd_)|exact HB.out)⟩⟩
                 ·replace c31:=Bool.eq_false_iff.mpr c31
                  subst c31
                  have H1 : (spec_l7Joined.l1 k2 l1 x7_2 (wrap64 (x8_2 + 1)) a0 x15_1) = some r:=by rw [if_neg (show ¬ (false = true) by decide)] at H;exact H
                  clear H
                  have H:=H1
                  clear H1
                  have H':=mk_ H
                  clear H
                  have p353 : 0 ≤ (x8_2 : Int):=od_ (by first|(with_reducible assumption)|assumption)
                  have q353 : x8_2 < (l1.length : Int):=od_ (by first|(with_reducible assumption)|assumption)
                  obtain ⟨ad353,e353,hx353_0,hx353_1,hx353_2⟩:=at_T51 HR1.out x8_2 p353 q353
                  cases e353
                  replace hx353_0:=(HB.out.cell (wl_ w _ hx353_0)).trans hx353_0
                  replace hx353_1:=(HB.out.cell (wl_ w _ hx353_1)).trans hx353_1
                  replace hx353_2:=(HB.out.cell (wl_ w _ hx353_2)).trans hx353_2
                  replace p353:=eq_true p353
                  replace q353:=eq_true q353
                  have p354 : 0 ≤ (((rd_T51 l1 x8_2).f0) : Int):=od_ (by first|(with_reducible assumption)|assumption)
                  have q354 : ((rd_T51 l1 x8_2).f0) < (x7_2.length : Int):=od_ (by first|(with_reducible assumption)|assumption)
                  obtain ⟨ad354,e354,hx354_0⟩:=Kd.at_bool (rr_ HO_7.out).2.2 ((rd_T51 l1 x8_2).f0) p354 q354
                  (try rw [← Nbq18.out] at hx354_0)
                  (try rw [← Nbq30.out] at hx354_0)
                  obtain rfl : (⟨go8,0,none⟩ : Addr) = ad354:=(by injection e354)
                  (first|simp only [add_plain] at hx354_0|simp only [add_at] at hx354_0|simp only [Addr.add,Nat.zero_add] at hx354_0|skip)
                  replace p354:=eq_true p354
                  replace q354:=eq_true q354
                  have p359 : 0 ≤ (x8_2 : Int):=od_ (by first|(with_reducible assumption)|assumption)
                  have q359 : x8_2 < (l1.length : Int):=od_ (by first|(with_reducible assumption)|assumption)
                  obtain ⟨ad359,e359,hx359_0,hx359_1,hx359_2⟩:=at_T51 HR1.out x8_2 p359 q359
                  obtain rfl : ad353 = ad359:=(by injection e359)
                  replace hx359_0:=(HB.out.cell (wl_ w _ hx359_0)).trans hx359_0
                  replace hx359_1:=(HB.out.cell (wl_ w _ hx359_1)).trans hx359_1
                  replace hx359_2:=(HB.out.cell (wl_ w _ hx359_2)).trans hx359_2
                  replace p359:=eq_true p359
                  replace q359:=eq_true q359
                  have p360 : 0 ≤ (((rd_T51 l1 x8_2).f1) : Int):=od_ (by first|(with_reducible assumption)|assumption)
                  have q360 : ((rd_T51 l1 x8_2).f1) < (x7_2.length : Int):=od_ (by first|(with_reducible assumption)|assumption)
                  obtain ⟨ad360,e360,hx360_0⟩:=Kd.at_bool (rr_ HO_7.out).2.2 ((rd_T51 l1 x8_2).f1) p360 q360
                  (try rw [← Nbq18.out] at hx360_0)
                  (try rw [← Nbq30.out] at hx360_0)
                  obtain rfl : (⟨go8,0,none⟩ : Addr) = ad360:=(by injection e360)
                  (first|simp only [add_plain] at hx360_0|simp only [add_at] at hx360_0|simp only [Addr.add,Nat.zero_add] at hx360_0|skip)
                  replace p360:=eq_true p360
                  replace q360:=eq_true q360
                  go_wp2
                  (try simp only [← hl7_2])
                  go_roundg k2
                  case measure => have:=HK1.out;have:=HK2.out;omega
                  case rel => exact ⟨(x7_2),(wrap64 (x8_2 + 1)),(by first|rfl|(simp;done)|(simp [*];done)),H',⟨by have:=HK1.out;have:=HK2.out;omega⟩,⟨by (try simp only [hl7_1]);(try simp only [hl7_2]);(with_reducible repeat (first|apply ra_|apply rn_|apply rd_));exact HO_7.out⟩,⟨by repeat (first|(with_reducible first|exact HB.out|apply ba_|apply bn_|apply bd_)|exact HB.out)⟩⟩
                ·rw [if_neg c29] at H
                 exact absurd H (by simp)
               ·rw [if_neg c28] at H
                exact absurd H (by simp)
             ·rw [if_neg c17] at H
              exact absurd H (by simp)
            ·rw [if_neg c16] at H
             exact absurd H (by simp)
           ·rw [if_neg c15] at H
            exact absurd H (by simp)
          ·rw [if_neg c14] at H
           have c14b0 : decide (x8_2 < (l1.length : Int)) = false:=decide_eq_false c14
           clear c14
           have H':=mk_ H
           clear H
           go_wp2
           (try simp only [← hl7_1,← hl7_2])
           go_roundg k2
           case measure => have:=HK1.out;have:=HK2.out;omega
           case rel => exact ⟨(x7_2),(wrap64 (x15_1 + 1)),(by first|rfl|(simp;done)|(simp [*];done)),H',⟨by have:=HK1.out;have:=HK2.out;omega⟩,⟨by (try simp only [hl7_1]);(try simp only [hl7_2]);(with_reducible repeat (first|apply ra_|apply rn_|apply rd_));exact HO_7.out⟩,⟨by repeat (first|(with_reducible first|exact HB.out|apply ba_|apply bn_|apply bd_)|exact HB.out)⟩⟩
       ·rw [if_neg c13] at H
        have c13b0 : decide (x15_1 < a0) = false:=decide_eq_false c13
        clear c13
        obtain rfl:=Option.some.inj H
        go_wp2
        go_ret
        exact ⟨_,by first|rfl|(simp [errW_none,errW_some] <;> rfl)|(simp [*,errW_none,errW_some] <;> rfl),by (with_reducible repeat (first|apply ra_|apply rn_|apply rd_));exact HO_7.out,by repeat (first|(with_reducible first|exact HB.out|apply ba_|apply bn_|apply bd_)|exact HB.out)⟩
    ·rw [if_neg c7] at H
     exact absurd H (by simp)
   ·rw [if_neg c6] at H
    exact absurd H (by simp)
  ·rw [if_neg c5] at H
   exact absurd H (by simp)
 ·rw [if_neg c4] at H
  exact absurd H (by simp)

end Go.Proofs.Ytdamdcdjodmemaa.PAll
