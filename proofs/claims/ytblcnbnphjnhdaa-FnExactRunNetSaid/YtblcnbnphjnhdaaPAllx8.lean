/- Proved here: contracts of functions of the given program, or lemmas on them, for the laws of this seat. Written by xprint.py, a program of this session, on the ground of the kit's print; parts by hand: wip/x/ext. -/
import Derived.Test.YtblcnbnphjnhdaaPAllx0
import Derived.Test.YtblcnbnphjnhdaaPAllx1
import Derived.Test.YtblcnbnphjnhdaaPAllx5
import Derived.Test.YtblcnbnphjnhdaaPAllx7
namespace Go.Proofs.Ytblcnbnphjnhdaa.PAll
open Go.RowKit Go.Proofs.YtblcnbnphjnhdaaW.PrintWords Go.Proofs.YtblcnbnphjnhdaaW.PrintLast Go.Proofs.YtblcnbnphjnhdaaW.PrintMore
attribute [local go_sem] max2_int min2_int max_two min_two max_three min_three max_four min_four   -- for this text's walks alone
set_option linter.unusedVariables false
set_option linter.unusedSimpArgs false

/-! ### spec_RunNet: function 10 (by hand) -/
def spec_RunNet.f (a0_0 : Int) (l0_1 : List (S83)) (l0_2 : List Int) (l0_3 : List Int) (l1 : List (S37)) : Option ((List (List Int)) × (List (List Int)) × Bool) :=
 if runB a0_0 l0_1 l0_2 l0_3 l1 = true then (framesS l0_1 (treeX a0_0 l0_1) l0_2 l0_3 l1 (List.replicate (a0_0 * 150).toNat (-1))).map (fun p => (p.1,p.2,true)) else some ([],[],false)
set_option maxHeartbeats 4000000 in
set_option maxRecDepth 100000 in
theorem spec_RunNet.calls (a0_0 : Int) (A0_1 : Option Addr) (c0_1 : Nat) (l0_1 : List (S83)) (A0_2 : Option Addr) (c0_2 : Nat) (l0_2 : List Int) (A0_3 : Option Addr) (c0_3 : Nat) (l0_3 : List Int) (A1 : Option Addr) (c1 : Nat) (l1 : List (S37)) (r1 : List (List Int)) (r2 : List (List Int)) (r3 : Bool) (w : World) (hr0_1 : Kd.C k83 w A0_1 l0_1.length l0_1) (hc0_1 : l0_1.length ≤ c0_1) (hr0_2 : Kd.C (Kd.int .i64) w A0_2 l0_2.length l0_2) (hc0_2 : l0_2.length ≤ c0_2) (hr0_3 : Kd.C (Kd.int .i64) w A0_3 l0_3.length l0_3) (hc0_3 : l0_3.length ≤ c0_3) (hr1 : Kd.C k37 w A1 l1.length l1) (hc1 : l1.length ≤ c1) (h : spec_RunNet.f a0_0 l0_1 l0_2 l0_3 l1 = some (r1,r2,r3)) :
  Calls Try.prog 10 #[.agg #[.int .i64 a0_0,.slice A0_1 l0_1.length c0_1,.slice A0_2 l0_2.length c0_2,.slice A0_3 l0_3.length c0_3],.slice A1 l1.length c1] w fun e w' => ∃ v0_ v1_ : Value,e = .returned (.tuple #[.agg #[v0_,v1_],.bool r3]) ∧ Kd.S (Kd.slice 3 (Kd.int .i64)) 24 w' w.heap.size (fun k_ => some k_ ≠ (v1_ : Value).ownBlock) v0_ r1 ∧ Kd.S (Kd.slice 3 (Kd.int .i64)) 24 w' w.heap.size (fun k_ => some k_ ≠ (v0_ : Value).ownBlock) v1_ r2 ∧ Below w.heap.size w w':=by
 unfold spec_RunNet.f at h
 obtain ⟨fin,hfin,rfl,rfl,rfl⟩ : ∃ fin : List (List Int) × List (List Int),(if runB a0_0 l0_1 l0_2 l0_3 l1 = true then framesS l0_1 (treeX a0_0 l0_1) l0_2 l0_3 l1 (List.replicate (a0_0 * 150).toNat (-1)) = some fin else fin = ([],[])) ∧ fin.1 = r1 ∧ fin.2 = r2 ∧ runB a0_0 l0_1 l0_2 l0_3 l1 = r3:=by
  cases hok : runB a0_0 l0_1 l0_2 l0_3 l1 with
  | false =>
   rw [hok,if_neg (by decide)] at h
   have:=Option.some.inj h
   exact ⟨([],[]),by rw [if_neg (by decide)],congrArg (·.1) this,congrArg (·.2.1) this,congrArg (·.2.2) this⟩
  | true =>
   rw [hok,if_pos rfl] at h
   obtain ⟨fin,hfin,hf⟩:=Option.map_eq_some_iff.mp h
   exact ⟨fin,by rw [if_pos rfl];exact hfin,congrArg (·.1) hf,congrArg (·.2.1) hf,congrArg (·.2.2) hf⟩
 refine (x_RunNetS a0_0 A0_1 c0_1 l0_1 A0_2 c0_2 l0_2 A0_3 c0_3 l0_3 A1 c1 l1 w fin hfin hr0_1 hc0_1 hr0_2 hc0_2 hr0_3 hc0_3 hr1 hc1).mono ?_
 rintro e w1 ⟨v1,v2,P,Q,rfl,hd,h1,h2,hb⟩
 refine ⟨v1,v2,rfl,Kd.S_mono h1 ?_,Kd.S_mono h2 ?_,hb⟩
 ·obtain ⟨f,h2⟩:=h2
  exact fun k hk he => hd k hk (h2.1 k he.symm)
 ·obtain ⟨f,h1⟩:=h1
  exact fun k hk he => hd k (h1.1 k he.symm) hk

/-! ### laws_szCableS: function 47 -/
def laws_szCableS.f (l0 : List (S117)) (a1 : Int) : Option (Int):=if (wrap64 (a1 - (l0.length : Int))) < 0 then (some (-1)) else (some (wrap64 (a1 - (l0.length : Int))))
set_option maxHeartbeats 8000000 in
set_option maxRecDepth 100000 in
theorem laws_szCableS.calls (A0 : Option Addr) (c0 : Nat) (l0 : List (S117)) (a1 : Int) (r : Int) (w : World) (hr0 : Kd.C k117 w A0 l0.length l0) (hc0 : l0.length ≤ c0) (h : laws_szCableS.f l0 a1 = some r) :
  Calls Try.prog 47 #[.slice A0 l0.length c0,.int .i64 a1] w fun e w' => e = .returned (.int .i64 r) ∧ Drawn0 w w':=by
 have HR0:=mk_ hr0
 have HC0:=mk_ hc0
 clear hr0 hc0
 have H : (if (wrap64 (a1 - (l0.length : Int))) < 0 then (some (-1)) else (some (wrap64 (a1 - (l0.length : Int))))) = some r:=h
 clear h
 by_cases c3 : (wrap64 (a1 - (l0.length : Int))) < 0
 ·rw [if_pos c3] at H
  have c3b0 : decide ((wrap64 (a1 - (l0.length : Int))) < 0) = true:=decide_eq_true c3
  clear c3
  obtain rfl:=Option.some.inj H
  go_enter Try.func47,Try.ntmps47
  go_wp2
  go_ret
  exact ⟨by first|rfl|(simp;done)|(simp [*];done),by repeat (first|exact Drawn0.refl _|apply Drawn0.step)⟩
 ·rw [if_neg c3] at H
  have c3b0 : decide ((wrap64 (a1 - (l0.length : Int))) < 0) = false:=decide_eq_false c3
  clear c3
  obtain rfl:=Option.some.inj H
  go_enter Try.func47,Try.ntmps47
  go_wp2
  go_ret
  exact ⟨by first|rfl|(simp;done)|(simp [*];done),by repeat (first|exact Drawn0.refl _|apply Drawn0.step)⟩

/-! ### laws_szIntS: function 48 -/
def laws_szIntS.f (l0 : List Int) (a1 : Int) : Option (Int):=if (wrap64 (a1 - (l0.length : Int))) < 0 then (some (-1)) else (some (wrap64 (a1 - (l0.length : Int))))
set_option maxHeartbeats 8000000 in
set_option maxRecDepth 100000 in
theorem laws_szIntS.calls (A0 : Option Addr) (c0 : Nat) (l0 : List Int) (a1 : Int) (r : Int) (w : World) (hr0 : Kd.C (Kd.int .i64) w A0 l0.length l0) (hc0 : l0.length ≤ c0) (h : laws_szIntS.f l0 a1 = some r) :
  Calls Try.prog 48 #[.slice A0 l0.length c0,.int .i64 a1] w fun e w' => e = .returned (.int .i64 r) ∧ Drawn0 w w':=by
 have HR0:=mk_ hr0
 have HC0:=mk_ hc0
 clear hr0 hc0
 have H : (if (wrap64 (a1 - (l0.length : Int))) < 0 then (some (-1)) else (some (wrap64 (a1 - (l0.length : Int))))) = some r:=h
 clear h
 by_cases c3 : (wrap64 (a1 - (l0.length : Int))) < 0
 ·rw [if_pos c3] at H
  have c3b0 : decide ((wrap64 (a1 - (l0.length : Int))) < 0) = true:=decide_eq_true c3
  clear c3
  obtain rfl:=Option.some.inj H
  go_enter Try.func48,Try.ntmps48
  go_wp2
  go_ret
  exact ⟨by first|rfl|(simp;done)|(simp [*];done),by repeat (first|exact Drawn0.refl _|apply Drawn0.step)⟩
 ·rw [if_neg c3] at H
  have c3b0 : decide ((wrap64 (a1 - (l0.length : Int))) < 0) = false:=decide_eq_false c3
  clear c3
  obtain rfl:=Option.some.inj H
  go_enter Try.func48,Try.ntmps48
  go_wp2
  go_ret
  exact ⟨by first|rfl|(simp;done)|(simp [*];done),by repeat (first|exact Drawn0.refl _|apply Drawn0.step)⟩

/-! ### laws_szNet: function 17 -/
def laws_szNet.f (a0_0 : Int) (l0_1 : List (S117)) (l0_2 : List Int) (l0_3 : List Int) (a1 : Int) : Option (Int):=(laws_szCableS.f l0_1 a1).bind fun t367 => (if t367 < 0 then (some (-1)) else ((laws_szIntS.f l0_2 t367).bind fun t368 => (if t368 < 0 then (some (-1)) else ((laws_szIntS.f l0_3 t368).bind fun t369 => (if t369 < 0 then (some (-1)) else (some t369))))))
set_option maxHeartbeats 8000000 in
set_option maxRecDepth 100000 in
theorem laws_szNet.calls (a0_0 : Int) (A0_1 : Option Addr) (c0_1 : Nat) (l0_1 : List (S117)) (A0_2 : Option Addr) (c0_2 : Nat) (l0_2 : List Int) (A0_3 : Option Addr) (c0_3 : Nat) (l0_3 : List Int) (a1 : Int) (r : Int) (w : World) (hr0_1 : Kd.C k117 w A0_1 l0_1.length l0_1) (hc0_1 : l0_1.length ≤ c0_1) (hr0_2 : Kd.C (Kd.int .i64) w A0_2 l0_2.length l0_2) (hc0_2 : l0_2.length ≤ c0_2) (hr0_3 : Kd.C (Kd.int .i64) w A0_3 l0_3.length l0_3) (hc0_3 : l0_3.length ≤ c0_3) (h : laws_szNet.f a0_0 l0_1 l0_2 l0_3 a1 = some r) :
  Calls Try.prog 17 #[.agg #[.int .i64 a0_0,.slice A0_1 l0_1.length c0_1,.slice A0_2 l0_2.length c0_2,.slice A0_3 l0_3.length c0_3],.int .i64 a1] w fun e w' => e = .returned (.int .i64 r) ∧ Below w.heap.size w w':=by
 have hu45:=Try.underlying45
 have HR0_1:=mk_ hr0_1
 have HC0_1:=mk_ hc0_1
 clear hr0_1 hc0_1
 have HR0_2:=mk_ hr0_2
 have HC0_2:=mk_ hc0_2
 clear hr0_2 hc0_2
 have HR0_3:=mk_ hr0_3
 have HC0_3:=mk_ hc0_3
 clear hr0_3 hc0_3
 have HB:=mk_ (Below.refl w.heap.size w)
 have H : ((laws_szCableS.f l0_1 a1).bind fun t367 => (if t367 < 0 then (some (-1)) else ((laws_szIntS.f l0_2 t367).bind fun t368 => (if t368 < 0 then (some (-1)) else ((laws_szIntS.f l0_3 t368).bind fun t369 => (if t369 < 0 then (some (-1)) else (some t369))))))) = some r:=h
 clear h
 replace H:=Option.bind_eq_some_iff.mp H
 obtain ⟨t367,A30,H⟩:=H
 replace H : (if t367 < 0 then (some (-1)) else ((laws_szIntS.f l0_2 t367).bind fun t368 => (if t368 < 0 then (some (-1)) else ((laws_szIntS.f l0_3 t368).bind fun t369 => (if t369 < 0 then (some (-1)) else (some t369)))))) = some r:=H
 have A3:=mk_ A30
 clear A30
 by_cases c4 : t367 < 0
 ·rw [if_pos c4] at H
  have c4b0 : decide (t367 < 0) = true:=decide_eq_true c4
  clear c4
  obtain rfl:=Option.some.inj H
  go_enter Try.func17,Try.ntmps17
  go_wp2_with (first|((with_reducible refine gate_dst (N:=2) rfl ?_);refine box_event ?hg (N:=2) ?hd (cs:=#[.int .i64 a0_0,.slice A0_1 l0_1.length c0_1,.slice A0_2 l0_2.length c0_2,.slice A0_3 l0_3.length c0_3]) (t:=45) ?hr ?_;(case hd => rfl);(case hg => rfl);(case hr => first|(go_simp;done)|(go_simp;rfl));intro gb366 hg w5 hbox hb;have n0_:=mk_ (st_ (qb_ HB) hb);have n1_:=mk_ (hbox);have n2_:=mk_ ((by rw [hg];exact (bz_ (qb_ HB)) : w.heap.size ≤ gb366));have n3_:=mk_ ((by rw [hg];exact (bz_ (qb_ HB)) : w.heap.size ≤ gb366));clear HB;have HB:=n0_;have BK366:=n1_;have GW366:=n2_;have GE366:=n3_;clear n0_ n1_ n2_ n3_ hb hbox hg;have hcz6_0 : w5.cell? ⟨gb366,0,none⟩ = some (.int .i64 a0_0):=(bc_ BK366.out 0).trans rfl;have hcz6_1 : w5.cell? ⟨gb366,1,none⟩ = some (.slice A0_1 l0_1.length c0_1):=(bc_ BK366.out 1).trans rfl;have hcz6_2 : w5.cell? ⟨gb366,2,none⟩ = some (.slice A0_2 l0_2.length c0_2):=(bc_ BK366.out 2).trans rfl;have hcz6_3 : w5.cell? ⟨gb366,3,none⟩ = some (.slice A0_3 l0_3.length c0_3):=(bc_ BK366.out 3).trans rfl;have hfz6_0:=bf_ BK366.out 0;have hfz6_1:=bf_ BK366.out 1;have hfz6_2:=bf_ BK366.out 2;have hfz6_3:=bf_ BK366.out 3)|((with_reducible refine gate_callee (f:=47) rfl ?_);refine goesL_ (some 8) rfl rfl Try.func47 (by kernel_rfl) rfl #[.slice A0_1 l0_1.length c0_1,.int .i64 a1] rfl qm_ ?_;(with_reducible refine (laws_szCableS.calls _ _ l0_1 a1 t367 _ ?side1 ?side2 A3.out).mono ?_);(case side1 => exact qn_ HR0_1 HB);(case side2 => exact HC0_1.out);rintro e w' ⟨rfl,⟨nd,rfl⟩⟩;refine ⟨_,rfl,?_⟩))
  go_ret
  exact ⟨qe_,u0_ HB GE366⟩
 ·rw [if_neg c4] at H
  have c4b0 : decide (t367 < 0) = false:=decide_eq_false c4
  clear c4
  replace H:=Option.bind_eq_some_iff.mp H
  obtain ⟨t368,A70,H⟩:=H
  replace H : (if t368 < 0 then (some (-1)) else ((laws_szIntS.f l0_3 t368).bind fun t369 => (if t369 < 0 then (some (-1)) else (some t369)))) = some r:=H
  have A7:=mk_ A70
  clear A70
  by_cases c8 : t368 < 0
  ·rw [if_pos c8] at H
   have c8b0 : decide (t368 < 0) = true:=decide_eq_true c8
   clear c8
   obtain rfl:=Option.some.inj H
   go_enter Try.func17,Try.ntmps17
   go_wp2_with (first|((with_reducible refine gate_dst (N:=2) rfl ?_);refine box_event ?hg (N:=2) ?hd (cs:=#[.int .i64 a0_0,.slice A0_1 l0_1.length c0_1,.slice A0_2 l0_2.length c0_2,.slice A0_3 l0_3.length c0_3]) (t:=45) ?hr ?_;(case hd => rfl);(case hg => rfl);(case hr => first|(go_simp;done)|(go_simp;rfl));intro gb366 hg w9 hbox hb;have n0_:=mk_ (st_ (qb_ HB) hb);have n1_:=mk_ (hbox);have n2_:=mk_ ((by rw [hg];exact (bz_ (qb_ HB)) : w.heap.size ≤ gb366));have n3_:=mk_ ((by rw [hg];exact (bz_ (qb_ HB)) : w.heap.size ≤ gb366));clear HB;have HB:=n0_;have BK366:=n1_;have GW366:=n2_;have GE366:=n3_;clear n0_ n1_ n2_ n3_ hb hbox hg;have hcz10_0 : w9.cell? ⟨gb366,0,none⟩ = some (.int .i64 a0_0):=(bc_ BK366.out 0).trans rfl;have hcz10_1 : w9.cell? ⟨gb366,1,none⟩ = some (.slice A0_1 l0_1.length c0_1):=(bc_ BK366.out 1).trans rfl;have hcz10_2 : w9.cell? ⟨gb366,2,none⟩ = some (.slice A0_2 l0_2.length c0_2):=(bc_ BK366.out 2).trans rfl;have hcz10_3 : w9.cell? ⟨gb366,3,none⟩ = some (.slice A0_3 l0_3.length c0_3):=(bc_ BK366.out 3).trans rfl;have hfz10_0:=bf_ BK366.out 0;have hfz10_1:=bf_ BK366.out 1;have hfz10_2:=bf_ BK366.out 2;have hfz10_3:=bf_ BK366.out 3)|((with_reducible refine gate_callee (f:=47) rfl ?_);refine goesL_ (some 8) rfl rfl Try.func47 (by kernel_rfl) rfl #[.slice A0_1 l0_1.length c0_1,.int .i64 a1] rfl qm_ ?_;(with_reducible refine (laws_szCableS.calls _ _ l0_1 a1 t367 _ ?side1 ?side2 A3.out).mono ?_);(case side1 => exact qn_ HR0_1 HB);(case side2 => exact HC0_1.out);rintro e w' ⟨rfl,⟨nd,rfl⟩⟩;refine ⟨_,rfl,?_⟩)|((with_reducible refine gate_callee (f:=48) rfl ?_);refine goesL_ (some 14) rfl rfl Try.func48 (by kernel_rfl) rfl #[.slice A0_2 l0_2.length c0_2,.int .i64 t367] rfl qm_ ?_;(with_reducible refine (laws_szIntS.calls _ _ l0_2 t367 t368 _ ?side1 ?side2 A7.out).mono ?_);(case side1 => repeat (first|exact (cb_ HR0_2.out (qc_ HB GE366))|(with_reducible refine ca_ ?_ _)|(with_reducible refine cn_ ?_ _)|(with_reducible refine cd_ ?_)));(case side2 => exact HC0_2.out);rintro e w' ⟨rfl,⟨nd,rfl⟩⟩;refine ⟨_,rfl,?_⟩))
   go_ret
   exact ⟨qe_,u0_ HB GE366⟩
  ·rw [if_neg c8] at H
   have c8b0 : decide (t368 < 0) = false:=decide_eq_false c8
   clear c8
   replace H:=Option.bind_eq_some_iff.mp H
   obtain ⟨t369,A110,H⟩:=H
   replace H : (if t369 < 0 then (some (-1)) else (some t369)) = some r:=H
   have A11:=mk_ A110
   clear A110
   by_cases c12 : t369 < 0
   ·rw [if_pos c12] at H
    have c12b0 : decide (t369 < 0) = true:=decide_eq_true c12
    clear c12
    obtain rfl:=Option.some.inj H
    go_enter Try.func17,Try.ntmps17
    go_wp2_with (first|((with_reducible refine gate_dst (N:=2) rfl ?_);refine box_event ?hg (N:=2) ?hd (cs:=#[.int .i64 a0_0,.slice A0_1 l0_1.length c0_1,.slice A0_2 l0_2.length c0_2,.slice A0_3 l0_3.length c0_3]) (t:=45) ?hr ?_;(case hd => rfl);(case hg => rfl);(case hr => first|(go_simp;done)|(go_simp;rfl));intro gb366 hg w13 hbox hb;have n0_:=mk_ (st_ (qb_ HB) hb);have n1_:=mk_ (hbox);have n2_:=mk_ ((by rw [hg];exact (bz_ (qb_ HB)) : w.heap.size ≤ gb366));have n3_:=mk_ ((by rw [hg];exact (bz_ (qb_ HB)) : w.heap.size ≤ gb366));clear HB;have HB:=n0_;have BK366:=n1_;have GW366:=n2_;have GE366:=n3_;clear n0_ n1_ n2_ n3_ hb hbox hg;have hcz14_0 : w13.cell? ⟨gb366,0,none⟩ = some (.int .i64 a0_0):=(bc_ BK366.out 0).trans rfl;have hcz14_1 : w13.cell? ⟨gb366,1,none⟩ = some (.slice A0_1 l0_1.length c0_1):=(bc_ BK366.out 1).trans rfl;have hcz14_2 : w13.cell? ⟨gb366,2,none⟩ = some (.slice A0_2 l0_2.length c0_2):=(bc_ BK366.out 2).trans rfl;have hcz14_3 : w13.cell? ⟨gb366,3,none⟩ = some (.slice A0_3 l0_3.length c0_3):=(bc_ BK366.out 3).trans rfl;have hfz14_0:=bf_ BK366.out 0;have hfz14_1:=bf_ BK366.out 1;have hfz14_2:=bf_ BK366.out 2;have hfz14_3:=bf_ BK366.out 3)|((with_reducible refine gate_callee (f:=47) rfl ?_);refine goesL_ (some 8) rfl rfl Try.func47 (by kernel_rfl) rfl #[.slice A0_1 l0_1.length c0_1,.int .i64 a1] rfl qm_ ?_;(with_reducible refine (laws_szCableS.calls _ _ l0_1 a1 t367 _ ?side1 ?side2 A3.out).mono ?_);(case side1 => exact qn_ HR0_1 HB);(case side2 => exact HC0_1.out);rintro e w' ⟨rfl,⟨nd,rfl⟩⟩;refine ⟨_,rfl,?_⟩)|((with_reducible refine gate_callee (f:=48) rfl ?_);refine goesL_ (some 14) rfl rfl Try.func48 (by kernel_rfl) rfl #[.slice A0_2 l0_2.length c0_2,.int .i64 t367] rfl qm_ ?_;(with_reducible refine (laws_szIntS.calls _ _ l0_2 t367 t368 _ ?side1 ?side2 A7.out).mono ?_);(case side1 => repeat (first|exact (cb_ HR0_2.out (qc_ HB GE366))|(with_reducible refine ca_ ?_ _)|(with_reducible refine cn_ ?_ _)|(with_reducible refine cd_ ?_)));(case side2 => exact HC0_2.out);rintro e w' ⟨rfl,⟨nd,rfl⟩⟩;refine ⟨_,rfl,?_⟩)|((with_reducible refine gate_callee (f:=48) rfl ?_);refine goesL_ (some 20) rfl rfl Try.func48 (by kernel_rfl) rfl #[.slice A0_3 l0_3.length c0_3,.int .i64 t368] rfl qm_ ?_;(with_reducible refine (laws_szIntS.calls _ _ l0_3 t368 t369 _ ?side1 ?side2 A11.out).mono ?_);(case side1 => repeat (first|exact (cb_ HR0_3.out (qc_ HB GE366))|(with_reducible refine ca_ ?_ _)|(with_reducible refine cn_ ?_ _)|(with_reducible refine cd_ ?_)));(case side2 => exact HC0_3.out);rintro e w' ⟨rfl,⟨nd,rfl⟩⟩;refine ⟨_,rfl,?_⟩))
    go_ret
    exact ⟨qe_,u0_ HB GE366⟩
   ·rw [if_neg c12] at H
    have c12b0 : decide (t369 < 0) = false:=decide_eq_false c12
    clear c12
    obtain rfl:=Option.some.inj H
    go_enter Try.func17,Try.ntmps17
    go_wp2_with (first|((with_reducible refine gate_dst (N:=2) rfl ?_);refine box_event ?hg (N:=2) ?hd (cs:=#[.int .i64 a0_0,.slice A0_1 l0_1.length c0_1,.slice A0_2 l0_2.length c0_2,.slice A0_3 l0_3.length c0_3]) (t:=45) ?hr ?_;(case hd => rfl);(case hg => rfl);(case hr => first|(go_simp;done)|(go_simp;rfl));intro gb366 hg w15 hbox hb;have n0_:=mk_ (st_ (qb_ HB) hb);have n1_:=mk_ (hbox);have n2_:=mk_ ((by rw [hg];exact (bz_ (qb_ HB)) : w.heap.size ≤ gb366));have n3_:=mk_ ((by rw [hg];exact (bz_ (qb_ HB)) : w.heap.size ≤ gb366));clear HB;have HB:=n0_;have BK366:=n1_;have GW366:=n2_;have GE366:=n3_;clear n0_ n1_ n2_ n3_ hb hbox hg;have hcz16_0 : w15.cell? ⟨gb366,0,none⟩ = some (.int .i64 a0_0):=(bc_ BK366.out 0).trans rfl;have hcz16_1 : w15.cell? ⟨gb366,1,none⟩ = some (.slice A0_1 l0_1.length c0_1):=(bc_ BK366.out 1).trans rfl;have hcz16_2 : w15.cell? ⟨gb366,2,none⟩ = some (.slice A0_2 l0_2.length c0_2):=(bc_ BK366.out 2).trans rfl;have hcz16_3 : w15.cell? ⟨gb366,3,none⟩ = some (.slice A0_3 l0_3.length c0_3):=(bc_ BK366.out 3).trans rfl;have hfz16_0:=bf_ BK366.out 0;have hfz16_1:=bf_ BK366.out 1;have hfz16_2:=bf_ BK366.out 2;have hfz16_3:=bf_ BK366.out 3)|((with_reducible refine gate_callee (f:=47) rfl ?_);refine goesL_ (some 8) rfl rfl Try.func47 (by kernel_rfl) rfl #[.slice A0_1 l0_1.length c0_1,.int .i64 a1] rfl qm_ ?_;(with_reducible refine (laws_szCableS.calls _ _ l0_1 a1 t367 _ ?side1 ?side2 A3.out).mono ?_);(case side1 => exact qn_ HR0_1 HB);(case side2 => exact HC0_1.out);rintro e w' ⟨rfl,⟨nd,rfl⟩⟩;refine ⟨_,rfl,?_⟩)|((with_reducible refine gate_callee (f:=48) rfl ?_);refine goesL_ (some 14) rfl rfl Try.func48 (by kernel_rfl) rfl #[.slice A0_2 l0_2.length c0_2,.int .i64 t367] rfl qm_ ?_;(with_reducible refine (laws_szIntS.calls _ _ l0_2 t367 t368 _ ?side1 ?side2 A7.out).mono ?_);(case side1 => repeat (first|exact (cb_ HR0_2.out (qc_ HB GE366))|(with_reducible refine ca_ ?_ _)|(with_reducible refine cn_ ?_ _)|(with_reducible refine cd_ ?_)));(case side2 => exact HC0_2.out);rintro e w' ⟨rfl,⟨nd,rfl⟩⟩;refine ⟨_,rfl,?_⟩)|((with_reducible refine gate_callee (f:=48) rfl ?_);refine goesL_ (some 20) rfl rfl Try.func48 (by kernel_rfl) rfl #[.slice A0_3 l0_3.length c0_3,.int .i64 t368] rfl qm_ ?_;(with_reducible refine (laws_szIntS.calls _ _ l0_3 t368 t369 _ ?side1 ?side2 A11.out).mono ?_);(case side1 => repeat (first|exact (cb_ HR0_3.out (qc_ HB GE366))|(with_reducible refine ca_ ?_ _)|(with_reducible refine cn_ ?_ _)|(with_reducible refine cd_ ?_)));(case side2 => exact HC0_3.out);rintro e w' ⟨rfl,⟨nd,rfl⟩⟩;refine ⟨_,rfl,?_⟩))
    go_ret
    exact ⟨qe_,u0_ HB GE366⟩

/-! ### laws_szHopS: function 18 -/
def laws_szHopS.f (l0 : List (S88)) (a1 : Int) : Option (Int):=if (wrap64 (a1 - (l0.length : Int))) < 0 then (some (-1)) else (some (wrap64 (a1 - (l0.length : Int))))
set_option maxHeartbeats 8000000 in
set_option maxRecDepth 100000 in
theorem laws_szHopS.calls (A0 : Option Addr) (c0 : Nat) (l0 : List (S88)) (a1 : Int) (r : Int) (w : World) (hr0 : Kd.C k88 w A0 l0.length l0) (hc0 : l0.length ≤ c0) (h : laws_szHopS.f l0 a1 = some r) :
  Calls Try.prog 18 #[.slice A0 l0.length c0,.int .i64 a1] w fun e w' => e = .returned (.int .i64 r) ∧ Drawn0 w w':=by
 have HR0:=mk_ hr0
 have HC0:=mk_ hc0
 clear hr0 hc0
 have H : (if (wrap64 (a1 - (l0.length : Int))) < 0 then (some (-1)) else (some (wrap64 (a1 - (l0.length : Int))))) = some r:=h
 clear h
 by_cases c3 : (wrap64 (a1 - (l0.length : Int))) < 0
 ·rw [if_pos c3] at H
  have c3b0 : decide ((wrap64 (a1 - (l0.length : Int))) < 0) = true:=decide_eq_true c3
  clear c3
  obtain rfl:=Option.some.inj H
  go_enter Try.func18,Try.ntmps18
  go_wp2
  go_ret
  exact ⟨by first|rfl|(simp;done)|(simp [*];done),by repeat (first|exact Drawn0.refl _|apply Drawn0.step)⟩
 ·rw [if_neg c3] at H
  have c3b0 : decide ((wrap64 (a1 - (l0.length : Int))) < 0) = false:=decide_eq_false c3
  clear c3
  obtain rfl:=Option.some.inj H
  go_enter Try.func18,Try.ntmps18
  go_wp2
  go_ret
  exact ⟨by first|rfl|(simp;done)|(simp [*];done),by repeat (first|exact Drawn0.refl _|apply Drawn0.step)⟩

/-! ### laws_toCable: function 88 -/
def laws_toCable.f (a0_0 : Int) (a0_1 : Int) (a0_2 : Int) : Option (Int × Int × Int):=some (a0_0,a0_1,a0_2)
set_option maxHeartbeats 8000000 in
set_option maxRecDepth 100000 in
theorem laws_toCable.calls (a0_0 : Int) (a0_1 : Int) (a0_2 : Int) (r1 : Int) (r2 : Int) (r3 : Int) (w : World) (h : laws_toCable.f a0_0 a0_1 a0_2 = some (r1,r2,r3)) :
  Calls Try.prog 88 #[.agg #[.int .i64 a0_0,.int .i64 a0_1,.int .i64 a0_2]] w fun e w' => e = .returned (.agg #[.int .i64 r1,.int .i64 r2,.int .i64 r3]) ∧ Below w.heap.size w w':=by
 have hu117:=Try.underlying117
 have hu83:=Try.underlying83
 have HB:=mk_ (Below.refl w.heap.size w)
 have H : (some (a0_0,a0_1,a0_2)) = some (r1,r2,r3):=h
 clear h
 simp only [Option.some.injEq,Prod.mk.injEq] at H
 obtain ⟨rfl,rfl,rfl⟩:=H
 go_enter Try.func88,Try.ntmps88
 go_wp2_with (first|((with_reducible refine gate_dst (N:=1) rfl ?_);refine box_event ?hg (N:=1) ?hd (cs:=#[.int .i64 a0_0,.int .i64 a0_1,.int .i64 a0_2]) (t:=117) ?hr ?_;(case hd => rfl);(case hg => rfl);(case hr => first|(go_simp;done)|(go_simp;rfl));intro gb370 hg w2 hbox hb;have n0_:=mk_ (st_ (qb_ HB) hb);have n1_:=mk_ (hbox);have n2_:=mk_ ((by rw [hg];exact (bz_ (qb_ HB)) : w.heap.size ≤ gb370));have n3_:=mk_ ((by rw [hg];exact (bz_ (qb_ HB)) : w.heap.size ≤ gb370));clear HB;have HB:=n0_;have BK370:=n1_;have GW370:=n2_;have GE370:=n3_;clear n0_ n1_ n2_ n3_ hb hbox hg)|((with_reducible refine gate_dst (N:=2) rfl ?_);refine box_event ?hg (N:=2) ?hd (cs:=#[.int .i64 0,.int .i64 0,.int .i64 0]) (t:=83) ?hr ?_;(case hd => rfl);(case hg => rfl);(case hr => first|(go_simp;done)|(go_simp;rfl));intro gb371 hg w3 hbox hb;have n0_:=mk_ (blk_below (g:=gb370) (o:=.cells #[.int .i64 a0_0,.int .i64 a0_1,.int .i64 a0_2] 117 (0,0)) (qk_ BK370) hb);have n1_:=mk_ (st_ (qc_ HB GE370) hb);have n2_:=mk_ (hbox);have n3_:=mk_ ((by rw [hg];exact (bz_ (qc_ HB GE370)) : w.heap.size ≤ gb371));have n4_:=mk_ ((by rw [hg];exact (bz_ (qc_ HB GE370)) : w.heap.size ≤ gb371));have n5_:=mk_ ((by rw [hg];exact Nat.ne_of_lt (blk_lt (g:=gb370) (o:=.cells #[.int .i64 a0_0,.int .i64 a0_1,.int .i64 a0_2] 117 (0,0)) (qk_ BK370)) : gb370 ≠ gb371));have n6_:=mk_ ((by rw [hg];exact Nat.ne_of_gt (blk_lt (g:=gb370) (o:=.cells #[.int .i64 a0_0,.int .i64 a0_1,.int .i64 a0_2] 117 (0,0)) (qk_ BK370)) : gb371 ≠ gb370));clear BK370 HB;have BK370:=n0_;have HB:=n1_;have BK371:=n2_;have GW371:=n3_;have GE371:=n4_;have NB370_371:=n5_;have NB371_370:=n6_;clear n0_ n1_ n2_ n3_ n4_ n5_ n6_ hb hbox hg)|((with_reducible refine gate_dst (N:=3) rfl ?_);refine box_event ?hg (N:=3) ?hd (cs:=#[.int .i64 0,.int .i64 0,.int .i64 0]) (t:=83) ?hr ?_;(case hd => rfl);(case hg => rfl);(case hr => first|(go_simp;done)|(go_simp;rfl));intro gb372 hg w4 hbox hb;have n0_:=mk_ (blk_below (g:=gb370) (o:=.cells #[.int .i64 a0_0,.int .i64 a0_1,.int .i64 a0_2] 117 (0,0)) (qk_ BK370) hb);have n1_:=mk_ (blk_below (g:=gb371) (o:=.cells #[.int .i64 0,.int .i64 0,.int .i64 0] 83 (0,0)) (qk_ BK371) hb);have n2_:=mk_ (st_ (qd_ HB GE370 GE371) hb);have n3_:=mk_ (hbox);have n4_:=mk_ ((by rw [hg];exact (bz_ (qd_ HB GE370 GE371)) : w.heap.size ≤ gb372));have n5_:=mk_ ((by rw [hg];exact (bz_ (qd_ HB GE370 GE371)) : w.heap.size ≤ gb372));have n6_:=mk_ ((by rw [hg];exact Nat.ne_of_lt (blk_lt (g:=gb370) (o:=.cells #[.int .i64 a0_0,.int .i64 a0_1,.int .i64 a0_2] 117 (0,0)) (qk_ BK370)) : gb370 ≠ gb372));have n7_:=mk_ ((by rw [hg];exact Nat.ne_of_gt (blk_lt (g:=gb370) (o:=.cells #[.int .i64 a0_0,.int .i64 a0_1,.int .i64 a0_2] 117 (0,0)) (qk_ BK370)) : gb372 ≠ gb370));have n8_:=mk_ ((by rw [hg];exact Nat.ne_of_lt (blk_lt (g:=gb371) (o:=.cells #[.int .i64 0,.int .i64 0,.int .i64 0] 83 (0,0)) (qk_ BK371)) : gb371 ≠ gb372));have n9_:=mk_ ((by rw [hg];exact Nat.ne_of_gt (blk_lt (g:=gb371) (o:=.cells #[.int .i64 0,.int .i64 0,.int .i64 0] 83 (0,0)) (qk_ BK371)) : gb372 ≠ gb371));clear BK370 BK371 HB;have BK370:=n0_;have BK371:=n1_;have HB:=n2_;have BK372:=n3_;have GW372:=n4_;have GE372:=n5_;have NB370_372:=n6_;have NB372_370:=n7_;have NB371_372:=n8_;have NB372_371:=n9_;clear n0_ n1_ n2_ n3_ n4_ n5_ n6_ n7_ n8_ n9_ hb hbox hg;have hnb5:=NB370_371.out;have hnc5:=NB371_370.out;have hnb6:=NB370_372.out;have hnc6:=NB372_370.out;have hcz7_0 : w4.cell? ⟨gb370,0,none⟩ = some (.int .i64 a0_0):=(bc_ BK370.out 0).trans rfl;have hcz7_1 : w4.cell? ⟨gb370,1,none⟩ = some (.int .i64 a0_1):=(bc_ BK370.out 1).trans rfl;have hcz7_2 : w4.cell? ⟨gb370,2,none⟩ = some (.int .i64 a0_2):=(bc_ BK370.out 2).trans rfl;have hfz7_0:=bf_ BK370.out 0;have hfz7_1:=bf_ BK370.out 1;have hfz7_2:=bf_ BK370.out 2;have hnb8:=NB372_371.out;have hnc8:=NB371_372.out;have hcz9_0 : w4.cell? ⟨gb372,0,none⟩ = some (.int .i64 0):=(bc_ BK372.out 0).trans rfl;have hcz9_1 : w4.cell? ⟨gb372,1,none⟩ = some (.int .i64 0):=(bc_ BK372.out 1).trans rfl;have hcz9_2 : w4.cell? ⟨gb372,2,none⟩ = some (.int .i64 0):=(bc_ BK372.out 2).trans rfl;have hfz9_0:=bf_ BK372.out 0;have hfz9_1:=bf_ BK372.out 1;have hfz9_2:=bf_ BK372.out 2;have hcz10_0 : w4.cell? ⟨gb371,0,none⟩ = some (.int .i64 0):=(bc_ BK371.out 0).trans rfl;have hcz10_1 : w4.cell? ⟨gb371,1,none⟩ = some (.int .i64 0):=(bc_ BK371.out 1).trans rfl;have hcz10_2 : w4.cell? ⟨gb371,2,none⟩ = some (.int .i64 0):=(bc_ BK371.out 2).trans rfl;have hfz10_0:=bf_ BK371.out 0;have hfz10_1:=bf_ BK371.out 1;have hfz10_2:=bf_ BK371.out 2))
 refine bodyPost_ret (results_cell_row rfl _ _ gb371 83 #[.int .i64 a0_0,.int .i64 a0_1,.int .i64 a0_2] (0,0) _ rfl (by (with_reducible repeat (first|apply kn_|apply kd_|apply ka_));refine blk_put (cs:=#[.int .i64 a0_0,.int .i64 a0_1,.int .i64 0]) ?_ 2 _ rfl;(with_reducible repeat (first|apply kn_|apply kd_|apply ka_));refine blk_put (cs:=#[.int .i64 a0_0,.int .i64 0,.int .i64 0]) ?_ 1 _ rfl;(with_reducible repeat (first|apply kn_|apply kd_|apply ka_));refine blk_put (cs:=#[.int .i64 0,.int .i64 0,.int .i64 0]) ?_ 0 _ rfl;(with_reducible repeat (first|apply kn_|apply kd_|apply ka_));refine blk_far ?_ NB371_372.out _;(with_reducible repeat (first|apply kn_|apply kd_|apply ka_));refine blk_far ?_ NB371_372.out _;(with_reducible repeat (first|apply kn_|apply kd_|apply ka_));refine blk_far ?_ NB371_372.out _;(with_reducible repeat (first|apply kn_|apply kd_|apply ka_));exact BK371.out) Try.underlying83 rfl (by kernel_rfl)) rfl ?_
 exact ⟨qe_,u3_ HB GE370 GE371 GE372⟩

/-! ### laws_toCableS: function 49 -/
def laws_toCableS.l0 : Nat → List (S117) → List (S83) → Int → Option ((List (S83)))
 | 0,_,_,_ => none
 | k + 1,x0,x3,x4 => if x4 < (x0.length : Int) then (if 0 ≤ x4 then ((laws_toCable.f ((rd_T117 x0 x4).f0) ((rd_T117 x0 x4).f1) ((rd_T117 x0 x4).f2)).bind fun bt377 => (if x4 < (x3.length : Int) then (laws_toCableS.l0 k x0 (x3.set (x4 : Int).toNat (⟨bt377.1,bt377.2.1,bt377.2.2⟩ : S83)) (wrap64 (x4 + 1))) else (none))) else (none)) else (some x3)
def laws_toCableS.f (k : Nat) (l0 : List (S117)) : Option ((List (S83))):=if 0 ≤ (l0.length : Int) then (if ((l0.length : Int) : Int).toNat ≤ 11728124029610 then (laws_toCableS.l0 k l0 (List.replicate ((l0.length : Int) : Int).toNat z83) 0) else (none)) else (none)
theorem laws_toCableS.mono_l : ∀ k,(∀ y0 y1 y2,LeO (laws_toCableS.l0 k y0 y1 y2) (laws_toCableS.l0 (k + 1) y0 y1 y2))
 | 0 => fun _ _ _ r h => by simp [laws_toCableS.l0] at h
 | k + 1 => by
  have ih0:=laws_toCableS.mono_l k
  ·intro y0 y1 y2
   unfold laws_toCableS.l0
   repeat' first
   | (with_reducible exact ih0 _ _ _)
   | (with_reducible exact LeO.refl _)
   | (with_reducible exact LeO.none _)
   | (with_reducible refine LeO.ite ?_ ?_)
   | (with_reducible refine LeO.bind ?_ (fun _ => ?_))
   | exact ih0 _ _ _
   | exact LeO.none _
   | refine LeO.ite ?_ ?_
   | refine LeO.bind ?_ (fun _ => ?_)
theorem laws_toCableS.mono : ∀ a0 k,LeO (laws_toCableS.f k a0) (laws_toCableS.f (k + 1) a0):=by
 intro a0 k
 have ih0:=laws_toCableS.mono_l k
 unfold laws_toCableS.f
 repeat' first
   | (with_reducible exact ih0 _ _ _)
   | (with_reducible exact LeO.refl _)
   | (with_reducible exact LeO.none _)
   | (with_reducible refine LeO.ite ?_ ?_)
   | (with_reducible refine LeO.bind ?_ (fun _ => ?_))
   | exact ih0 _ _ _
   | exact LeO.none _
   | refine LeO.ite ?_ ?_
   | refine LeO.bind ?_ (fun _ => ?_)
set_option maxHeartbeats 8000000 in
set_option maxRecDepth 100000 in
theorem laws_toCableS.calls (k : Nat) (A0 : Option Addr) (c0 : Nat) (l0 : List (S117)) (r : List (S83)) (w : World) (hr0 : Kd.C k117 w A0 l0.length l0) (hc0 : l0.length ≤ c0) (h : laws_toCableS.f k l0 = some r) :
  Calls Try.prog 49 #[.slice A0 l0.length c0] w fun e w' => ∃ v0_ : Value,e = .returned (v0_) ∧ Kd.R k83 83 w' w.heap.size (fun _ => True) v0_ r ∧ Below w.heap.size w w':=by
 have hu117:=Try.underlying117
 have hu83:=Try.underlying83
 have HR0:=mk_ hr0
 have HC0:=mk_ hc0
 clear hr0 hc0
 have HB:=mk_ (Below.refl w.heap.size w)
 have H : (if 0 ≤ (l0.length : Int) then (if ((l0.length : Int) : Int).toNat ≤ 11728124029610 then (laws_toCableS.l0 k l0 (List.replicate ((l0.length : Int) : Int).toNat z83) 0) else (none)) else (none)) = some r:=h
 clear h
 by_cases c2 : 0 ≤ (l0.length : Int)
 ·rw [if_pos c2] at H
  have c2b0:=eq_true c2
  have c2b1 : decide (0 ≤ (l0.length : Int)) = true:=decide_eq_true c2
  clear c2
  by_cases c3 : ((l0.length : Int) : Int).toNat ≤ 11728124029610
  ·rw [if_pos c3] at H
   have c3b0:=eq_true c3
   have c3b1 : decide (((l0.length : Int) : Int).toNat ≤ 11728124029610) = true:=decide_eq_true c3
   clear c3
   obtain ⟨y373,hy373⟩ : ∃ y_ : List (S83),y_ = (List.replicate ((l0.length : Int) : Int).toNat z83):=⟨_,rfl⟩
   replace H : (laws_toCableS.l0 k l0 y373 0) = some r:=by first|(rw [hy373];with_reducible exact H)|(have H2_:=(Option.bind_some _ _).symm.trans H;rw [hy373];with_reducible exact H2_)|(have H2_:=(Option.bind_some _ _).symm.trans H;with_reducible exact H2_)|with_reducible exact H|(rw [hy373];exact H)|exact H
   have Ny373:=mk_ hy373
   clear hy373
   have H':=mk_ H
   clear H
   go_enter Try.func49,Try.ntmps49
   go_wp2_with (first|((with_reducible refine gate_dst (N:=7) rfl ?_);refine Kd.R_make k83 _ 83 rfl (N:=7) rfl 23 _ _ rfl (l0.length : Int) rfl rfl Try.underlying23 (.agg #[(.int .i64 0),(.int .i64 0),(.int .i64 0)]) 24 info83 rfl (by decide) (by omega) z83 (ok:=fun _ => True) (okp:=fun _ => True) (k83_mkM _ _ _ z83 ) (fun _ hk => hk) trivial (od_ qa_) (Nat.le_trans (Nat.mul_le_mul_right _ (od_ qa_ : (l0.length : Int).toNat ≤ 11728124029610)) (by omega)) (Below.refl _ _) (Nat.le_refl _) ?_;intro v374 w4 ho5 hb hg_ hnew_;clear hg_ hnew_;(first|rw [← Ny373.out] at ho5|(simp only [Int.reduceToNat] at ho5;rw [← Ny373.out] at ho5));have n0_:=mk_ (Kd.R_lower ho5 (bz_ (qb_ HB)));have n1_:=mk_ (st_ (qb_ HB) hb);clear HB;have HO375:=n0_;have HB:=n1_;clear n0_ n1_ hb ho5))
   go_loopg [4] k (fun kq v4 w' => ∃ (x3_1 : List (S83)) (x4_1 : Int),v4 = .int .i64 x4_1 ∧ Aside0 (laws_toCableS.l0 kq l0 x3_1 x4_1 = some r) ∧ Aside0 (kq ≤ k) ∧ Aside0 (Kd.R k83 83 w' w.heap.size (fun _ => True) v374 x3_1) ∧ Aside0 (Below w.heap.size w w'))
   case atStart => exact ⟨(y373),(0),qf_,H',⟨Nat.le_refl _⟩,⟨qr_ HO375⟩,⟨u1_ HB⟩⟩
   case round =>
    clear H'
    try clear c2
    try clear c2b0
    try clear c2b1
    try clear p2
    try clear c3
    try clear c3b0
    try clear c3b1
    try clear c4
    obtain ⟨x3_1,x4_1,rfl,HA,HK1,HO_3,HB⟩:=hrel
    cases gk with
    | zero => exact absurd HA.out (by simp [laws_toCableS.l0])
    | succ k1 =>
     have H:=HA.out
     clear HA
     simp only [laws_toCableS.l0] at H
     by_cases c6 : x4_1 < (l0.length : Int)
     ·rw [if_pos c6] at H
      have c6b0 : decide (x4_1 < (l0.length : Int)) = true:=decide_eq_true c6
      clear c6
      by_cases c7 : 0 ≤ x4_1
      ·rw [if_pos c7] at H
       have c7b0 : decide (0 ≤ x4_1) = true:=decide_eq_true c7
       clear c7
       replace H:=Option.bind_eq_some_iff.mp H
       obtain ⟨⟨t377,t378,t379⟩,A80,H⟩:=H
       replace H : (if x4_1 < (x3_1.length : Int) then (laws_toCableS.l0 k1 l0 (x3_1.set (x4_1 : Int).toNat (⟨t377,t378,t379⟩ : S83)) (wrap64 (x4_1 + 1))) else (none)) = some r:=H
       have A8:=mk_ A80
       clear A80
       by_cases c9 : x4_1 < (x3_1.length : Int)
       ·rw [if_pos c9] at H
        have c9b0 : decide (x4_1 < (x3_1.length : Int)) = true:=decide_eq_true c9
        clear c9
        obtain ⟨y380,hy380⟩ : ∃ y_ : List (S83),y_ = (x3_1.set (x4_1 : Int).toNat (⟨t377,t378,t379⟩ : S83)):=⟨_,rfl⟩
        replace H : (laws_toCableS.l0 k1 l0 y380 (wrap64 (x4_1 + 1))) = some r:=by first|(rw [hy380];with_reducible exact H)|(have H2_:=(Option.bind_some _ _).symm.trans H;rw [hy380];with_reducible exact H2_)|(have H2_:=(Option.bind_some _ _).symm.trans H;with_reducible exact H2_)|with_reducible exact H|(rw [hy380];exact H)|exact H
        have Ny380:=mk_ hy380
        clear hy380
        have H':=mk_ H
        clear H
        have p376 : 0 ≤ (x4_1 : Int):=od_ qa_
        have q376 : x4_1 < (l0.length : Int):=od_ qa_
        obtain ⟨ad376,e376,hx376_0,hx376_1,hx376_2⟩:=at_T117 HR0.out x4_1 p376 q376
        cases e376
        replace hx376_0:=(HB.out.cell (wl_ w _ hx376_0)).trans hx376_0
        replace hx376_1:=(HB.out.cell (wl_ w _ hx376_1)).trans hx376_1
        replace hx376_2:=(HB.out.cell (wl_ w _ hx376_2)).trans hx376_2
        replace p376:=eq_true p376
        replace q376:=eq_true q376
        go_wp2_with (first|((with_reducible refine gate_callee (f:=88) rfl ?_);refine goesL_ (some 20) rfl rfl Try.func88 (by kernel_rfl) rfl #[.agg #[.int .i64 ((rd_T117 l0 x4_1).f0),.int .i64 ((rd_T117 l0 x4_1).f1),.int .i64 ((rd_T117 l0 x4_1).f2)]] rfl qm_ ?_;(with_reducible refine (laws_toCable.calls ((rd_T117 l0 x4_1).f0) ((rd_T117 l0 x4_1).f1) ((rd_T117 l0 x4_1).f2) t377 t378 t379 _ A8.out).mono ?_);rintro e w11 ⟨rfl,hb⟩;refine ⟨_,rfl,?_⟩;have n0_:=mk_ (rb_ (qr_ HO_3) hb);have n1_:=mk_ (st_ (qb_ HB) hb);clear HO_3 HB;have HO_3:=n0_;have HB:=n1_;clear n0_ n1_;(try clear hb);(try clear hb2);(try clear hk);(try clear hi);have p10 : 0 ≤ (x4_1 : Int):=od_ qa_;have q10 : (x4_1 : Int) < ((x3_1.length : Int) : Int):=od_ qa_;obtain ⟨go10,co10,eo10,gb10,gl10,cl10,HG10⟩:=Kd.R_form HO_3.out (by omega);(first|cases eo10|(injection eo10 with ea_ en_ ec_;(first|subst ea_|(injection ea_ with ea_;subst ea_));subst ec_;clear en_));have GB10:=mk_ gb10;have GG10:=mk_ HG10;clear gb10 gl10 HG10;obtain ⟨ce10,hcl10,hM10,hcc10,hfr10⟩:=Kd.R_elem HO_3.out z83 (x4_1 : Int) p10 q10;obtain rfl:=k83_openM hM10;have hx10_0 : w11.cell? ⟨go10,(x4_1 : Int).toNat * 3,none⟩ = some (.int .i64 ((rd_T83 x3_1 x4_1).f0)):=hcc10 0 _ rfl;have hx10_1 : w11.cell? ⟨go10,(x4_1 : Int).toNat * 3 + 1,none⟩ = some (.int .i64 ((rd_T83 x3_1 x4_1).f1)):=hcc10 1 _ rfl;have hx10_2 : w11.cell? ⟨go10,(x4_1 : Int).toNat * 3 + 2,none⟩ = some (.int .i64 ((rd_T83 x3_1 x4_1).f2)):=hcc10 2 _ rfl;have hf10_0 : w11.frozen? ⟨go10,(x4_1 : Int).toNat * 3,none⟩ = false:=hfr10 0;have hf10_1 : w11.frozen? ⟨go10,(x4_1 : Int).toNat * 3 + 1,none⟩ = false:=hfr10 1;have hf10_2 : w11.frozen? ⟨go10,(x4_1 : Int).toNat * 3 + 2,none⟩ = false:=hfr10 2;clear hcl10 hcc10 hfr10 hM10;replace p10:=eq_true p10;replace q10:=eq_true q10;have HX12:=mk_ (show Kd.R k83 83 w11 w.heap.size (fun _ => True) (.slice (some ⟨go10,0,none⟩) x3_1.length co10) x3_1 from (qr_ HO_3));obtain ⟨ce12,hcl12,hM12,hcc12,hfr12⟩:=Kd.R_elem HX12.out z83 (x4_1 : Int) (od_ qa_) (by have h_ : (x4_1 : Int) < ((x3_1.length : Int) : Int):=od_ qa_;first|exact h_|(have e_:=(rr_ HO_3.out).1;omega)|simpa using h_);obtain rfl:=k83_openM hM12;have HP12:=Kd.R_seg HX12.out (x4_1 : Int) (od_ qa_) (by have h_ : (x4_1 : Int) < ((x3_1.length : Int) : Int):=od_ qa_;first|exact h_|(have e_:=(rr_ HO_3.out).1;omega)|simpa using h_) (seg:=[.int .i64 t377,.int .i64 t378,.int .i64 t379]) (j:=0) hcl12 hcc12 (show 3 ≤ 3 from by decide) (x':=(⟨t377,t378,t379⟩ : S83)) (k83_mkM _ _ _ (⟨t377,t378,t379⟩ : S83) ) (fun _ hk => hk);have hx12_0:=hcc12 0 _ rfl;(try simp only [show (k83).sz = 3 from rfl,Nat.mul_one,Nat.add_zero] at hx12_0);have hf12_0:=hfr12 0;(try simp only [show (k83).sz = 3 from rfl,Nat.mul_one,Nat.add_zero] at hf12_0);have hx12_1:=hcc12 1 _ rfl;(try simp only [show (k83).sz = 3 from rfl,Nat.mul_one,Nat.add_zero] at hx12_1);have hf12_1:=hfr12 1;(try simp only [show (k83).sz = 3 from rfl,Nat.mul_one,Nat.add_zero] at hf12_1);have hx12_2:=hcc12 2 _ rfl;(try simp only [show (k83).sz = 3 from rfl,Nat.mul_one,Nat.add_zero] at hx12_2);have hf12_2:=hfr12 2;(try simp only [show (k83).sz = 3 from rfl,Nat.mul_one,Nat.add_zero] at hf12_2);clear hcl12 hcc12 hfr12 hM12)|((with_reducible refine gate_store (t:=83) (p:=21) rfl ?_);refine store_event (t:=83) (p:=21) (v:=?vo_w13) (w1:=(((w11.setCell ⟨go10,(x4_1 : Int).toNat * 3,none⟩ (.int .i64 t377)).setCell ⟨go10,(x4_1 : Int).toNat * 3 + 1,none⟩ (.int .i64 t378)).setCell ⟨go10,(x4_1 : Int).toNat * 3 + 2,none⟩ (.int .i64 t379))) ?hg ?ho ?hn ?hr ?_;(case ho => rfl);(case hg => rfl);(case hn => rfl);(case hr => first|(go_simp;done)|(go_simp;rfl));intro w13 hw;have hg : w11.grownBy w13 (some go10):=(by rw [hw];exact HP12.2);have hp_ : Kd.R k83 83 w13 w.heap.size (fun _ => True) (.slice (some ⟨go10,0,none⟩) x3_1.length co10) y380:=(by rw [hw,Ny380.out];exact HP12.1);clear HP12;have n0_:=mk_ (hp_);have n1_:=mk_ ((by rw [hw];exact bs_ (bs_ (bs_ (HB.out) GB10.out) GB10.out) GB10.out : Below w.heap.size w w13));clear HO_3 HB;have HO_3:=n0_;have HB:=n1_;clear n0_ n1_ hg hw hp_))
        go_roundg k1
        case measure => have:=HK1.out;omega
        case rel => exact ⟨(y380),(wrap64 (x4_1 + 1)),qf_,H',⟨by have:=HK1.out;omega⟩,⟨qr_ HO_3⟩,⟨u1_ HB⟩⟩
       ·rw [if_neg c9] at H
        exact absurd H (by simp)
      ·rw [if_neg c7] at H
       exact absurd H (by simp)
     ·rw [if_neg c6] at H
      have c6b0 : decide (x4_1 < (l0.length : Int)) = false:=decide_eq_false c6
      clear c6
      obtain rfl:=Option.some.inj H
      go_wp2
      go_ret
      exact ⟨_,qe_,qr_ HO_3,u1_ HB⟩
  ·rw [if_neg c3] at H
   exact absurd H (by simp)
 ·rw [if_neg c2] at H
  exact absurd H (by simp)

/-! ### laws_toIntS: function 50 -/
def laws_toIntS.l0 : Nat → List Int → List Int → Int → Option (List Int)
 | 0,_,_,_ => none
 | k + 1,x0,x3,x4 => if x4 < (x0.length : Int) then (if 0 ≤ x4 then (if x4 < (x3.length : Int) then (laws_toIntS.l0 k x0 (x3.set (x4 : Int).toNat (rd x0 x4)) (wrap64 (x4 + 1))) else (none)) else (none)) else (some x3)
def laws_toIntS.f (k : Nat) (l0 : List Int) : Option (List Int):=if 0 ≤ (l0.length : Int) then (if ((l0.length : Int) : Int).toNat ≤ 35184372088832 then (laws_toIntS.l0 k l0 (List.replicate ((l0.length : Int) : Int).toNat 0) 0) else (none)) else (none)
theorem laws_toIntS.mono_l : ∀ k,(∀ y0 y1 y2,LeO (laws_toIntS.l0 k y0 y1 y2) (laws_toIntS.l0 (k + 1) y0 y1 y2))
 | 0 => fun _ _ _ r h => by simp [laws_toIntS.l0] at h
 | k + 1 => by
  have ih0:=laws_toIntS.mono_l k
  ·intro y0 y1 y2
   unfold laws_toIntS.l0
   repeat' first
   | (with_reducible exact ih0 _ _ _)
   | (with_reducible exact LeO.refl _)
   | (with_reducible exact LeO.none _)
   | (with_reducible refine LeO.ite ?_ ?_)
   | (with_reducible refine LeO.bind ?_ (fun _ => ?_))
   | exact ih0 _ _ _
   | exact LeO.none _
   | refine LeO.ite ?_ ?_
   | refine LeO.bind ?_ (fun _ => ?_)
theorem laws_toIntS.mono : ∀ a0 k,LeO (laws_toIntS.f k a0) (laws_toIntS.f (k + 1) a0):=by
 intro a0 k
 have ih0:=laws_toIntS.mono_l k
 unfold laws_toIntS.f
 repeat' first
   | (with_reducible exact ih0 _ _ _)
   | (with_reducible exact LeO.refl _)
   | (with_reducible exact LeO.none _)
   | (with_reducible refine LeO.ite ?_ ?_)
   | (with_reducible refine LeO.bind ?_ (fun _ => ?_))
   | exact ih0 _ _ _
   | exact LeO.none _
   | refine LeO.ite ?_ ?_
   | refine LeO.bind ?_ (fun _ => ?_)
set_option maxHeartbeats 8000000 in
set_option maxRecDepth 100000 in
theorem laws_toIntS.calls (k : Nat) (A0 : Option Addr) (c0 : Nat) (l0 : List Int) (r : List Int) (w : World) (hr0 : Kd.C (Kd.int .i64) w A0 l0.length l0) (hc0 : l0.length ≤ c0) (h : laws_toIntS.f k l0 = some r) :
  Calls Try.prog 50 #[.slice A0 l0.length c0] w fun e w' => ∃ v0_ : Value,e = .returned (v0_) ∧ Kd.R (Kd.int .i64) 3 w' w.heap.size (fun _ => True) v0_ r ∧ Below w.heap.size w w':=by
 have HR0:=mk_ hr0
 have HC0:=mk_ hc0
 clear hr0 hc0
 have HB:=mk_ (Below.refl w.heap.size w)
 have H : (if 0 ≤ (l0.length : Int) then (if ((l0.length : Int) : Int).toNat ≤ 35184372088832 then (laws_toIntS.l0 k l0 (List.replicate ((l0.length : Int) : Int).toNat 0) 0) else (none)) else (none)) = some r:=h
 clear h
 by_cases c2 : 0 ≤ (l0.length : Int)
 ·rw [if_pos c2] at H
  have c2b0:=eq_true c2
  have c2b1 : decide (0 ≤ (l0.length : Int)) = true:=decide_eq_true c2
  clear c2
  by_cases c3 : ((l0.length : Int) : Int).toNat ≤ 35184372088832
  ·rw [if_pos c3] at H
   have c3b0:=eq_true c3
   have c3b1 : decide (((l0.length : Int) : Int).toNat ≤ 35184372088832) = true:=decide_eq_true c3
   clear c3
   obtain ⟨y381,hy381⟩ : ∃ y_ : List Int,y_ = (List.replicate ((l0.length : Int) : Int).toNat 0):=⟨_,rfl⟩
   replace H : (laws_toIntS.l0 k l0 y381 0) = some r:=by first|(rw [hy381];with_reducible exact H)|(have H2_:=(Option.bind_some _ _).symm.trans H;rw [hy381];with_reducible exact H2_)|(have H2_:=(Option.bind_some _ _).symm.trans H;with_reducible exact H2_)|with_reducible exact H|(rw [hy381];exact H)|exact H
   have Ny381:=mk_ hy381
   clear hy381
   have H':=mk_ H
   clear H
   go_enter Try.func50,Try.ntmps50
   go_wp2_with (first|((with_reducible refine gate_dst (N:=7) rfl ?_);refine Kd.R_make (Kd.int .i64) _ 3 rfl (N:=7) rfl 24 _ _ rfl (l0.length : Int) rfl rfl Try.underlying24 (.int .i64 0) 8 info3 rfl (by decide) (by omega) 0 (ok:=fun _ => True) (okp:=fun _ => True) rfl (fun _ hk => hk) trivial (od_ qa_) (Nat.le_trans (Nat.mul_le_mul_right _ (od_ qa_ : (l0.length : Int).toNat ≤ 35184372088832)) (by omega)) (Below.refl _ _) (Nat.le_refl _) ?_;intro v382 w4 ho5 hb hg_ hnew_;clear hg_ hnew_;(first|rw [← Ny381.out] at ho5|(simp only [Int.reduceToNat] at ho5;rw [← Ny381.out] at ho5));have n0_:=mk_ (Kd.R_lower ho5 (bz_ (qb_ HB)));have n1_:=mk_ (st_ (qb_ HB) hb);clear HB;have HO383:=n0_;have HB:=n1_;clear n0_ n1_ hb ho5))
   go_loopg [4] k (fun kq v4 w' => ∃ (x3_1 : List Int) (x4_1 : Int),v4 = .int .i64 x4_1 ∧ Aside0 (laws_toIntS.l0 kq l0 x3_1 x4_1 = some r) ∧ Aside0 (kq ≤ k) ∧ Aside0 (Kd.R (Kd.int .i64) 3 w' w.heap.size (fun _ => True) v382 x3_1) ∧ Aside0 (Below w.heap.size w w'))
   case atStart => exact ⟨(y381),(0),qf_,H',⟨Nat.le_refl _⟩,⟨qr_ HO383⟩,⟨u1_ HB⟩⟩
   case round =>
    clear H'
    try clear c2
    try clear c2b0
    try clear c2b1
    try clear p2
    try clear c3
    try clear c3b0
    try clear c3b1
    try clear c5
    obtain ⟨x3_1,x4_1,rfl,HA,HK1,HO_3,HB⟩:=hrel
    cases gk with
    | zero => exact absurd HA.out (by simp [laws_toIntS.l0])
    | succ k1 =>
     have H:=HA.out
     clear HA
     simp only [laws_toIntS.l0] at H
     by_cases c6 : x4_1 < (l0.length : Int)
     ·rw [if_pos c6] at H
      have c6b0 : decide (x4_1 < (l0.length : Int)) = true:=decide_eq_true c6
      clear c6
      by_cases c7 : 0 ≤ x4_1
      ·rw [if_pos c7] at H
       have c7b0 : decide (0 ≤ x4_1) = true:=decide_eq_true c7
       clear c7
       by_cases c8 : x4_1 < (x3_1.length : Int)
       ·rw [if_pos c8] at H
        have c8b0 : decide (x4_1 < (x3_1.length : Int)) = true:=decide_eq_true c8
        clear c8
        obtain ⟨y385,hy385⟩ : ∃ y_ : List Int,y_ = (x3_1.set (x4_1 : Int).toNat (rd l0 x4_1)):=⟨_,rfl⟩
        replace H : (laws_toIntS.l0 k1 l0 y385 (wrap64 (x4_1 + 1))) = some r:=by first|(rw [hy385];with_reducible exact H)|(have H2_:=(Option.bind_some _ _).symm.trans H;rw [hy385];with_reducible exact H2_)|(have H2_:=(Option.bind_some _ _).symm.trans H;with_reducible exact H2_)|with_reducible exact H|(rw [hy385];exact H)|exact H
        have Ny385:=mk_ hy385
        clear hy385
        have H':=mk_ H
        clear H
        have p384 : 0 ≤ (x4_1 : Int):=od_ qa_
        have q384 : x4_1 < (l0.length : Int):=od_ qa_
        obtain ⟨ad384,e384,hx384_0⟩:=Kd.at_int HR0.out x4_1 p384 q384
        cases e384
        replace hx384_0:=(HB.out.cell (wl_ w _ hx384_0)).trans hx384_0
        replace p384:=eq_true p384
        replace q384:=eq_true q384
        have p9 : 0 ≤ (x4_1 : Int):=od_ qa_
        have q9 : (x4_1 : Int) < ((x3_1.length : Int) : Int):=od_ qa_
        obtain ⟨go9,co9,eo9,gb9,gl9,cl9,HG9⟩:=Kd.R_form HO_3.out (by omega)
        (first|cases eo9|(injection eo9 with ea_ en_ ec_;(first|subst ea_|(injection ea_ with ea_;subst ea_));subst ec_;clear en_))
        have GB9:=mk_ gb9
        have GG9:=mk_ HG9
        clear gb9 gl9 HG9
        obtain ⟨hx9_0,hf9_0⟩:=Kd.R_celln 0 HO_3.out (x4_1 : Int) p9 q9
        replace p9:=eq_true p9
        replace q9:=eq_true q9
        have HP10:=Kd.R_putg HO_3.out (x4_1 : Int) (rd l0 x4_1)
        go_wp2_with (first|((with_reducible refine gate_store (t:=3) (p:=20) rfl ?_);refine store_event (t:=3) (p:=20) (v:=?vo_w11) (w1:=(wr.setCell ⟨go9,(x4_1 : Int).toNat,none⟩ (.int .i64 (rd l0 x4_1)))) ?hg ?ho ?hn ?hr ?_;(case ho => rfl);(case hg => rfl);(case hn => rfl);(case hr => first|(go_simp;done)|(go_simp;rfl));intro w11 hw;have hg : wr.grownBy w11 (some go9):=(by rw [hw];exact HP10.2);have hp_ : Kd.R (Kd.int .i64) 3 w11 w.heap.size (fun _ => True) (.slice (some ⟨go9,0,none⟩) x3_1.length co9) y385:=(by rw [hw,Ny385.out];exact HP10.1);clear HP10;have n0_:=mk_ (hp_);have n1_:=mk_ ((by rw [hw];exact bs_ (HB.out) GB9.out : Below w.heap.size w w11));clear HO_3 HB;have HO_3:=n0_;have HB:=n1_;clear n0_ n1_ hg hw hp_))
        go_roundg k1
        case measure => have:=HK1.out;omega
        case rel => exact ⟨(y385),(wrap64 (x4_1 + 1)),qf_,H',⟨by have:=HK1.out;omega⟩,⟨qr_ HO_3⟩,⟨u1_ HB⟩⟩
       ·rw [if_neg c8] at H
        exact absurd H (by simp)
      ·rw [if_neg c7] at H
       exact absurd H (by simp)
     ·rw [if_neg c6] at H
      have c6b0 : decide (x4_1 < (l0.length : Int)) = false:=decide_eq_false c6
      clear c6
      obtain rfl:=Option.some.inj H
      go_wp2
      go_ret
      exact ⟨_,qe_,qr_ HO_3,u1_ HB⟩
  ·rw [if_neg c3] at H
   exact absurd H (by simp)
 ·rw [if_neg c2] at H
  exact absurd H (by simp)

/-! ### laws_toNet: function 19 -/
def laws_toNet.f (k : Nat) (a0_0 : Int) (l0_1 : List (S117)) (l0_2 : List Int) (l0_3 : List Int) : Option (Int × (List (S83)) × List Int × List Int):=(laws_toCableS.f k l0_1).bind fun t389 => ((laws_toIntS.f k l0_2).bind fun t392 => ((laws_toIntS.f k l0_3).bind fun t395 => (some (a0_0,t389,t392,t395))))
theorem laws_toNet.mono : ∀ a0 a1 a2 a3 k,LeO (laws_toNet.f k a0 a1 a2 a3) (laws_toNet.f (k + 1) a0 a1 a2 a3):=by
 intro a0 a1 a2 a3 k
 unfold laws_toNet.f
 repeat' first
   | (with_reducible exact laws_toCableS.mono _ _)
   | (with_reducible exact laws_toIntS.mono _ _)
   | (with_reducible exact LeO.refl _)
   | (with_reducible exact LeO.none _)
   | (with_reducible refine LeO.ite ?_ ?_)
   | (with_reducible refine LeO.bind ?_ (fun _ => ?_))
   | exact laws_toCableS.mono _ _
   | exact laws_toIntS.mono _ _
   | exact LeO.none _
   | refine LeO.ite ?_ ?_
   | refine LeO.bind ?_ (fun _ => ?_)
set_option maxHeartbeats 8000000 in
set_option maxRecDepth 100000 in
theorem laws_toNet.calls (k : Nat) (a0_0 : Int) (A0_1 : Option Addr) (c0_1 : Nat) (l0_1 : List (S117)) (A0_2 : Option Addr) (c0_2 : Nat) (l0_2 : List Int) (A0_3 : Option Addr) (c0_3 : Nat) (l0_3 : List Int) (r1 : Int) (r2 : List (S83)) (r3 : List Int) (r4 : List Int) (w : World) (hr0_1 : Kd.C k117 w A0_1 l0_1.length l0_1) (hc0_1 : l0_1.length ≤ c0_1) (hr0_2 : Kd.C (Kd.int .i64) w A0_2 l0_2.length l0_2) (hc0_2 : l0_2.length ≤ c0_2) (hr0_3 : Kd.C (Kd.int .i64) w A0_3 l0_3.length l0_3) (hc0_3 : l0_3.length ≤ c0_3) (h : laws_toNet.f k a0_0 l0_1 l0_2 l0_3 = some (r1,r2,r3,r4)) :
  Calls Try.prog 19 #[.agg #[.int .i64 a0_0,.slice A0_1 l0_1.length c0_1,.slice A0_2 l0_2.length c0_2,.slice A0_3 l0_3.length c0_3]] w fun e w' => ∃ v1_ v2_ v3_ : Value,e = .returned (.agg #[.int .i64 r1,v1_,v2_,v3_]) ∧ Kd.R k83 83 w' w.heap.size (fun _ => True) v1_ r2 ∧ Kd.R (Kd.int .i64) 3 w' w.heap.size (fun k_ => some k_ ≠ (v3_ : Value).ownBlock) v2_ r3 ∧ Kd.R (Kd.int .i64) 3 w' w.heap.size (fun k_ => some k_ ≠ (v2_ : Value).ownBlock) v3_ r4 ∧ Below w.heap.size w w':=by
 have hu45:=Try.underlying45
 have hu26:=Try.underlying26
 have HR0_1:=mk_ hr0_1
 have HC0_1:=mk_ hc0_1
 clear hr0_1 hc0_1
 have HR0_2:=mk_ hr0_2
 have HC0_2:=mk_ hc0_2
 clear hr0_2 hc0_2
 have HR0_3:=mk_ hr0_3
 have HC0_3:=mk_ hc0_3
 clear hr0_3 hc0_3
 have HB:=mk_ (Below.refl w.heap.size w)
 have H : ((laws_toCableS.f k l0_1).bind fun t389 => ((laws_toIntS.f k l0_2).bind fun t392 => ((laws_toIntS.f k l0_3).bind fun t395 => (some (a0_0,t389,t392,t395))))) = some (r1,r2,r3,r4):=h
 clear h
 replace H:=Option.bind_eq_some_iff.mp H
 obtain ⟨t389,A20,H⟩:=H
 replace H : ((laws_toIntS.f k l0_2).bind fun t392 => ((laws_toIntS.f k l0_3).bind fun t395 => (some (a0_0,t389,t392,t395)))) = some (r1,r2,r3,r4):=H
 have A2:=mk_ A20
 clear A20
 replace H:=Option.bind_eq_some_iff.mp H
 obtain ⟨t392,A30,H⟩:=H
 replace H : ((laws_toIntS.f k l0_3).bind fun t395 => (some (a0_0,t389,t392,t395))) = some (r1,r2,r3,r4):=H
 have A3:=mk_ A30
 clear A30
 replace H:=Option.bind_eq_some_iff.mp H
 obtain ⟨t395,A40,H⟩:=H
 replace H : (some (a0_0,t389,t392,t395)) = some (r1,r2,r3,r4):=H
 have A4:=mk_ A40
 clear A40
 simp only [Option.some.injEq,Prod.mk.injEq] at H
 obtain ⟨rfl,rfl,rfl,rfl⟩:=H
 go_enter Try.func19,Try.ntmps19
 go_wp2_with (first|((with_reducible refine gate_dst (N:=1) rfl ?_);refine box_event ?hg (N:=1) ?hd (cs:=#[.int .i64 a0_0,.slice A0_1 l0_1.length c0_1,.slice A0_2 l0_2.length c0_2,.slice A0_3 l0_3.length c0_3]) (t:=45) ?hr ?_;(case hd => rfl);(case hg => rfl);(case hr => first|(go_simp;done)|(go_simp;rfl));intro gb386 hg w5 hbox hb;have n0_:=mk_ (st_ (qb_ HB) hb);have n1_:=mk_ (hbox);have n2_:=mk_ ((by rw [hg];exact (bz_ (qb_ HB)) : w.heap.size ≤ gb386));have n3_:=mk_ ((by rw [hg];exact (bz_ (qb_ HB)) : w.heap.size ≤ gb386));clear HB;have HB:=n0_;have BK386:=n1_;have GW386:=n2_;have GE386:=n3_;clear n0_ n1_ n2_ n3_ hb hbox hg)|((with_reducible refine gate_dst (N:=2) rfl ?_);refine box_event ?hg (N:=2) ?hd (cs:=#[.int .i64 0,.slice none 0 0,.slice none 0 0,.slice none 0 0]) (t:=26) ?hr ?_;(case hd => rfl);(case hg => rfl);(case hr => first|(go_simp;done)|(go_simp;rfl));intro gb387 hg w6 hbox hb;have n0_:=mk_ (blk_below (g:=gb386) (o:=.cells #[.int .i64 a0_0,.slice A0_1 l0_1.length c0_1,.slice A0_2 l0_2.length c0_2,.slice A0_3 l0_3.length c0_3] 45 (0,0)) (qk_ BK386) hb);have n1_:=mk_ (st_ (qc_ HB GE386) hb);have n2_:=mk_ (hbox);have n3_:=mk_ ((by rw [hg];exact (bz_ (qc_ HB GE386)) : w.heap.size ≤ gb387));have n4_:=mk_ ((by rw [hg];exact (bz_ (qc_ HB GE386)) : w.heap.size ≤ gb387));have n5_:=mk_ ((by rw [hg];exact Nat.ne_of_lt (blk_lt (g:=gb386) (o:=.cells #[.int .i64 a0_0,.slice A0_1 l0_1.length c0_1,.slice A0_2 l0_2.length c0_2,.slice A0_3 l0_3.length c0_3] 45 (0,0)) (qk_ BK386)) : gb386 ≠ gb387));have n6_:=mk_ ((by rw [hg];exact Nat.ne_of_gt (blk_lt (g:=gb386) (o:=.cells #[.int .i64 a0_0,.slice A0_1 l0_1.length c0_1,.slice A0_2 l0_2.length c0_2,.slice A0_3 l0_3.length c0_3] 45 (0,0)) (qk_ BK386)) : gb387 ≠ gb386));clear BK386 HB;have BK386:=n0_;have HB:=n1_;have BK387:=n2_;have GW387:=n3_;have GE387:=n4_;have NB386_387:=n5_;have NB387_386:=n6_;clear n0_ n1_ n2_ n3_ n4_ n5_ n6_ hb hbox hg)|((with_reducible refine gate_dst (N:=3) rfl ?_);refine box_event ?hg (N:=3) ?hd (cs:=#[.int .i64 0,.slice none 0 0,.slice none 0 0,.slice none 0 0]) (t:=26) ?hr ?_;(case hd => rfl);(case hg => rfl);(case hr => first|(go_simp;done)|(go_simp;rfl));intro gb388 hg w7 hbox hb;have n0_:=mk_ (blk_below (g:=gb386) (o:=.cells #[.int .i64 a0_0,.slice A0_1 l0_1.length c0_1,.slice A0_2 l0_2.length c0_2,.slice A0_3 l0_3.length c0_3] 45 (0,0)) (qk_ BK386) hb);have n1_:=mk_ (blk_below (g:=gb387) (o:=.cells #[.int .i64 0,.slice none 0 0,.slice none 0 0,.slice none 0 0] 26 (0,0)) (qk_ BK387) hb);have n2_:=mk_ (st_ (qd_ HB GE386 GE387) hb);have n3_:=mk_ (hbox);have n4_:=mk_ ((by rw [hg];exact (bz_ (qd_ HB GE386 GE387)) : w.heap.size ≤ gb388));have n5_:=mk_ ((by rw [hg];exact (bz_ (qd_ HB GE386 GE387)) : w.heap.size ≤ gb388));have n6_:=mk_ ((by rw [hg];exact Nat.ne_of_lt (blk_lt (g:=gb386) (o:=.cells #[.int .i64 a0_0,.slice A0_1 l0_1.length c0_1,.slice A0_2 l0_2.length c0_2,.slice A0_3 l0_3.length c0_3] 45 (0,0)) (qk_ BK386)) : gb386 ≠ gb388));have n7_:=mk_ ((by rw [hg];exact Nat.ne_of_gt (blk_lt (g:=gb386) (o:=.cells #[.int .i64 a0_0,.slice A0_1 l0_1.length c0_1,.slice A0_2 l0_2.length c0_2,.slice A0_3 l0_3.length c0_3] 45 (0,0)) (qk_ BK386)) : gb388 ≠ gb386));have n8_:=mk_ ((by rw [hg];exact Nat.ne_of_lt (blk_lt (g:=gb387) (o:=.cells #[.int .i64 0,.slice none 0 0,.slice none 0 0,.slice none 0 0] 26 (0,0)) (qk_ BK387)) : gb387 ≠ gb388));have n9_:=mk_ ((by rw [hg];exact Nat.ne_of_gt (blk_lt (g:=gb387) (o:=.cells #[.int .i64 0,.slice none 0 0,.slice none 0 0,.slice none 0 0] 26 (0,0)) (qk_ BK387)) : gb388 ≠ gb387));clear BK386 BK387 HB;have BK386:=n0_;have BK387:=n1_;have HB:=n2_;have BK388:=n3_;have GW388:=n4_;have GE388:=n5_;have NB386_388:=n6_;have NB388_386:=n7_;have NB387_388:=n8_;have NB388_387:=n9_;clear n0_ n1_ n2_ n3_ n4_ n5_ n6_ n7_ n8_ n9_ hb hbox hg;have hnb8:=NB386_387.out;have hnc8:=NB387_386.out;have hnb9:=NB386_388.out;have hnc9:=NB388_386.out;have hcz10_0 : w7.cell? ⟨gb386,0,none⟩ = some (.int .i64 a0_0):=(bc_ BK386.out 0).trans rfl;have hcz10_1 : w7.cell? ⟨gb386,1,none⟩ = some (.slice A0_1 l0_1.length c0_1):=(bc_ BK386.out 1).trans rfl;have hcz10_2 : w7.cell? ⟨gb386,2,none⟩ = some (.slice A0_2 l0_2.length c0_2):=(bc_ BK386.out 2).trans rfl;have hcz10_3 : w7.cell? ⟨gb386,3,none⟩ = some (.slice A0_3 l0_3.length c0_3):=(bc_ BK386.out 3).trans rfl;have hfz10_0:=bf_ BK386.out 0;have hfz10_1:=bf_ BK386.out 1;have hfz10_2:=bf_ BK386.out 2;have hfz10_3:=bf_ BK386.out 3;have hnb11:=NB388_387.out;have hnc11:=NB387_388.out;have hcz12_0 : w7.cell? ⟨gb388,0,none⟩ = some (.int .i64 0):=(bc_ BK388.out 0).trans rfl;have hcz12_1 : w7.cell? ⟨gb388,1,none⟩ = some (.slice none 0 0):=(bc_ BK388.out 1).trans rfl;have hcz12_2 : w7.cell? ⟨gb388,2,none⟩ = some (.slice none 0 0):=(bc_ BK388.out 2).trans rfl;have hcz12_3 : w7.cell? ⟨gb388,3,none⟩ = some (.slice none 0 0):=(bc_ BK388.out 3).trans rfl;have hfz12_0:=bf_ BK388.out 0;have hfz12_1:=bf_ BK388.out 1;have hfz12_2:=bf_ BK388.out 2;have hfz12_3:=bf_ BK388.out 3)|((with_reducible refine gate_callee (f:=49) rfl ?_);refine goesL_ (some 9) rfl rfl Try.func49 (by kernel_rfl) rfl #[.slice A0_1 l0_1.length c0_1] rfl qm_ ?_;(with_reducible refine (laws_toCableS.calls k _ _ l0_1 t389 _ ?side1 ?side2 A2.out).mono ?_);(case side1 => exact cb_ HR0_1.out (u3_ HB GE386 GE387 GE388));(case side2 => exact HC0_1.out);rintro e w13 ⟨v390,rfl,ho0,hb⟩;refine ⟨_,rfl,?_⟩;have n0_:=mk_ (Kd.R_lower ho0 (bz_ (u3_ HB GE386 GE387 GE388)));have n1_:=mk_ (blk_below (g:=gb386) (o:=.cells #[.int .i64 a0_0,.slice A0_1 l0_1.length c0_1,.slice A0_2 l0_2.length c0_2,.slice A0_3 l0_3.length c0_3] 45 (0,0)) (by (with_reducible repeat (first|apply kn_|apply kd_|apply ka_));refine blk_far ?_ NB386_388.out _;(with_reducible repeat (first|apply kn_|apply kd_|apply ka_));exact BK386.out) hb);have n2_:=mk_ (blk_below (g:=gb387) (o:=.cells #[.int .i64 0,.slice none 0 0,.slice none 0 0,.slice none 0 0] 26 (0,0)) (by (with_reducible repeat (first|apply kn_|apply kd_|apply ka_));refine blk_far ?_ NB387_388.out _;(with_reducible repeat (first|apply kn_|apply kd_|apply ka_));exact BK387.out) hb);have n3_:=mk_ (blk_below (g:=gb388) (o:=.cells #[.int .i64 a0_0,.slice none 0 0,.slice none 0 0,.slice none 0 0] 26 (0,0)) (by (with_reducible repeat (first|apply kn_|apply kd_|apply ka_));refine blk_put (cs:=#[.int .i64 0,.slice none 0 0,.slice none 0 0,.slice none 0 0]) ?_ 0 _ rfl;(with_reducible repeat (first|apply kn_|apply kd_|apply ka_));exact BK388.out) hb);have n4_:=mk_ (st_ (u3_ HB GE386 GE387 GE388) hb);clear BK386 BK387 BK388 HB;have HO391:=n0_;have BK386:=n1_;have BK387:=n2_;have BK388:=n3_;have HB:=n4_;clear n0_ n1_ n2_ n3_ n4_;(try clear hb);(try clear hb2);(try clear hk);(try clear hi);(try clear ho0);obtain ⟨Ao14,co14,eo14⟩:=Kd.R_slice HO391.out;subst eo14;have hcz15_0 : w13.cell? ⟨gb388,0,none⟩ = some (.int .i64 a0_0):=(bc_ BK388.out 0).trans rfl;have hcz15_1 : w13.cell? ⟨gb388,1,none⟩ = some (.slice none 0 0):=(bc_ BK388.out 1).trans rfl;have hcz15_2 : w13.cell? ⟨gb388,2,none⟩ = some (.slice none 0 0):=(bc_ BK388.out 2).trans rfl;have hcz15_3 : w13.cell? ⟨gb388,3,none⟩ = some (.slice none 0 0):=(bc_ BK388.out 3).trans rfl;have hfz15_0:=bf_ BK388.out 0;have hfz15_1:=bf_ BK388.out 1;have hfz15_2:=bf_ BK388.out 2;have hfz15_3:=bf_ BK388.out 3;have hcz16_0 : w13.cell? ⟨gb386,0,none⟩ = some (.int .i64 a0_0):=(bc_ BK386.out 0).trans rfl;have hcz16_1 : w13.cell? ⟨gb386,1,none⟩ = some (.slice A0_1 l0_1.length c0_1):=(bc_ BK386.out 1).trans rfl;have hcz16_2 : w13.cell? ⟨gb386,2,none⟩ = some (.slice A0_2 l0_2.length c0_2):=(bc_ BK386.out 2).trans rfl;have hcz16_3 : w13.cell? ⟨gb386,3,none⟩ = some (.slice A0_3 l0_3.length c0_3):=(bc_ BK386.out 3).trans rfl;have hfz16_0:=bf_ BK386.out 0;have hfz16_1:=bf_ BK386.out 1;have hfz16_2:=bf_ BK386.out 2;have hfz16_3:=bf_ BK386.out 3)|((with_reducible refine gate_callee (f:=50) rfl ?_);refine goesL_ (some 13) rfl rfl Try.func50 (by kernel_rfl) rfl #[.slice A0_2 l0_2.length c0_2] rfl qm_ ?_;(with_reducible refine (laws_toIntS.calls k _ _ l0_2 t392 _ ?side1 ?side2 A3.out).mono ?_);(case side1 => exact cb_ HR0_2.out (u3_ HB GE386 GE387 GE388));(case side2 => exact HC0_2.out);rintro e w17 ⟨v393,rfl,ho0,hb⟩;refine ⟨_,rfl,?_⟩;have n0_:=mk_ (rb_ (by (with_reducible repeat (first|apply ra_|apply rn_|apply rd_));exact (rm_ (rf_ (p:=⟨gb388,1,none⟩) (rt_ HO391.out BK388.out (by decide)) (λ_ h=>h.2) (.slice Ao14 t389.length co14)) (λ_ h=>h.1))) hb);have n1_:=mk_ (Kd.R_lower ho0 (bz_ (u3_ HB GE386 GE387 GE388)));have n2_:=mk_ (blk_below (g:=gb386) (o:=.cells #[.int .i64 a0_0,.slice A0_1 l0_1.length c0_1,.slice A0_2 l0_2.length c0_2,.slice A0_3 l0_3.length c0_3] 45 (0,0)) (by (with_reducible repeat (first|apply kn_|apply kd_|apply ka_));refine blk_far ?_ NB386_388.out _;(with_reducible repeat (first|apply kn_|apply kd_|apply ka_));exact BK386.out) hb);have n3_:=mk_ (blk_below (g:=gb387) (o:=.cells #[.int .i64 0,.slice none 0 0,.slice none 0 0,.slice none 0 0] 26 (0,0)) (by (with_reducible repeat (first|apply kn_|apply kd_|apply ka_));refine blk_far ?_ NB387_388.out _;(with_reducible repeat (first|apply kn_|apply kd_|apply ka_));exact BK387.out) hb);have n4_:=mk_ (blk_below (g:=gb388) (o:=.cells #[.int .i64 a0_0,.slice Ao14 t389.length co14,.slice none 0 0,.slice none 0 0] 26 (0,0)) (by (with_reducible repeat (first|apply kn_|apply kd_|apply ka_));refine blk_put (cs:=#[.int .i64 a0_0,.slice none 0 0,.slice none 0 0,.slice none 0 0]) ?_ 1 _ rfl;(with_reducible repeat (first|apply kn_|apply kd_|apply ka_));exact BK388.out) hb);have n5_:=mk_ (st_ (u3_ HB GE386 GE387 GE388) hb);clear HO391 BK386 BK387 BK388 HB;have HO391:=n0_;have HO394:=n1_;have BK386:=n2_;have BK387:=n3_;have BK388:=n4_;have HB:=n5_;clear n0_ n1_ n2_ n3_ n4_ n5_;(try clear hb);(try clear hb2);(try clear hk);(try clear hi);(try clear ho0);obtain ⟨Ao18,co18,eo18⟩:=Kd.R_slice HO394.out;subst eo18;have hcz19_0 : w17.cell? ⟨gb388,0,none⟩ = some (.int .i64 a0_0):=(bc_ BK388.out 0).trans rfl;have hcz19_1 : w17.cell? ⟨gb388,1,none⟩ = some (.slice Ao14 t389.length co14):=(bc_ BK388.out 1).trans rfl;have hcz19_2 : w17.cell? ⟨gb388,2,none⟩ = some (.slice none 0 0):=(bc_ BK388.out 2).trans rfl;have hcz19_3 : w17.cell? ⟨gb388,3,none⟩ = some (.slice none 0 0):=(bc_ BK388.out 3).trans rfl;have hfz19_0:=bf_ BK388.out 0;have hfz19_1:=bf_ BK388.out 1;have hfz19_2:=bf_ BK388.out 2;have hfz19_3:=bf_ BK388.out 3;have hcz20_0 : w17.cell? ⟨gb386,0,none⟩ = some (.int .i64 a0_0):=(bc_ BK386.out 0).trans rfl;have hcz20_1 : w17.cell? ⟨gb386,1,none⟩ = some (.slice A0_1 l0_1.length c0_1):=(bc_ BK386.out 1).trans rfl;have hcz20_2 : w17.cell? ⟨gb386,2,none⟩ = some (.slice A0_2 l0_2.length c0_2):=(bc_ BK386.out 2).trans rfl;have hcz20_3 : w17.cell? ⟨gb386,3,none⟩ = some (.slice A0_3 l0_3.length c0_3):=(bc_ BK386.out 3).trans rfl;have hfz20_0:=bf_ BK386.out 0;have hfz20_1:=bf_ BK386.out 1;have hfz20_2:=bf_ BK386.out 2;have hfz20_3:=bf_ BK386.out 3)|((with_reducible refine gate_callee (f:=50) rfl ?_);refine goesL_ (some 17) rfl rfl Try.func50 (by kernel_rfl) rfl #[.slice A0_3 l0_3.length c0_3] rfl qm_ ?_;(with_reducible refine (laws_toIntS.calls k _ _ l0_3 t395 _ ?side1 ?side2 A4.out).mono ?_);(case side1 => exact cb_ HR0_3.out (u3_ HB GE386 GE387 GE388));(case side2 => exact HC0_3.out);rintro e w21 ⟨v396,rfl,ho0,hb⟩;refine ⟨_,rfl,?_⟩;have n0_:=mk_ (rb_ (by (with_reducible repeat (first|apply ra_|apply rn_|apply rd_));exact (rm_ (rf_ (p:=⟨gb388,2,none⟩) (rt_ HO391.out BK388.out (by decide)) (λ_ h=>h.2) (.slice Ao18 t392.length co18)) (λ_ h=>h.1))) hb);have n1_:=mk_ (re_ (by (with_reducible repeat (first|apply ra_|apply rn_|apply rd_));exact (rm_ (rf_ (p:=⟨gb388,2,none⟩) (rt_ HO394.out BK388.out (by decide)) (λ_ h=>h.2) (.slice Ao18 t392.length co18)) (λ_ h=>h.1))) (Kd.R_base ho0) hb);have n2_:=mk_ (Kd.R_lower (Kd.R_new' ho0 (Kd.R_lt (by (with_reducible repeat (first|apply ra_|apply rn_|apply rd_));exact (rm_ (rf_ (p:=⟨gb388,2,none⟩) (rt_ HO394.out BK388.out (by decide)) (λ_ h=>h.2) (.slice Ao18 t392.length co18)) (λ_ h=>h.1))))) (bz_ (u3_ HB GE386 GE387 GE388)));have n3_:=mk_ (blk_below (g:=gb386) (o:=.cells #[.int .i64 a0_0,.slice A0_1 l0_1.length c0_1,.slice A0_2 l0_2.length c0_2,.slice A0_3 l0_3.length c0_3] 45 (0,0)) (by (with_reducible repeat (first|apply kn_|apply kd_|apply ka_));refine blk_far ?_ NB386_388.out _;(with_reducible repeat (first|apply kn_|apply kd_|apply ka_));exact BK386.out) hb);have n4_:=mk_ (blk_below (g:=gb387) (o:=.cells #[.int .i64 0,.slice none 0 0,.slice none 0 0,.slice none 0 0] 26 (0,0)) (by (with_reducible repeat (first|apply kn_|apply kd_|apply ka_));refine blk_far ?_ NB387_388.out _;(with_reducible repeat (first|apply kn_|apply kd_|apply ka_));exact BK387.out) hb);have n5_:=mk_ (blk_below (g:=gb388) (o:=.cells #[.int .i64 a0_0,.slice Ao14 t389.length co14,.slice Ao18 t392.length co18,.slice none 0 0] 26 (0,0)) (by (with_reducible repeat (first|apply kn_|apply kd_|apply ka_));refine blk_put (cs:=#[.int .i64 a0_0,.slice Ao14 t389.length co14,.slice none 0 0,.slice none 0 0]) ?_ 2 _ rfl;(with_reducible repeat (first|apply kn_|apply kd_|apply ka_));exact BK388.out) hb);have n6_:=mk_ (st_ (u3_ HB GE386 GE387 GE388) hb);clear HO391 HO394 BK386 BK387 BK388 HB;have HO391:=n0_;have HO394:=n1_;have HO397:=n2_;have BK386:=n3_;have BK387:=n4_;have BK388:=n5_;have HB:=n6_;clear n0_ n1_ n2_ n3_ n4_ n5_ n6_;(try clear hb);(try clear hb2);(try clear hk);(try clear hi);(try clear ho0);obtain ⟨Ao22,co22,eo22⟩:=Kd.R_slice HO397.out;subst eo22;have hcz23_0 : w21.cell? ⟨gb388,0,none⟩ = some (.int .i64 a0_0):=(bc_ BK388.out 0).trans rfl;have hcz23_1 : w21.cell? ⟨gb388,1,none⟩ = some (.slice Ao14 t389.length co14):=(bc_ BK388.out 1).trans rfl;have hcz23_2 : w21.cell? ⟨gb388,2,none⟩ = some (.slice Ao18 t392.length co18):=(bc_ BK388.out 2).trans rfl;have hcz23_3 : w21.cell? ⟨gb388,3,none⟩ = some (.slice none 0 0):=(bc_ BK388.out 3).trans rfl;have hfz23_0:=bf_ BK388.out 0;have hfz23_1:=bf_ BK388.out 1;have hfz23_2:=bf_ BK388.out 2;have hfz23_3:=bf_ BK388.out 3;have hcz24_0 : w21.cell? ⟨gb387,0,none⟩ = some (.int .i64 0):=(bc_ BK387.out 0).trans rfl;have hcz24_1 : w21.cell? ⟨gb387,1,none⟩ = some (.slice none 0 0):=(bc_ BK387.out 1).trans rfl;have hcz24_2 : w21.cell? ⟨gb387,2,none⟩ = some (.slice none 0 0):=(bc_ BK387.out 2).trans rfl;have hcz24_3 : w21.cell? ⟨gb387,3,none⟩ = some (.slice none 0 0):=(bc_ BK387.out 3).trans rfl;have hfz24_0:=bf_ BK387.out 0;have hfz24_1:=bf_ BK387.out 1;have hfz24_2:=bf_ BK387.out 2;have hfz24_3:=bf_ BK387.out 3))
 refine bodyPost_ret (results_cell_row rfl _ _ gb387 26 #[.int .i64 a0_0,.slice Ao14 t389.length co14,.slice Ao18 t392.length co18,.slice Ao22 t395.length co22] (0,0) _ rfl (by (with_reducible repeat (first|apply kn_|apply kd_|apply ka_));refine blk_put (cs:=#[.int .i64 a0_0,.slice Ao14 t389.length co14,.slice Ao18 t392.length co18,.slice none 0 0]) ?_ 3 _ rfl;(with_reducible repeat (first|apply kn_|apply kd_|apply ka_));refine blk_put (cs:=#[.int .i64 a0_0,.slice Ao14 t389.length co14,.slice none 0 0,.slice none 0 0]) ?_ 2 _ rfl;(with_reducible repeat (first|apply kn_|apply kd_|apply ka_));refine blk_put (cs:=#[.int .i64 a0_0,.slice none 0 0,.slice none 0 0,.slice none 0 0]) ?_ 1 _ rfl;(with_reducible repeat (first|apply kn_|apply kd_|apply ka_));refine blk_put (cs:=#[.int .i64 0,.slice none 0 0,.slice none 0 0,.slice none 0 0]) ?_ 0 _ rfl;(with_reducible repeat (first|apply kn_|apply kd_|apply ka_));refine blk_far ?_ NB387_388.out _;(with_reducible repeat (first|apply kn_|apply kd_|apply ka_));exact BK387.out) Try.underlying26 rfl (by kernel_rfl)) rfl ?_
 exact ⟨_,_,_,qe_,by (with_reducible repeat (first|apply ra_|apply rn_|apply rd_));exact rm_ (rf_ (p:=⟨gb387,3,none⟩) (rf_ (p:=⟨gb387,2,none⟩) (rf_ (p:=⟨gb387,1,none⟩) (rf_ (p:=⟨gb387,0,none⟩) (rf_ (p:=⟨gb388,3,none⟩) (rt_ (rt_ HO391.out BK388.out (by decide)) BK387.out (by decide)) (fun _ hk => hk.1.2) (.slice Ao22 t395.length co22)) (λ_ h=>h.2) (.int .i64 a0_0)) (λ_ h=>h.2) (.slice Ao14 t389.length co14)) (λ_ h=>h.2) (.slice Ao18 t392.length co18)) (λ_ h=>h.2) (.slice Ao22 t395.length co22)) (λ_ _=>trivial),by (with_reducible repeat (first|apply ra_|apply rn_|apply rd_));exact rm_ (rf_ (p:=⟨gb387,3,none⟩) (rf_ (p:=⟨gb387,2,none⟩) (rf_ (p:=⟨gb387,1,none⟩) (rf_ (p:=⟨gb387,0,none⟩) (rf_ (p:=⟨gb388,3,none⟩) (rt_ (rt_ HO394.out BK388.out (by decide)) BK387.out (by decide)) (fun _ hk => hk.1.2) (.slice Ao22 t395.length co22)) (λ_ h=>h.2) (.int .i64 a0_0)) (λ_ h=>h.2) (.slice Ao14 t389.length co14)) (λ_ h=>h.2) (.slice Ao18 t392.length co18)) (λ_ h=>h.2) (.slice Ao22 t395.length co22)) (fun _ hk => hk.1.1.2),by (with_reducible repeat (first|apply ra_|apply rn_|apply rd_));exact rm_ (rf_ (p:=⟨gb387,3,none⟩) (rf_ (p:=⟨gb387,2,none⟩) (rf_ (p:=⟨gb387,1,none⟩) (rf_ (p:=⟨gb387,0,none⟩) (rf_ (p:=⟨gb388,3,none⟩) (rt_ (rt_ HO397.out BK388.out (by decide)) BK387.out (by decide)) (fun _ hk => hk.1.2) (.slice Ao22 t395.length co22)) (λ_ h=>h.2) (.int .i64 a0_0)) (λ_ h=>h.2) (.slice Ao14 t389.length co14)) (λ_ h=>h.2) (.slice Ao18 t392.length co18)) (λ_ h=>h.2) (.slice Ao22 t395.length co22)) (fun _ hk => hk.1.1.2),u3_ HB GE386 GE387 GE388⟩

/-! ### laws_toHop: function 51 -/
def laws_toHop.f (a0_0 : Int) (a0_1 : Int) (a0_2 : Int) : Option (Int × Int × Int):=some (a0_0,a0_1,a0_2)
set_option maxHeartbeats 8000000 in
set_option maxRecDepth 100000 in
theorem laws_toHop.calls (a0_0 : Int) (a0_1 : Int) (a0_2 : Int) (r1 : Int) (r2 : Int) (r3 : Int) (w : World) (h : laws_toHop.f a0_0 a0_1 a0_2 = some (r1,r2,r3)) :
  Calls Try.prog 51 #[.agg #[.int .i64 a0_0,.int .i64 a0_1,.int .i64 a0_2]] w fun e w' => e = .returned (.agg #[.int .i64 r1,.int .i64 r2,.int .i64 r3]) ∧ Below w.heap.size w w':=by
 have hu88:=Try.underlying88
 have hu37:=Try.underlying37
 have HB:=mk_ (Below.refl w.heap.size w)
 have H : (some (a0_0,a0_1,a0_2)) = some (r1,r2,r3):=h
 clear h
 simp only [Option.some.injEq,Prod.mk.injEq] at H
 obtain ⟨rfl,rfl,rfl⟩:=H
 go_enter Try.func51,Try.ntmps51
 go_wp2_with (first|((with_reducible refine gate_dst (N:=1) rfl ?_);refine box_event ?hg (N:=1) ?hd (cs:=#[.int .i64 a0_0,.int .i64 a0_1,.int .i64 a0_2]) (t:=88) ?hr ?_;(case hd => rfl);(case hg => rfl);(case hr => first|(go_simp;done)|(go_simp;rfl));intro gb398 hg w2 hbox hb;have n0_:=mk_ (st_ (qb_ HB) hb);have n1_:=mk_ (hbox);have n2_:=mk_ ((by rw [hg];exact (bz_ (qb_ HB)) : w.heap.size ≤ gb398));have n3_:=mk_ ((by rw [hg];exact (bz_ (qb_ HB)) : w.heap.size ≤ gb398));clear HB;have HB:=n0_;have BK398:=n1_;have GW398:=n2_;have GE398:=n3_;clear n0_ n1_ n2_ n3_ hb hbox hg)|((with_reducible refine gate_dst (N:=2) rfl ?_);refine box_event ?hg (N:=2) ?hd (cs:=#[.int .i64 0,.int .i64 0,.int .i64 0]) (t:=37) ?hr ?_;(case hd => rfl);(case hg => rfl);(case hr => first|(go_simp;done)|(go_simp;rfl));intro gb399 hg w3 hbox hb;have n0_:=mk_ (blk_below (g:=gb398) (o:=.cells #[.int .i64 a0_0,.int .i64 a0_1,.int .i64 a0_2] 88 (0,0)) (qk_ BK398) hb);have n1_:=mk_ (st_ (qc_ HB GE398) hb);have n2_:=mk_ (hbox);have n3_:=mk_ ((by rw [hg];exact (bz_ (qc_ HB GE398)) : w.heap.size ≤ gb399));have n4_:=mk_ ((by rw [hg];exact (bz_ (qc_ HB GE398)) : w.heap.size ≤ gb399));have n5_:=mk_ ((by rw [hg];exact Nat.ne_of_lt (blk_lt (g:=gb398) (o:=.cells #[.int .i64 a0_0,.int .i64 a0_1,.int .i64 a0_2] 88 (0,0)) (qk_ BK398)) : gb398 ≠ gb399));have n6_:=mk_ ((by rw [hg];exact Nat.ne_of_gt (blk_lt (g:=gb398) (o:=.cells #[.int .i64 a0_0,.int .i64 a0_1,.int .i64 a0_2] 88 (0,0)) (qk_ BK398)) : gb399 ≠ gb398));clear BK398 HB;have BK398:=n0_;have HB:=n1_;have BK399:=n2_;have GW399:=n3_;have GE399:=n4_;have NB398_399:=n5_;have NB399_398:=n6_;clear n0_ n1_ n2_ n3_ n4_ n5_ n6_ hb hbox hg)|((with_reducible refine gate_dst (N:=3) rfl ?_);refine box_event ?hg (N:=3) ?hd (cs:=#[.int .i64 0,.int .i64 0,.int .i64 0]) (t:=37) ?hr ?_;(case hd => rfl);(case hg => rfl);(case hr => first|(go_simp;done)|(go_simp;rfl));intro gb400 hg w4 hbox hb;have n0_:=mk_ (blk_below (g:=gb398) (o:=.cells #[.int .i64 a0_0,.int .i64 a0_1,.int .i64 a0_2] 88 (0,0)) (qk_ BK398) hb);have n1_:=mk_ (blk_below (g:=gb399) (o:=.cells #[.int .i64 0,.int .i64 0,.int .i64 0] 37 (0,0)) (qk_ BK399) hb);have n2_:=mk_ (st_ (qd_ HB GE398 GE399) hb);have n3_:=mk_ (hbox);have n4_:=mk_ ((by rw [hg];exact (bz_ (qd_ HB GE398 GE399)) : w.heap.size ≤ gb400));have n5_:=mk_ ((by rw [hg];exact (bz_ (qd_ HB GE398 GE399)) : w.heap.size ≤ gb400));have n6_:=mk_ ((by rw [hg];exact Nat.ne_of_lt (blk_lt (g:=gb398) (o:=.cells #[.int .i64 a0_0,.int .i64 a0_1,.int .i64 a0_2] 88 (0,0)) (qk_ BK398)) : gb398 ≠ gb400));have n7_:=mk_ ((by rw [hg];exact Nat.ne_of_gt (blk_lt (g:=gb398) (o:=.cells #[.int .i64 a0_0,.int .i64 a0_1,.int .i64 a0_2] 88 (0,0)) (qk_ BK398)) : gb400 ≠ gb398));have n8_:=mk_ ((by rw [hg];exact Nat.ne_of_lt (blk_lt (g:=gb399) (o:=.cells #[.int .i64 0,.int .i64 0,.int .i64 0] 37 (0,0)) (qk_ BK399)) : gb399 ≠ gb400));have n9_:=mk_ ((by rw [hg];exact Nat.ne_of_gt (blk_lt (g:=gb399) (o:=.cells #[.int .i64 0,.int .i64 0,.int .i64 0] 37 (0,0)) (qk_ BK399)) : gb400 ≠ gb399));clear BK398 BK399 HB;have BK398:=n0_;have BK399:=n1_;have HB:=n2_;have BK400:=n3_;have GW400:=n4_;have GE400:=n5_;have NB398_400:=n6_;have NB400_398:=n7_;have NB399_400:=n8_;have NB400_399:=n9_;clear n0_ n1_ n2_ n3_ n4_ n5_ n6_ n7_ n8_ n9_ hb hbox hg;have hnb5:=NB398_399.out;have hnc5:=NB399_398.out;have hnb6:=NB398_400.out;have hnc6:=NB400_398.out;have hcz7_0 : w4.cell? ⟨gb398,0,none⟩ = some (.int .i64 a0_0):=(bc_ BK398.out 0).trans rfl;have hcz7_1 : w4.cell? ⟨gb398,1,none⟩ = some (.int .i64 a0_1):=(bc_ BK398.out 1).trans rfl;have hcz7_2 : w4.cell? ⟨gb398,2,none⟩ = some (.int .i64 a0_2):=(bc_ BK398.out 2).trans rfl;have hfz7_0:=bf_ BK398.out 0;have hfz7_1:=bf_ BK398.out 1;have hfz7_2:=bf_ BK398.out 2;have hnb8:=NB400_399.out;have hnc8:=NB399_400.out;have hcz9_0 : w4.cell? ⟨gb400,0,none⟩ = some (.int .i64 0):=(bc_ BK400.out 0).trans rfl;have hcz9_1 : w4.cell? ⟨gb400,1,none⟩ = some (.int .i64 0):=(bc_ BK400.out 1).trans rfl;have hcz9_2 : w4.cell? ⟨gb400,2,none⟩ = some (.int .i64 0):=(bc_ BK400.out 2).trans rfl;have hfz9_0:=bf_ BK400.out 0;have hfz9_1:=bf_ BK400.out 1;have hfz9_2:=bf_ BK400.out 2;have hcz10_0 : w4.cell? ⟨gb399,0,none⟩ = some (.int .i64 0):=(bc_ BK399.out 0).trans rfl;have hcz10_1 : w4.cell? ⟨gb399,1,none⟩ = some (.int .i64 0):=(bc_ BK399.out 1).trans rfl;have hcz10_2 : w4.cell? ⟨gb399,2,none⟩ = some (.int .i64 0):=(bc_ BK399.out 2).trans rfl;have hfz10_0:=bf_ BK399.out 0;have hfz10_1:=bf_ BK399.out 1;have hfz10_2:=bf_ BK399.out 2))
 refine bodyPost_ret (results_cell_row rfl _ _ gb399 37 #[.int .i64 a0_0,.int .i64 a0_1,.int .i64 a0_2] (0,0) _ rfl (by (with_reducible repeat (first|apply kn_|apply kd_|apply ka_));refine blk_put (cs:=#[.int .i64 a0_0,.int .i64 a0_1,.int .i64 0]) ?_ 2 _ rfl;(with_reducible repeat (first|apply kn_|apply kd_|apply ka_));refine blk_put (cs:=#[.int .i64 a0_0,.int .i64 0,.int .i64 0]) ?_ 1 _ rfl;(with_reducible repeat (first|apply kn_|apply kd_|apply ka_));refine blk_put (cs:=#[.int .i64 0,.int .i64 0,.int .i64 0]) ?_ 0 _ rfl;(with_reducible repeat (first|apply kn_|apply kd_|apply ka_));refine blk_far ?_ NB399_400.out _;(with_reducible repeat (first|apply kn_|apply kd_|apply ka_));refine blk_far ?_ NB399_400.out _;(with_reducible repeat (first|apply kn_|apply kd_|apply ka_));refine blk_far ?_ NB399_400.out _;(with_reducible repeat (first|apply kn_|apply kd_|apply ka_));exact BK399.out) Try.underlying37 rfl (by kernel_rfl)) rfl ?_
 exact ⟨qe_,u3_ HB GE398 GE399 GE400⟩

/-! ### laws_toHopS: function 20 -/
def laws_toHopS.l0 : Nat → List (S88) → List (S37) → Int → Option ((List (S37)))
 | 0,_,_,_ => none
 | k + 1,x0,x3,x4 => if x4 < (x0.length : Int) then (if 0 ≤ x4 then ((laws_toHop.f ((rd_T88 x0 x4).f0) ((rd_T88 x0 x4).f1) ((rd_T88 x0 x4).f2)).bind fun bt405 => (if x4 < (x3.length : Int) then (laws_toHopS.l0 k x0 (x3.set (x4 : Int).toNat (⟨bt405.1,bt405.2.1,bt405.2.2⟩ : S37)) (wrap64 (x4 + 1))) else (none))) else (none)) else (some x3)
def laws_toHopS.f (k : Nat) (l0 : List (S88)) : Option ((List (S37))):=if 0 ≤ (l0.length : Int) then (if ((l0.length : Int) : Int).toNat ≤ 11728124029610 then (laws_toHopS.l0 k l0 (List.replicate ((l0.length : Int) : Int).toNat z37) 0) else (none)) else (none)
theorem laws_toHopS.mono_l : ∀ k,(∀ y0 y1 y2,LeO (laws_toHopS.l0 k y0 y1 y2) (laws_toHopS.l0 (k + 1) y0 y1 y2))
 | 0 => fun _ _ _ r h => by simp [laws_toHopS.l0] at h
 | k + 1 => by
  have ih0:=laws_toHopS.mono_l k
  ·intro y0 y1 y2
   unfold laws_toHopS.l0
   repeat' first
   | (with_reducible exact ih0 _ _ _)
   | (with_reducible exact LeO.refl _)
   | (with_reducible exact LeO.none _)
   | (with_reducible refine LeO.ite ?_ ?_)
   | (with_reducible refine LeO.bind ?_ (fun _ => ?_))
   | exact ih0 _ _ _
   | exact LeO.none _
   | refine LeO.ite ?_ ?_
   | refine LeO.bind ?_ (fun _ => ?_)
theorem laws_toHopS.mono : ∀ a0 k,LeO (laws_toHopS.f k a0) (laws_toHopS.f (k + 1) a0):=by
 intro a0 k
 have ih0:=laws_toHopS.mono_l k
 unfold laws_toHopS.f
 repeat' first
   | (with_reducible exact ih0 _ _ _)
   | (with_reducible exact LeO.refl _)
   | (with_reducible exact LeO.none _)
   | (with_reducible refine LeO.ite ?_ ?_)
   | (with_reducible refine LeO.bind ?_ (fun _ => ?_))
   | exact ih0 _ _ _
   | exact LeO.none _
   | refine LeO.ite ?_ ?_
   | refine LeO.bind ?_ (fun _ => ?_)
set_option maxHeartbeats 8000000 in
set_option maxRecDepth 100000 in
theorem laws_toHopS.calls (k : Nat) (A0 : Option Addr) (c0 : Nat) (l0 : List (S88)) (r : List (S37)) (w : World) (hr0 : Kd.C k88 w A0 l0.length l0) (hc0 : l0.length ≤ c0) (h : laws_toHopS.f k l0 = some r) :
  Calls Try.prog 20 #[.slice A0 l0.length c0] w fun e w' => ∃ v0_ : Value,e = .returned (v0_) ∧ Kd.R k37 37 w' w.heap.size (fun _ => True) v0_ r ∧ Below w.heap.size w w':=by
 have hu88:=Try.underlying88
 have hu37:=Try.underlying37
 have HR0:=mk_ hr0
 have HC0:=mk_ hc0
 clear hr0 hc0
 have HB:=mk_ (Below.refl w.heap.size w)
 have H : (if 0 ≤ (l0.length : Int) then (if ((l0.length : Int) : Int).toNat ≤ 11728124029610 then (laws_toHopS.l0 k l0 (List.replicate ((l0.length : Int) : Int).toNat z37) 0) else (none)) else (none)) = some r:=h
 clear h
 by_cases c2 : 0 ≤ (l0.length : Int)
 ·rw [if_pos c2] at H
  have c2b0:=eq_true c2
  have c2b1 : decide (0 ≤ (l0.length : Int)) = true:=decide_eq_true c2
  clear c2
  by_cases c3 : ((l0.length : Int) : Int).toNat ≤ 11728124029610
  ·rw [if_pos c3] at H
   have c3b0:=eq_true c3
   have c3b1 : decide (((l0.length : Int) : Int).toNat ≤ 11728124029610) = true:=decide_eq_true c3
   clear c3
   obtain ⟨y401,hy401⟩ : ∃ y_ : List (S37),y_ = (List.replicate ((l0.length : Int) : Int).toNat z37):=⟨_,rfl⟩
   replace H : (laws_toHopS.l0 k l0 y401 0) = some r:=by first|(rw [hy401];with_reducible exact H)|(have H2_:=(Option.bind_some _ _).symm.trans H;rw [hy401];with_reducible exact H2_)|(have H2_:=(Option.bind_some _ _).symm.trans H;with_reducible exact H2_)|with_reducible exact H|(rw [hy401];exact H)|exact H
   have Ny401:=mk_ hy401
   clear hy401
   have H':=mk_ H
   clear H
   go_enter Try.func20,Try.ntmps20
   go_wp2_with (first|((with_reducible refine gate_dst (N:=7) rfl ?_);refine Kd.R_make k37 _ 37 rfl (N:=7) rfl 27 _ _ rfl (l0.length : Int) rfl rfl Try.underlying27 (.agg #[(.int .i64 0),(.int .i64 0),(.int .i64 0)]) 24 info37 rfl (by decide) (by omega) z37 (ok:=fun _ => True) (okp:=fun _ => True) (k37_mkM _ _ _ z37 ) (fun _ hk => hk) trivial (od_ qa_) (Nat.le_trans (Nat.mul_le_mul_right _ (od_ qa_ : (l0.length : Int).toNat ≤ 11728124029610)) (by omega)) (Below.refl _ _) (Nat.le_refl _) ?_;intro v402 w4 ho5 hb hg_ hnew_;clear hg_ hnew_;(first|rw [← Ny401.out] at ho5|(simp only [Int.reduceToNat] at ho5;rw [← Ny401.out] at ho5));have n0_:=mk_ (Kd.R_lower ho5 (bz_ (qb_ HB)));have n1_:=mk_ (st_ (qb_ HB) hb);clear HB;have HO403:=n0_;have HB:=n1_;clear n0_ n1_ hb ho5))
   go_loopg [4] k (fun kq v4 w' => ∃ (x3_1 : List (S37)) (x4_1 : Int),v4 = .int .i64 x4_1 ∧ Aside0 (laws_toHopS.l0 kq l0 x3_1 x4_1 = some r) ∧ Aside0 (kq ≤ k) ∧ Aside0 (Kd.R k37 37 w' w.heap.size (fun _ => True) v402 x3_1) ∧ Aside0 (Below w.heap.size w w'))
   case atStart => exact ⟨(y401),(0),qf_,H',⟨Nat.le_refl _⟩,⟨qr_ HO403⟩,⟨u1_ HB⟩⟩
   case round =>
    clear H'
    try clear c2
    try clear c2b0
    try clear c2b1
    try clear p2
    try clear c3
    try clear c3b0
    try clear c3b1
    obtain ⟨x3_1,x4_1,rfl,HA,HK1,HO_3,HB⟩:=hrel
    cases gk with
    | zero => exact absurd HA.out (by simp [laws_toHopS.l0])
    | succ k1 =>
     have H:=HA.out
     clear HA
     simp only [laws_toHopS.l0] at H
     by_cases c6 : x4_1 < (l0.length : Int)
     ·rw [if_pos c6] at H
      have c6b0 : decide (x4_1 < (l0.length : Int)) = true:=decide_eq_true c6
      clear c6
      by_cases c7 : 0 ≤ x4_1
      ·rw [if_pos c7] at H
       have c7b0 : decide (0 ≤ x4_1) = true:=decide_eq_true c7
       clear c7
       replace H:=Option.bind_eq_some_iff.mp H
       obtain ⟨⟨t405,t406,t407⟩,A80,H⟩:=H
       replace H : (if x4_1 < (x3_1.length : Int) then (laws_toHopS.l0 k1 l0 (x3_1.set (x4_1 : Int).toNat (⟨t405,t406,t407⟩ : S37)) (wrap64 (x4_1 + 1))) else (none)) = some r:=H
       have A8:=mk_ A80
       clear A80
       by_cases c9 : x4_1 < (x3_1.length : Int)
       ·rw [if_pos c9] at H
        have c9b0 : decide (x4_1 < (x3_1.length : Int)) = true:=decide_eq_true c9
        clear c9
        obtain ⟨y408,hy408⟩ : ∃ y_ : List (S37),y_ = (x3_1.set (x4_1 : Int).toNat (⟨t405,t406,t407⟩ : S37)):=⟨_,rfl⟩
        replace H : (laws_toHopS.l0 k1 l0 y408 (wrap64 (x4_1 + 1))) = some r:=by first|(rw [hy408];with_reducible exact H)|(have H2_:=(Option.bind_some _ _).symm.trans H;rw [hy408];with_reducible exact H2_)|(have H2_:=(Option.bind_some _ _).symm.trans H;with_reducible exact H2_)|with_reducible exact H|(rw [hy408];exact H)|exact H
        have Ny408:=mk_ hy408
        clear hy408
        have H':=mk_ H
        clear H
        have p404 : 0 ≤ (x4_1 : Int):=od_ qa_
        have q404 : x4_1 < (l0.length : Int):=od_ qa_
        obtain ⟨ad404,e404,hx404_0,hx404_1,hx404_2⟩:=at_T88 HR0.out x4_1 p404 q404
        cases e404
        replace hx404_0:=(HB.out.cell (wl_ w _ hx404_0)).trans hx404_0
        replace hx404_1:=(HB.out.cell (wl_ w _ hx404_1)).trans hx404_1
        replace hx404_2:=(HB.out.cell (wl_ w _ hx404_2)).trans hx404_2
        replace p404:=eq_true p404
        replace q404:=eq_true q404
        go_wp2_with (first|((with_reducible refine gate_callee (f:=51) rfl ?_);refine goesL_ (some 20) rfl rfl Try.func51 (by kernel_rfl) rfl #[.agg #[.int .i64 ((rd_T88 l0 x4_1).f0),.int .i64 ((rd_T88 l0 x4_1).f1),.int .i64 ((rd_T88 l0 x4_1).f2)]] rfl qm_ ?_;(with_reducible refine (laws_toHop.calls ((rd_T88 l0 x4_1).f0) ((rd_T88 l0 x4_1).f1) ((rd_T88 l0 x4_1).f2) t405 t406 t407 _ A8.out).mono ?_);rintro e w11 ⟨rfl,hb⟩;refine ⟨_,rfl,?_⟩;have n0_:=mk_ (rb_ (qr_ HO_3) hb);have n1_:=mk_ (st_ (qb_ HB) hb);clear HO_3 HB;have HO_3:=n0_;have HB:=n1_;clear n0_ n1_;(try clear hb);(try clear hb2);(try clear hk);(try clear hi);have p10 : 0 ≤ (x4_1 : Int):=od_ qa_;have q10 : (x4_1 : Int) < ((x3_1.length : Int) : Int):=od_ qa_;obtain ⟨go10,co10,eo10,gb10,gl10,cl10,HG10⟩:=Kd.R_form HO_3.out (by omega);(first|cases eo10|(injection eo10 with ea_ en_ ec_;(first|subst ea_|(injection ea_ with ea_;subst ea_));subst ec_;clear en_));have GB10:=mk_ gb10;have GG10:=mk_ HG10;clear gb10 gl10 HG10;obtain ⟨ce10,hcl10,hM10,hcc10,hfr10⟩:=Kd.R_elem HO_3.out z37 (x4_1 : Int) p10 q10;obtain rfl:=k37_openM hM10;have hx10_0 : w11.cell? ⟨go10,(x4_1 : Int).toNat * 3,none⟩ = some (.int .i64 ((rd_T37 x3_1 x4_1).f0)):=hcc10 0 _ rfl;have hx10_1 : w11.cell? ⟨go10,(x4_1 : Int).toNat * 3 + 1,none⟩ = some (.int .i64 ((rd_T37 x3_1 x4_1).f1)):=hcc10 1 _ rfl;have hx10_2 : w11.cell? ⟨go10,(x4_1 : Int).toNat * 3 + 2,none⟩ = some (.int .i64 ((rd_T37 x3_1 x4_1).f2)):=hcc10 2 _ rfl;have hf10_0 : w11.frozen? ⟨go10,(x4_1 : Int).toNat * 3,none⟩ = false:=hfr10 0;have hf10_1 : w11.frozen? ⟨go10,(x4_1 : Int).toNat * 3 + 1,none⟩ = false:=hfr10 1;have hf10_2 : w11.frozen? ⟨go10,(x4_1 : Int).toNat * 3 + 2,none⟩ = false:=hfr10 2;clear hcl10 hcc10 hfr10 hM10;replace p10:=eq_true p10;replace q10:=eq_true q10;have HX12:=mk_ (show Kd.R k37 37 w11 w.heap.size (fun _ => True) (.slice (some ⟨go10,0,none⟩) x3_1.length co10) x3_1 from (qr_ HO_3));obtain ⟨ce12,hcl12,hM12,hcc12,hfr12⟩:=Kd.R_elem HX12.out z37 (x4_1 : Int) (od_ qa_) (by have h_ : (x4_1 : Int) < ((x3_1.length : Int) : Int):=od_ qa_;first|exact h_|(have e_:=(rr_ HO_3.out).1;omega)|simpa using h_);obtain rfl:=k37_openM hM12;have HP12:=Kd.R_seg HX12.out (x4_1 : Int) (od_ qa_) (by have h_ : (x4_1 : Int) < ((x3_1.length : Int) : Int):=od_ qa_;first|exact h_|(have e_:=(rr_ HO_3.out).1;omega)|simpa using h_) (seg:=[.int .i64 t405,.int .i64 t406,.int .i64 t407]) (j:=0) hcl12 hcc12 (show 3 ≤ 3 from by decide) (x':=(⟨t405,t406,t407⟩ : S37)) (k37_mkM _ _ _ (⟨t405,t406,t407⟩ : S37) ) (fun _ hk => hk);have hx12_0:=hcc12 0 _ rfl;(try simp only [show (k37).sz = 3 from rfl,Nat.mul_one,Nat.add_zero] at hx12_0);have hf12_0:=hfr12 0;(try simp only [show (k37).sz = 3 from rfl,Nat.mul_one,Nat.add_zero] at hf12_0);have hx12_1:=hcc12 1 _ rfl;(try simp only [show (k37).sz = 3 from rfl,Nat.mul_one,Nat.add_zero] at hx12_1);have hf12_1:=hfr12 1;(try simp only [show (k37).sz = 3 from rfl,Nat.mul_one,Nat.add_zero] at hf12_1);have hx12_2:=hcc12 2 _ rfl;(try simp only [show (k37).sz = 3 from rfl,Nat.mul_one,Nat.add_zero] at hx12_2);have hf12_2:=hfr12 2;(try simp only [show (k37).sz = 3 from rfl,Nat.mul_one,Nat.add_zero] at hf12_2);clear hcl12 hcc12 hfr12 hM12)|((with_reducible refine gate_store (t:=37) (p:=21) rfl ?_);refine store_event (t:=37) (p:=21) (v:=?vo_w13) (w1:=(((w11.setCell ⟨go10,(x4_1 : Int).toNat * 3,none⟩ (.int .i64 t405)).setCell ⟨go10,(x4_1 : Int).toNat * 3 + 1,none⟩ (.int .i64 t406)).setCell ⟨go10,(x4_1 : Int).toNat * 3 + 2,none⟩ (.int .i64 t407))) ?hg ?ho ?hn ?hr ?_;(case ho => rfl);(case hg => rfl);(case hn => rfl);(case hr => first|(go_simp;done)|(go_simp;rfl));intro w13 hw;have hg : w11.grownBy w13 (some go10):=(by rw [hw];exact HP12.2);have hp_ : Kd.R k37 37 w13 w.heap.size (fun _ => True) (.slice (some ⟨go10,0,none⟩) x3_1.length co10) y408:=(by rw [hw,Ny408.out];exact HP12.1);clear HP12;have n0_:=mk_ (hp_);have n1_:=mk_ ((by rw [hw];exact bs_ (bs_ (bs_ (HB.out) GB10.out) GB10.out) GB10.out : Below w.heap.size w w13));clear HO_3 HB;have HO_3:=n0_;have HB:=n1_;clear n0_ n1_ hg hw hp_))
        go_roundg k1
        case measure => have:=HK1.out;omega
        case rel => exact ⟨(y408),(wrap64 (x4_1 + 1)),qf_,H',⟨by have:=HK1.out;omega⟩,⟨qr_ HO_3⟩,⟨u1_ HB⟩⟩
       ·rw [if_neg c9] at H
        exact absurd H (by simp)
      ·rw [if_neg c7] at H
       exact absurd H (by simp)
     ·rw [if_neg c6] at H
      have c6b0 : decide (x4_1 < (l0.length : Int)) = false:=decide_eq_false c6
      clear c6
      obtain rfl:=Option.some.inj H
      go_wp2
      go_ret
      exact ⟨_,qe_,qr_ HO_3,u1_ HB⟩
  ·rw [if_neg c3] at H
   exact absurd H (by simp)
 ·rw [if_neg c2] at H
  exact absurd H (by simp)

/-! ### laws_eqIntS: function 54 -/
def laws_eqIntS.l0 : Nat → List Int → List Int → Int → Option (Bool)
 | 0,_,_,_ => none
 | k + 1,x0,x1,x5 => if x5 < (x0.length : Int) then (if 0 ≤ x5 then (if x5 < (x1.length : Int) then (if (rd x0 x5) = (rd x1 x5) then (laws_eqIntS.l0 k x0 x1 (wrap64 (x5 + 1))) else (some false)) else (none)) else (none)) else (some true)
def laws_eqIntS.f (k : Nat) (l0 : List Int) (l1 : List Int) : Option (Bool):=if (l0.length : Int) = (l1.length : Int) then (laws_eqIntS.l0 k l0 l1 0) else (some false)
theorem laws_eqIntS.mono_l : ∀ k,(∀ y0 y1 y2,LeO (laws_eqIntS.l0 k y0 y1 y2) (laws_eqIntS.l0 (k + 1) y0 y1 y2))
 | 0 => fun _ _ _ r h => by simp [laws_eqIntS.l0] at h
 | k + 1 => by
  have ih0:=laws_eqIntS.mono_l k
  ·intro y0 y1 y2
   unfold laws_eqIntS.l0
   repeat' first
   | (with_reducible exact ih0 _ _ _)
   | (with_reducible exact LeO.refl _)
   | (with_reducible exact LeO.none _)
   | (with_reducible refine LeO.ite ?_ ?_)
   | (with_reducible refine LeO.bind ?_ (fun _ => ?_))
   | exact ih0 _ _ _
   | exact LeO.none _
   | refine LeO.ite ?_ ?_
   | refine LeO.bind ?_ (fun _ => ?_)
theorem laws_eqIntS.mono : ∀ a0 a1 k,LeO (laws_eqIntS.f k a0 a1) (laws_eqIntS.f (k + 1) a0 a1):=by
 intro a0 a1 k
 have ih0:=laws_eqIntS.mono_l k
 unfold laws_eqIntS.f
 repeat' first
   | (with_reducible exact ih0 _ _ _)
   | (with_reducible exact LeO.refl _)
   | (with_reducible exact LeO.none _)
   | (with_reducible refine LeO.ite ?_ ?_)
   | (with_reducible refine LeO.bind ?_ (fun _ => ?_))
   | exact ih0 _ _ _
   | exact LeO.none _
   | refine LeO.ite ?_ ?_
   | refine LeO.bind ?_ (fun _ => ?_)
set_option maxHeartbeats 8000000 in
set_option maxRecDepth 100000 in
theorem laws_eqIntS.calls (k : Nat) (A0 : Option Addr) (c0 : Nat) (l0 : List Int) (A1 : Option Addr) (c1 : Nat) (l1 : List Int) (r : Bool) (w : World) (hr0 : Kd.C (Kd.int .i64) w A0 l0.length l0) (hc0 : l0.length ≤ c0) (hr1 : Kd.C (Kd.int .i64) w A1 l1.length l1) (hc1 : l1.length ≤ c1) (h : laws_eqIntS.f k l0 l1 = some r) :
  Calls Try.prog 54 #[.slice A0 l0.length c0,.slice A1 l1.length c1] w fun e w' => e = .returned (.bool r) ∧ Drawn0 w w':=by
 have HR0:=mk_ hr0
 have HC0:=mk_ hc0
 clear hr0 hc0
 have HR1:=mk_ hr1
 have HC1:=mk_ hc1
 clear hr1 hc1
 have H : (if (l0.length : Int) = (l1.length : Int) then (laws_eqIntS.l0 k l0 l1 0) else (some false)) = some r:=h
 clear h
 by_cases c3 : (l0.length : Int) = (l1.length : Int)
 ·rw [if_pos c3] at H
  have c3b0 : ((l0.length : Int) == (l1.length : Int)) = true:=beq_iff_eq.mpr c3
  have c3b1 : ((l0.length : Int) != (l1.length : Int)) = false:=bne_eq_false_iff_eq.mpr c3
  have c3b2 : (l0.length == l1.length) = true:=by first|simpa using c3|(simp at c3 ⊢;omega)
  clear c3
  have H':=mk_ H
  clear H
  go_enter Try.func54,Try.ntmps54
  go_wp2
  repeat (go_quiet (fail);try go_wp2)
  go_loopg [5] k (fun kq v5 w' => ∃ (x5_1 : Int),v5 = .int .i64 x5_1 ∧ Aside0 (laws_eqIntS.l0 kq l0 l1 x5_1 = some r) ∧ Aside0 (kq ≤ k) ∧ Drawn0 w w')
  case atStart => exact ⟨(0),qf_,H',⟨Nat.le_refl _⟩,by repeat (first|exact Drawn0.refl _|apply Drawn0.step)⟩
  case round =>
   clear H'
   try clear c1
   try clear p2
   try clear c3
   try clear c3b0
   try clear c3b1
   try clear c3b2
   obtain ⟨x5_1,rfl,HA,HK1,⟨m1,rfl⟩⟩:=hrel
   cases gk with
   | zero => exact absurd HA.out (by simp [laws_eqIntS.l0])
   | succ k1 =>
    have H:=HA.out
    clear HA
    simp only [laws_eqIntS.l0] at H
    by_cases c4 : x5_1 < (l0.length : Int)
    ·rw [if_pos c4] at H
     have c4b0 : decide (x5_1 < (l0.length : Int)) = true:=decide_eq_true c4
     clear c4
     by_cases c5 : 0 ≤ x5_1
     ·rw [if_pos c5] at H
      have c5b0 : decide (0 ≤ x5_1) = true:=decide_eq_true c5
      clear c5
      by_cases c6 : x5_1 < (l1.length : Int)
      ·rw [if_pos c6] at H
       have c6b0 : decide (x5_1 < (l1.length : Int)) = true:=decide_eq_true c6
       clear c6
       by_cases c7 : (rd l0 x5_1) = (rd l1 x5_1)
       ·rw [if_pos c7] at H
        have c7b0 : ((rd l0 x5_1) == (rd l1 x5_1)) = true:=beq_iff_eq.mpr c7
        have c7b1 : ((rd l0 x5_1) != (rd l1 x5_1)) = false:=bne_eq_false_iff_eq.mpr c7
        clear c7
        have H':=mk_ H
        clear H
        have p409 : 0 ≤ (x5_1 : Int):=od_ qa_
        have q409 : x5_1 < (l0.length : Int):=od_ qa_
        obtain ⟨ad409,e409,hx409_0⟩:=Kd.at_int HR0.out x5_1 p409 q409
        cases e409
        replace p409:=eq_true p409
        replace q409:=eq_true q409
        have p410 : 0 ≤ (x5_1 : Int):=od_ qa_
        have q410 : x5_1 < (l1.length : Int):=od_ qa_
        obtain ⟨ad410,e410,hx410_0⟩:=Kd.at_int HR1.out x5_1 p410 q410
        cases e410
        replace p410:=eq_true p410
        replace q410:=eq_true q410
        go_wp2
        repeat (go_quiet (fail);try go_wp2)
        go_roundg k1
        case measure => have:=HK1.out;omega
        case rel => exact ⟨(wrap64 (x5_1 + 1)),qf_,H',⟨by have:=HK1.out;omega⟩,by repeat (first|exact Drawn0.refl _|apply Drawn0.step)⟩
       ·rw [if_neg c7] at H
        have c7b0 : ((rd l0 x5_1) == (rd l1 x5_1)) = false:=beq_eq_false_iff_ne.mpr c7
        have c7b1 : ((rd l0 x5_1) != (rd l1 x5_1)) = true:=bne_iff_ne.mpr c7
        obtain rfl:=Option.some.inj H
        have p409 : 0 ≤ (x5_1 : Int):=od_ qa_
        have q409 : x5_1 < (l0.length : Int):=od_ qa_
        obtain ⟨ad409,e409,hx409_0⟩:=Kd.at_int HR0.out x5_1 p409 q409
        cases e409
        replace p409:=eq_true p409
        replace q409:=eq_true q409
        have p410 : 0 ≤ (x5_1 : Int):=od_ qa_
        have q410 : x5_1 < (l1.length : Int):=od_ qa_
        obtain ⟨ad410,e410,hx410_0⟩:=Kd.at_int HR1.out x5_1 p410 q410
        cases e410
        replace p410:=eq_true p410
        replace q410:=eq_true q410
        go_wp2
        repeat (go_quiet (fail);try go_wp2)
        go_ret
        exact ⟨by first|rfl|(simp;done)|(simp [*];done),by repeat (first|exact Drawn0.refl _|apply Drawn0.step)⟩
      ·rw [if_neg c6] at H
       exact absurd H (by simp)
     ·rw [if_neg c5] at H
      exact absurd H (by simp)
    ·rw [if_neg c4] at H
     have c4b0 : decide (x5_1 < (l0.length : Int)) = false:=decide_eq_false c4
     clear c4
     obtain rfl:=Option.some.inj H
     go_wp2
     repeat (go_quiet (fail);try go_wp2)
     go_ret
     exact ⟨by first|rfl|(simp;done)|(simp [*];done),by repeat (first|exact Drawn0.refl _|apply Drawn0.step)⟩
 ·rw [if_neg c3] at H
  have c3b0 : ((l0.length : Int) == (l1.length : Int)) = false:=beq_eq_false_iff_ne.mpr c3
  have c3b1 : ((l0.length : Int) != (l1.length : Int)) = true:=bne_iff_ne.mpr c3
  have c3b2 : (l0.length == l1.length) = false:=by first|simpa using c3|(simp at c3 ⊢;omega)
  obtain rfl:=Option.some.inj H
  go_enter Try.func54,Try.ntmps54
  go_wp2
  repeat (go_quiet (fail);try go_wp2)
  go_ret
  exact ⟨by first|rfl|(simp;done)|(simp [*];done),by repeat (first|exact Drawn0.refl _|apply Drawn0.step)⟩

/-! ### laws_eqIntSS: function 52 -/
def laws_eqIntSS.l0 : Nat → List (List Int) → List (List Int) → Int → Option (Bool)
 | 0,_,_,_ => none
 | k + 1,x0,x1,x5 => if x5 < (x0.length : Int) then (if 0 ≤ x5 then (if x5 < (x1.length : Int) then ((laws_eqIntS.f k (rd_L4 x0 x5) (rd_L4 x1 x5)).bind fun t413 => (if t413 = true then (laws_eqIntSS.l0 k x0 x1 (wrap64 (x5 + 1))) else (some false))) else (none)) else (none)) else (some true)
def laws_eqIntSS.f (k : Nat) (l0 : List (List Int)) (l1 : List (List Int)) : Option (Bool):=if (l0.length : Int) = (l1.length : Int) then (laws_eqIntSS.l0 k l0 l1 0) else (some false)
theorem laws_eqIntSS.mono_l : ∀ k,(∀ y0 y1 y2,LeO (laws_eqIntSS.l0 k y0 y1 y2) (laws_eqIntSS.l0 (k + 1) y0 y1 y2))
 | 0 => fun _ _ _ r h => by simp [laws_eqIntSS.l0] at h
 | k + 1 => by
  have ih0:=laws_eqIntSS.mono_l k
  ·intro y0 y1 y2
   unfold laws_eqIntSS.l0
   repeat' first
   | (with_reducible exact ih0 _ _ _)
   | (with_reducible exact laws_eqIntS.mono _ _ _)
   | (with_reducible exact LeO.refl _)
   | (with_reducible exact LeO.none _)
   | (with_reducible refine LeO.ite ?_ ?_)
   | (with_reducible refine LeO.bind ?_ (fun _ => ?_))
   | exact ih0 _ _ _
   | exact laws_eqIntS.mono _ _ _
   | exact LeO.none _
   | refine LeO.ite ?_ ?_
   | refine LeO.bind ?_ (fun _ => ?_)
theorem laws_eqIntSS.mono : ∀ a0 a1 k,LeO (laws_eqIntSS.f k a0 a1) (laws_eqIntSS.f (k + 1) a0 a1):=by
 intro a0 a1 k
 have ih0:=laws_eqIntSS.mono_l k
 unfold laws_eqIntSS.f
 repeat' first
   | (with_reducible exact ih0 _ _ _)
   | (with_reducible exact laws_eqIntS.mono _ _ _)
   | (with_reducible exact LeO.refl _)
   | (with_reducible exact LeO.none _)
   | (with_reducible refine LeO.ite ?_ ?_)
   | (with_reducible refine LeO.bind ?_ (fun _ => ?_))
   | exact ih0 _ _ _
   | exact laws_eqIntS.mono _ _ _
   | exact LeO.none _
   | refine LeO.ite ?_ ?_
   | refine LeO.bind ?_ (fun _ => ?_)
set_option maxHeartbeats 8000000 in
set_option maxRecDepth 100000 in
theorem laws_eqIntSS.calls (k : Nat) (A0 : Option Addr) (c0 : Nat) (l0 : List (List Int)) (A1 : Option Addr) (c1 : Nat) (l1 : List (List Int)) (r : Bool) (w : World) (hr0 : Kd.C (Kd.slice 3 (Kd.int .i64)) w A0 l0.length l0) (hc0 : l0.length ≤ c0) (hr1 : Kd.C (Kd.slice 3 (Kd.int .i64)) w A1 l1.length l1) (hc1 : l1.length ≤ c1) (h : laws_eqIntSS.f k l0 l1 = some r) :
  Calls Try.prog 52 #[.slice A0 l0.length c0,.slice A1 l1.length c1] w fun e w' => e = .returned (.bool r) ∧ Drawn0 w w':=by
 have HR0:=mk_ hr0
 have HC0:=mk_ hc0
 clear hr0 hc0
 have HR1:=mk_ hr1
 have HC1:=mk_ hc1
 clear hr1 hc1
 have H : (if (l0.length : Int) = (l1.length : Int) then (laws_eqIntSS.l0 k l0 l1 0) else (some false)) = some r:=h
 clear h
 by_cases c3 : (l0.length : Int) = (l1.length : Int)
 ·rw [if_pos c3] at H
  have c3b0 : ((l0.length : Int) == (l1.length : Int)) = true:=beq_iff_eq.mpr c3
  have c3b1 : ((l0.length : Int) != (l1.length : Int)) = false:=bne_eq_false_iff_eq.mpr c3
  have c3b2 : (l0.length == l1.length) = true:=by first|simpa using c3|(simp at c3 ⊢;omega)
  clear c3
  have H':=mk_ H
  clear H
  go_enter Try.func52,Try.ntmps52
  go_wp2
  repeat (go_quiet (fail);try go_wp2)
  go_loopg [5] k (fun kq v5 w' => ∃ (x5_1 : Int),v5 = .int .i64 x5_1 ∧ Aside0 (laws_eqIntSS.l0 kq l0 l1 x5_1 = some r) ∧ Aside0 (kq ≤ k) ∧ Drawn0 w w')
  case atStart => exact ⟨(0),qf_,H',⟨Nat.le_refl _⟩,by repeat (first|exact Drawn0.refl _|apply Drawn0.step)⟩
  case round =>
   clear H'
   try clear c1
   try clear p2
   try clear c3
   try clear c3b0
   try clear c3b1
   try clear c3b2
   obtain ⟨x5_1,rfl,HA,HK1,⟨m1,rfl⟩⟩:=hrel
   cases gk with
   | zero => exact absurd HA.out (by simp [laws_eqIntSS.l0])
   | succ k1 =>
    have H:=HA.out
    clear HA
    simp only [laws_eqIntSS.l0] at H
    by_cases c4 : x5_1 < (l0.length : Int)
    ·rw [if_pos c4] at H
     have c4b0 : decide (x5_1 < (l0.length : Int)) = true:=decide_eq_true c4
     clear c4
     by_cases c5 : 0 ≤ x5_1
     ·rw [if_pos c5] at H
      have c5b0 : decide (0 ≤ x5_1) = true:=decide_eq_true c5
      clear c5
      by_cases c6 : x5_1 < (l1.length : Int)
      ·rw [if_pos c6] at H
       have c6b0 : decide (x5_1 < (l1.length : Int)) = true:=decide_eq_true c6
       clear c6
       replace H:=Option.bind_eq_some_iff.mp H
       obtain ⟨t413,A70,H⟩:=H
       replace H : (if t413 = true then (laws_eqIntSS.l0 k1 l0 l1 (wrap64 (x5_1 + 1))) else (some false)) = some r:=H
       have A7:=mk_ A70
       clear A70
       by_cases c8 : t413 = true
       ·subst c8
        have H1 : (laws_eqIntSS.l0 k1 l0 l1 (wrap64 (x5_1 + 1))) = some r:=by rw [if_pos rfl] at H;exact H
        clear H
        have H:=H1
        clear H1
        have H':=mk_ H
        clear H
        have p411 : 0 ≤ (x5_1 : Int):=od_ qa_
        have q411 : x5_1 < (l0.length : Int):=od_ qa_
        obtain ⟨ad411,A411_0,c411_0,e411,hx411_0,hl411_0,hi411_0⟩:=at_L4 HR0.out x5_1 p411 q411
        cases e411
        have HR411_0:=mk_ hi411_0
        have HC411_0:=mk_ hl411_0
        clear hi411_0 hl411_0
        replace p411:=eq_true p411
        replace q411:=eq_true q411
        have p412 : 0 ≤ (x5_1 : Int):=od_ qa_
        have q412 : x5_1 < (l1.length : Int):=od_ qa_
        obtain ⟨ad412,A412_0,c412_0,e412,hx412_0,hl412_0,hi412_0⟩:=at_L4 HR1.out x5_1 p412 q412
        cases e412
        have HR412_0:=mk_ hi412_0
        have HC412_0:=mk_ hl412_0
        clear hi412_0 hl412_0
        replace p412:=eq_true p412
        replace q412:=eq_true q412
        go_wp2_with (first|(go_at_call 54;(with_reducible refine (laws_eqIntS.calls k1 _ _ (rd_L4 l0 x5_1) _ _ (rd_L4 l1 x5_1) true _ ?side1 ?side2 ?side3 ?side4 A7.out).mono ?_);(case side1 => repeat (first|exact HR411_0.out|(with_reducible refine ca_ ?_ _)|(with_reducible refine cn_ ?_ _)|(with_reducible refine cd_ ?_)));(case side2 => exact HC411_0.out);(case side3 => repeat (first|exact HR412_0.out|(with_reducible refine ca_ ?_ _)|(with_reducible refine cn_ ?_ _)|(with_reducible refine cd_ ?_)));(case side4 => exact HC412_0.out);rintro e w' ⟨rfl,⟨nd,rfl⟩⟩;(try first|exact ⟨rfl,_,World.drewN_drewN _ _ _⟩|exact ⟨rfl,_,Eq.trans (World.drewN_drewN _ _ _) (congrArg (World.drewN _) (Nat.add_assoc _ _ _))⟩)))
        repeat (go_quiet (first|(go_at_call 54;(with_reducible refine (laws_eqIntS.calls k1 _ _ (rd_L4 l0 x5_1) _ _ (rd_L4 l1 x5_1) true _ ?side1 ?side2 ?side3 ?side4 A7.out).mono ?_);(case side1 => repeat (first|exact HR411_0.out|(with_reducible refine ca_ ?_ _)|(with_reducible refine cn_ ?_ _)|(with_reducible refine cd_ ?_)));(case side2 => exact HC411_0.out);(case side3 => repeat (first|exact HR412_0.out|(with_reducible refine ca_ ?_ _)|(with_reducible refine cn_ ?_ _)|(with_reducible refine cd_ ?_)));(case side4 => exact HC412_0.out);rintro e w' ⟨rfl,⟨nd,rfl⟩⟩;(try first|exact ⟨rfl,_,World.drewN_drewN _ _ _⟩|exact ⟨rfl,_,Eq.trans (World.drewN_drewN _ _ _) (congrArg (World.drewN _) (Nat.add_assoc _ _ _))⟩)));try go_wp2_with (first|(go_at_call 54;(with_reducible refine (laws_eqIntS.calls k1 _ _ (rd_L4 l0 x5_1) _ _ (rd_L4 l1 x5_1) true _ ?side1 ?side2 ?side3 ?side4 A7.out).mono ?_);(case side1 => repeat (first|exact HR411_0.out|(with_reducible refine ca_ ?_ _)|(with_reducible refine cn_ ?_ _)|(with_reducible refine cd_ ?_)));(case side2 => exact HC411_0.out);(case side3 => repeat (first|exact HR412_0.out|(with_reducible refine ca_ ?_ _)|(with_reducible refine cn_ ?_ _)|(with_reducible refine cd_ ?_)));(case side4 => exact HC412_0.out);rintro e w' ⟨rfl,⟨nd,rfl⟩⟩;(try first|exact ⟨rfl,_,World.drewN_drewN _ _ _⟩|exact ⟨rfl,_,Eq.trans (World.drewN_drewN _ _ _) (congrArg (World.drewN _) (Nat.add_assoc _ _ _))⟩))))
        go_roundg k1
        case measure => have:=HK1.out;omega
        case rel => exact ⟨(wrap64 (x5_1 + 1)),qf_,H',⟨by have:=HK1.out;omega⟩,by repeat (first|exact Drawn0.refl _|apply Drawn0.step)⟩
       ·replace c8:=Bool.eq_false_iff.mpr c8
        subst c8
        have H1 : (some false) = some r:=by rw [if_neg (show ¬ (false = true) by decide)] at H;exact H
        clear H
        have H:=H1
        clear H1
        obtain rfl:=Option.some.inj H
        have p411 : 0 ≤ (x5_1 : Int):=od_ qa_
        have q411 : x5_1 < (l0.length : Int):=od_ qa_
        obtain ⟨ad411,A411_0,c411_0,e411,hx411_0,hl411_0,hi411_0⟩:=at_L4 HR0.out x5_1 p411 q411
        cases e411
        have HR411_0:=mk_ hi411_0
        have HC411_0:=mk_ hl411_0
        clear hi411_0 hl411_0
        replace p411:=eq_true p411
        replace q411:=eq_true q411
        have p412 : 0 ≤ (x5_1 : Int):=od_ qa_
        have q412 : x5_1 < (l1.length : Int):=od_ qa_
        obtain ⟨ad412,A412_0,c412_0,e412,hx412_0,hl412_0,hi412_0⟩:=at_L4 HR1.out x5_1 p412 q412
        cases e412
        have HR412_0:=mk_ hi412_0
        have HC412_0:=mk_ hl412_0
        clear hi412_0 hl412_0
        replace p412:=eq_true p412
        replace q412:=eq_true q412
        go_wp2_with (first|(go_at_call 54;(with_reducible refine (laws_eqIntS.calls k1 _ _ (rd_L4 l0 x5_1) _ _ (rd_L4 l1 x5_1) false _ ?side1 ?side2 ?side3 ?side4 A7.out).mono ?_);(case side1 => repeat (first|exact HR411_0.out|(with_reducible refine ca_ ?_ _)|(with_reducible refine cn_ ?_ _)|(with_reducible refine cd_ ?_)));(case side2 => exact HC411_0.out);(case side3 => repeat (first|exact HR412_0.out|(with_reducible refine ca_ ?_ _)|(with_reducible refine cn_ ?_ _)|(with_reducible refine cd_ ?_)));(case side4 => exact HC412_0.out);rintro e w' ⟨rfl,⟨nd,rfl⟩⟩;(try first|exact ⟨rfl,_,World.drewN_drewN _ _ _⟩|exact ⟨rfl,_,Eq.trans (World.drewN_drewN _ _ _) (congrArg (World.drewN _) (Nat.add_assoc _ _ _))⟩)))
        repeat (go_quiet (first|(go_at_call 54;(with_reducible refine (laws_eqIntS.calls k1 _ _ (rd_L4 l0 x5_1) _ _ (rd_L4 l1 x5_1) false _ ?side1 ?side2 ?side3 ?side4 A7.out).mono ?_);(case side1 => repeat (first|exact HR411_0.out|(with_reducible refine ca_ ?_ _)|(with_reducible refine cn_ ?_ _)|(with_reducible refine cd_ ?_)));(case side2 => exact HC411_0.out);(case side3 => repeat (first|exact HR412_0.out|(with_reducible refine ca_ ?_ _)|(with_reducible refine cn_ ?_ _)|(with_reducible refine cd_ ?_)));(case side4 => exact HC412_0.out);rintro e w' ⟨rfl,⟨nd,rfl⟩⟩;(try first|exact ⟨rfl,_,World.drewN_drewN _ _ _⟩|exact ⟨rfl,_,Eq.trans (World.drewN_drewN _ _ _) (congrArg (World.drewN _) (Nat.add_assoc _ _ _))⟩)));try go_wp2_with (first|(go_at_call 54;(with_reducible refine (laws_eqIntS.calls k1 _ _ (rd_L4 l0 x5_1) _ _ (rd_L4 l1 x5_1) false _ ?side1 ?side2 ?side3 ?side4 A7.out).mono ?_);(case side1 => repeat (first|exact HR411_0.out|(with_reducible refine ca_ ?_ _)|(with_reducible refine cn_ ?_ _)|(with_reducible refine cd_ ?_)));(case side2 => exact HC411_0.out);(case side3 => repeat (first|exact HR412_0.out|(with_reducible refine ca_ ?_ _)|(with_reducible refine cn_ ?_ _)|(with_reducible refine cd_ ?_)));(case side4 => exact HC412_0.out);rintro e w' ⟨rfl,⟨nd,rfl⟩⟩;(try first|exact ⟨rfl,_,World.drewN_drewN _ _ _⟩|exact ⟨rfl,_,Eq.trans (World.drewN_drewN _ _ _) (congrArg (World.drewN _) (Nat.add_assoc _ _ _))⟩))))
        go_ret
        exact ⟨by first|rfl|(simp;done)|(simp [*];done),by repeat (first|exact Drawn0.refl _|apply Drawn0.step)⟩
      ·rw [if_neg c6] at H
       exact absurd H (by simp)
     ·rw [if_neg c5] at H
      exact absurd H (by simp)
    ·rw [if_neg c4] at H
     have c4b0 : decide (x5_1 < (l0.length : Int)) = false:=decide_eq_false c4
     clear c4
     obtain rfl:=Option.some.inj H
     go_wp2
     repeat (go_quiet (fail);try go_wp2)
     go_ret
     exact ⟨by first|rfl|(simp;done)|(simp [*];done),by repeat (first|exact Drawn0.refl _|apply Drawn0.step)⟩
 ·rw [if_neg c3] at H
  have c3b0 : ((l0.length : Int) == (l1.length : Int)) = false:=beq_eq_false_iff_ne.mpr c3
  have c3b1 : ((l0.length : Int) != (l1.length : Int)) = true:=bne_iff_ne.mpr c3
  have c3b2 : (l0.length == l1.length) = false:=by first|simpa using c3|(simp at c3 ⊢;omega)
  obtain rfl:=Option.some.inj H
  go_enter Try.func52,Try.ntmps52
  go_wp2
  repeat (go_quiet (fail);try go_wp2)
  go_ret
  exact ⟨by first|rfl|(simp;done)|(simp [*];done),by repeat (first|exact Drawn0.refl _|apply Drawn0.step)⟩

/-! ### laws_eqSent: function 21 -/
def laws_eqSent.f (k : Nat) (l0_0 : List (List Int)) (l0_1 : List (List Int)) (l1_0 : List (List Int)) (l1_1 : List (List Int)) : Option (Bool):=(laws_eqIntSS.f k l0_0 l1_0).bind fun t416 => (if t416 = true then ((laws_eqIntSS.f k l0_1 l1_1).bind fun t417 => (if t417 = true then (some true) else (some false))) else (some false))
theorem laws_eqSent.mono : ∀ a0 a1 a2 a3 k,LeO (laws_eqSent.f k a0 a1 a2 a3) (laws_eqSent.f (k + 1) a0 a1 a2 a3):=by
 intro a0 a1 a2 a3 k
 unfold laws_eqSent.f
 repeat' first
   | (with_reducible exact laws_eqIntSS.mono _ _ _)
   | (with_reducible exact LeO.refl _)
   | (with_reducible exact LeO.none _)
   | (with_reducible refine LeO.ite ?_ ?_)
   | (with_reducible refine LeO.bind ?_ (fun _ => ?_))
   | exact laws_eqIntSS.mono _ _ _
   | exact LeO.none _
   | refine LeO.ite ?_ ?_
   | refine LeO.bind ?_ (fun _ => ?_)
set_option maxHeartbeats 8000000 in
set_option maxRecDepth 100000 in
theorem laws_eqSent.calls (k : Nat) (A0_0 : Option Addr) (c0_0 : Nat) (l0_0 : List (List Int)) (A0_1 : Option Addr) (c0_1 : Nat) (l0_1 : List (List Int)) (A1_0 : Option Addr) (c1_0 : Nat) (l1_0 : List (List Int)) (A1_1 : Option Addr) (c1_1 : Nat) (l1_1 : List (List Int)) (r : Bool) (w : World) (hr0_0 : Kd.C (Kd.slice 3 (Kd.int .i64)) w A0_0 l0_0.length l0_0) (hc0_0 : l0_0.length ≤ c0_0) (hr0_1 : Kd.C (Kd.slice 3 (Kd.int .i64)) w A0_1 l0_1.length l0_1) (hc0_1 : l0_1.length ≤ c0_1) (hr1_0 : Kd.C (Kd.slice 3 (Kd.int .i64)) w A1_0 l1_0.length l1_0) (hc1_0 : l1_0.length ≤ c1_0) (hr1_1 : Kd.C (Kd.slice 3 (Kd.int .i64)) w A1_1 l1_1.length l1_1) (hc1_1 : l1_1.length ≤ c1_1) (h : laws_eqSent.f k l0_0 l0_1 l1_0 l1_1 = some r) :
  Calls Try.prog 21 #[.agg #[.slice A0_0 l0_0.length c0_0,.slice A0_1 l0_1.length c0_1],.agg #[.slice A1_0 l1_0.length c1_0,.slice A1_1 l1_1.length c1_1]] w fun e w' => e = .returned (.bool r) ∧ Below w.heap.size w w':=by
 have hu32:=Try.underlying32
 have HR0_0:=mk_ hr0_0
 have HC0_0:=mk_ hc0_0
 clear hr0_0 hc0_0
 have HR0_1:=mk_ hr0_1
 have HC0_1:=mk_ hc0_1
 clear hr0_1 hc0_1
 have HR1_0:=mk_ hr1_0
 have HC1_0:=mk_ hc1_0
 clear hr1_0 hc1_0
 have HR1_1:=mk_ hr1_1
 have HC1_1:=mk_ hc1_1
 clear hr1_1 hc1_1
 have HB:=mk_ (Below.refl w.heap.size w)
 have H : ((laws_eqIntSS.f k l0_0 l1_0).bind fun t416 => (if t416 = true then ((laws_eqIntSS.f k l0_1 l1_1).bind fun t417 => (if t417 = true then (some true) else (some false))) else (some false))) = some r:=h
 clear h
 replace H:=Option.bind_eq_some_iff.mp H
 obtain ⟨t416,A30,H⟩:=H
 replace H : (if t416 = true then ((laws_eqIntSS.f k l0_1 l1_1).bind fun t417 => (if t417 = true then (some true) else (some false))) else (some false)) = some r:=H
 have A3:=mk_ A30
 clear A30
 by_cases c4 : t416 = true
 ·subst c4
  have H1 : ((laws_eqIntSS.f k l0_1 l1_1).bind fun t417 => (if t417 = true then (some true) else (some false))) = some r:=by rw [if_pos rfl] at H;exact H
  clear H
  have H:=H1
  clear H1
  replace H:=Option.bind_eq_some_iff.mp H
  obtain ⟨t417,A50,H⟩:=H
  replace H : (if t417 = true then (some true) else (some false)) = some r:=H
  have A5:=mk_ A50
  clear A50
  by_cases c6 : t417 = true
  ·subst c6
   have H1 : (some true) = some r:=by rw [if_pos rfl] at H;exact H
   clear H
   have H:=H1
   clear H1
   obtain rfl:=Option.some.inj H
   go_enter Try.func21,Try.ntmps21
   go_wp2_with (first|((with_reducible refine gate_dst (N:=2) rfl ?_);refine box_event ?hg (N:=2) ?hd (cs:=#[.slice A0_0 l0_0.length c0_0,.slice A0_1 l0_1.length c0_1]) (t:=32) ?hr ?_;(case hd => rfl);(case hg => rfl);(case hr => first|(go_simp;done)|(go_simp;rfl));intro gb414 hg w7 hbox hb;have n0_:=mk_ (st_ (qb_ HB) hb);have n1_:=mk_ (hbox);have n2_:=mk_ ((by rw [hg];exact (bz_ (qb_ HB)) : w.heap.size ≤ gb414));have n3_:=mk_ ((by rw [hg];exact (bz_ (qb_ HB)) : w.heap.size ≤ gb414));clear HB;have HB:=n0_;have BK414:=n1_;have GW414:=n2_;have GE414:=n3_;clear n0_ n1_ n2_ n3_ hb hbox hg)|((with_reducible refine gate_dst (N:=3) rfl ?_);refine box_event ?hg (N:=3) ?hd (cs:=#[.slice A1_0 l1_0.length c1_0,.slice A1_1 l1_1.length c1_1]) (t:=32) ?hr ?_;(case hd => rfl);(case hg => rfl);(case hr => first|(go_simp;done)|(go_simp;rfl));intro gb415 hg w8 hbox hb;have n0_:=mk_ (blk_below (g:=gb414) (o:=.cells #[.slice A0_0 l0_0.length c0_0,.slice A0_1 l0_1.length c0_1] 32 (0,0)) (qk_ BK414) hb);have n1_:=mk_ (st_ (qc_ HB GE414) hb);have n2_:=mk_ (hbox);have n3_:=mk_ ((by rw [hg];exact (bz_ (qc_ HB GE414)) : w.heap.size ≤ gb415));have n4_:=mk_ ((by rw [hg];exact (bz_ (qc_ HB GE414)) : w.heap.size ≤ gb415));have n5_:=mk_ ((by rw [hg];exact Nat.ne_of_lt (blk_lt (g:=gb414) (o:=.cells #[.slice A0_0 l0_0.length c0_0,.slice A0_1 l0_1.length c0_1] 32 (0,0)) (qk_ BK414)) : gb414 ≠ gb415));have n6_:=mk_ ((by rw [hg];exact Nat.ne_of_gt (blk_lt (g:=gb414) (o:=.cells #[.slice A0_0 l0_0.length c0_0,.slice A0_1 l0_1.length c0_1] 32 (0,0)) (qk_ BK414)) : gb415 ≠ gb414));clear BK414 HB;have BK414:=n0_;have HB:=n1_;have BK415:=n2_;have GW415:=n3_;have GE415:=n4_;have NB414_415:=n5_;have NB415_414:=n6_;clear n0_ n1_ n2_ n3_ n4_ n5_ n6_ hb hbox hg;have hnb9:=NB414_415.out;have hnc9:=NB415_414.out;have hcz10_0 : w8.cell? ⟨gb414,0,none⟩ = some (.slice A0_0 l0_0.length c0_0):=(bc_ BK414.out 0).trans rfl;have hcz10_1 : w8.cell? ⟨gb414,1,none⟩ = some (.slice A0_1 l0_1.length c0_1):=(bc_ BK414.out 1).trans rfl;have hfz10_0:=bf_ BK414.out 0;have hfz10_1:=bf_ BK414.out 1;have hcz11_0 : w8.cell? ⟨gb415,0,none⟩ = some (.slice A1_0 l1_0.length c1_0):=(bc_ BK415.out 0).trans rfl;have hcz11_1 : w8.cell? ⟨gb415,1,none⟩ = some (.slice A1_1 l1_1.length c1_1):=(bc_ BK415.out 1).trans rfl;have hfz11_0:=bf_ BK415.out 0;have hfz11_1:=bf_ BK415.out 1)|((with_reducible refine gate_callee (f:=52) rfl ?_);refine goesL_ (some 9) rfl rfl Try.func52 (by kernel_rfl) rfl #[.slice A0_0 l0_0.length c0_0,.slice A1_0 l1_0.length c1_0] rfl qm_ ?_;(with_reducible refine (laws_eqIntSS.calls k _ _ l0_0 _ _ l1_0 true _ ?side1 ?side2 ?side3 ?side4 A3.out).mono ?_);(case side1 => exact qn_ HR0_0 HB);(case side2 => exact HC0_0.out);(case side3 => exact qn_ HR1_0 HB);(case side4 => exact HC1_0.out);rintro e w' ⟨rfl,⟨nd,rfl⟩⟩;refine ⟨_,rfl,?_⟩)|((with_reducible refine gate_callee (f:=52) rfl ?_);refine goesL_ (some 15) rfl rfl Try.func52 (by kernel_rfl) rfl #[.slice A0_1 l0_1.length c0_1,.slice A1_1 l1_1.length c1_1] rfl qm_ ?_;(with_reducible refine (laws_eqIntSS.calls k _ _ l0_1 _ _ l1_1 true _ ?side1 ?side2 ?side3 ?side4 A5.out).mono ?_);(case side1 => repeat (first|exact (cb_ HR0_1.out (qd_ HB GE414 GE415))|(with_reducible refine ca_ ?_ _)|(with_reducible refine cn_ ?_ _)|(with_reducible refine cd_ ?_)));(case side2 => exact HC0_1.out);(case side3 => repeat (first|exact (cb_ HR1_1.out (qd_ HB GE414 GE415))|(with_reducible refine ca_ ?_ _)|(with_reducible refine cn_ ?_ _)|(with_reducible refine cd_ ?_)));(case side4 => exact HC1_1.out);rintro e w' ⟨rfl,⟨nd,rfl⟩⟩;refine ⟨_,rfl,?_⟩))
   go_ret
   exact ⟨qe_,u2_ HB GE414 GE415⟩
  ·replace c6:=Bool.eq_false_iff.mpr c6
   subst c6
   have H1 : (some false) = some r:=by rw [if_neg (show ¬ (false = true) by decide)] at H;exact H
   clear H
   have H:=H1
   clear H1
   obtain rfl:=Option.some.inj H
   go_enter Try.func21,Try.ntmps21
   go_wp2_with (first|((with_reducible refine gate_dst (N:=2) rfl ?_);refine box_event ?hg (N:=2) ?hd (cs:=#[.slice A0_0 l0_0.length c0_0,.slice A0_1 l0_1.length c0_1]) (t:=32) ?hr ?_;(case hd => rfl);(case hg => rfl);(case hr => first|(go_simp;done)|(go_simp;rfl));intro gb414 hg w12 hbox hb;have n0_:=mk_ (st_ (qb_ HB) hb);have n1_:=mk_ (hbox);have n2_:=mk_ ((by rw [hg];exact (bz_ (qb_ HB)) : w.heap.size ≤ gb414));have n3_:=mk_ ((by rw [hg];exact (bz_ (qb_ HB)) : w.heap.size ≤ gb414));clear HB;have HB:=n0_;have BK414:=n1_;have GW414:=n2_;have GE414:=n3_;clear n0_ n1_ n2_ n3_ hb hbox hg)|((with_reducible refine gate_dst (N:=3) rfl ?_);refine box_event ?hg (N:=3) ?hd (cs:=#[.slice A1_0 l1_0.length c1_0,.slice A1_1 l1_1.length c1_1]) (t:=32) ?hr ?_;(case hd => rfl);(case hg => rfl);(case hr => first|(go_simp;done)|(go_simp;rfl));intro gb415 hg w13 hbox hb;have n0_:=mk_ (blk_below (g:=gb414) (o:=.cells #[.slice A0_0 l0_0.length c0_0,.slice A0_1 l0_1.length c0_1] 32 (0,0)) (qk_ BK414) hb);have n1_:=mk_ (st_ (qc_ HB GE414) hb);have n2_:=mk_ (hbox);have n3_:=mk_ ((by rw [hg];exact (bz_ (qc_ HB GE414)) : w.heap.size ≤ gb415));have n4_:=mk_ ((by rw [hg];exact (bz_ (qc_ HB GE414)) : w.heap.size ≤ gb415));have n5_:=mk_ ((by rw [hg];exact Nat.ne_of_lt (blk_lt (g:=gb414) (o:=.cells #[.slice A0_0 l0_0.length c0_0,.slice A0_1 l0_1.length c0_1] 32 (0,0)) (qk_ BK414)) : gb414 ≠ gb415));have n6_:=mk_ ((by rw [hg];exact Nat.ne_of_gt (blk_lt (g:=gb414) (o:=.cells #[.slice A0_0 l0_0.length c0_0,.slice A0_1 l0_1.length c0_1] 32 (0,0)) (qk_ BK414)) : gb415 ≠ gb414));clear BK414 HB;have BK414:=n0_;have HB:=n1_;have BK415:=n2_;have GW415:=n3_;have GE415:=n4_;have NB414_415:=n5_;have NB415_414:=n6_;clear n0_ n1_ n2_ n3_ n4_ n5_ n6_ hb hbox hg;have hnb14:=NB414_415.out;have hnc14:=NB415_414.out;have hcz15_0 : w13.cell? ⟨gb414,0,none⟩ = some (.slice A0_0 l0_0.length c0_0):=(bc_ BK414.out 0).trans rfl;have hcz15_1 : w13.cell? ⟨gb414,1,none⟩ = some (.slice A0_1 l0_1.length c0_1):=(bc_ BK414.out 1).trans rfl;have hfz15_0:=bf_ BK414.out 0;have hfz15_1:=bf_ BK414.out 1;have hcz16_0 : w13.cell? ⟨gb415,0,none⟩ = some (.slice A1_0 l1_0.length c1_0):=(bc_ BK415.out 0).trans rfl;have hcz16_1 : w13.cell? ⟨gb415,1,none⟩ = some (.slice A1_1 l1_1.length c1_1):=(bc_ BK415.out 1).trans rfl;have hfz16_0:=bf_ BK415.out 0;have hfz16_1:=bf_ BK415.out 1)|((with_reducible refine gate_callee (f:=52) rfl ?_);refine goesL_ (some 9) rfl rfl Try.func52 (by kernel_rfl) rfl #[.slice A0_0 l0_0.length c0_0,.slice A1_0 l1_0.length c1_0] rfl qm_ ?_;(with_reducible refine (laws_eqIntSS.calls k _ _ l0_0 _ _ l1_0 true _ ?side1 ?side2 ?side3 ?side4 A3.out).mono ?_);(case side1 => exact qn_ HR0_0 HB);(case side2 => exact HC0_0.out);(case side3 => exact qn_ HR1_0 HB);(case side4 => exact HC1_0.out);rintro e w' ⟨rfl,⟨nd,rfl⟩⟩;refine ⟨_,rfl,?_⟩)|((with_reducible refine gate_callee (f:=52) rfl ?_);refine goesL_ (some 15) rfl rfl Try.func52 (by kernel_rfl) rfl #[.slice A0_1 l0_1.length c0_1,.slice A1_1 l1_1.length c1_1] rfl qm_ ?_;(with_reducible refine (laws_eqIntSS.calls k _ _ l0_1 _ _ l1_1 false _ ?side1 ?side2 ?side3 ?side4 A5.out).mono ?_);(case side1 => repeat (first|exact (cb_ HR0_1.out (qd_ HB GE414 GE415))|(with_reducible refine ca_ ?_ _)|(with_reducible refine cn_ ?_ _)|(with_reducible refine cd_ ?_)));(case side2 => exact HC0_1.out);(case side3 => repeat (first|exact (cb_ HR1_1.out (qd_ HB GE414 GE415))|(with_reducible refine ca_ ?_ _)|(with_reducible refine cn_ ?_ _)|(with_reducible refine cd_ ?_)));(case side4 => exact HC1_1.out);rintro e w' ⟨rfl,⟨nd,rfl⟩⟩;refine ⟨_,rfl,?_⟩))
   go_ret
   exact ⟨qe_,u2_ HB GE414 GE415⟩
 ·replace c4:=Bool.eq_false_iff.mpr c4
  subst c4
  have H1 : (some false) = some r:=by rw [if_neg (show ¬ (false = true) by decide)] at H;exact H
  clear H
  have H:=H1
  clear H1
  obtain rfl:=Option.some.inj H
  go_enter Try.func21,Try.ntmps21
  go_wp2_with (first|((with_reducible refine gate_dst (N:=2) rfl ?_);refine box_event ?hg (N:=2) ?hd (cs:=#[.slice A0_0 l0_0.length c0_0,.slice A0_1 l0_1.length c0_1]) (t:=32) ?hr ?_;(case hd => rfl);(case hg => rfl);(case hr => first|(go_simp;done)|(go_simp;rfl));intro gb414 hg w17 hbox hb;have n0_:=mk_ (st_ (qb_ HB) hb);have n1_:=mk_ (hbox);have n2_:=mk_ ((by rw [hg];exact (bz_ (qb_ HB)) : w.heap.size ≤ gb414));have n3_:=mk_ ((by rw [hg];exact (bz_ (qb_ HB)) : w.heap.size ≤ gb414));clear HB;have HB:=n0_;have BK414:=n1_;have GW414:=n2_;have GE414:=n3_;clear n0_ n1_ n2_ n3_ hb hbox hg)|((with_reducible refine gate_dst (N:=3) rfl ?_);refine box_event ?hg (N:=3) ?hd (cs:=#[.slice A1_0 l1_0.length c1_0,.slice A1_1 l1_1.length c1_1]) (t:=32) ?hr ?_;(case hd => rfl);(case hg => rfl);(case hr => first|(go_simp;done)|(go_simp;rfl));intro gb415 hg w18 hbox hb;have n0_:=mk_ (blk_below (g:=gb414) (o:=.cells #[.slice A0_0 l0_0.length c0_0,.slice A0_1 l0_1.length c0_1] 32 (0,0)) (qk_ BK414) hb);have n1_:=mk_ (st_ (qc_ HB GE414) hb);have n2_:=mk_ (hbox);have n3_:=mk_ ((by rw [hg];exact (bz_ (qc_ HB GE414)) : w.heap.size ≤ gb415));have n4_:=mk_ ((by rw [hg];exact (bz_ (qc_ HB GE414)) : w.heap.size ≤ gb415));have n5_:=mk_ ((by rw [hg];exact Nat.ne_of_lt (blk_lt (g:=gb414) (o:=.cells #[.slice A0_0 l0_0.length c0_0,.slice A0_1 l0_1.length c0_1] 32 (0,0)) (qk_ BK414)) : gb414 ≠ gb415));have n6_:=mk_ ((by rw [hg];exact Nat.ne_of_gt (blk_lt (g:=gb414) (o:=.cells #[.slice A0_0 l0_0.length c0_0,.slice A0_1 l0_1.length c0_1] 32 (0,0)) (qk_ BK414)) : gb415 ≠ gb414));clear BK414 HB;have BK414:=n0_;have HB:=n1_;have BK415:=n2_;have GW415:=n3_;have GE415:=n4_;have NB414_415:=n5_;have NB415_414:=n6_;clear n0_ n1_ n2_ n3_ n4_ n5_ n6_ hb hbox hg;have hnb19:=NB414_415.out;have hnc19:=NB415_414.out;have hcz20_0 : w18.cell? ⟨gb414,0,none⟩ = some (.slice A0_0 l0_0.length c0_0):=(bc_ BK414.out 0).trans rfl;have hcz20_1 : w18.cell? ⟨gb414,1,none⟩ = some (.slice A0_1 l0_1.length c0_1):=(bc_ BK414.out 1).trans rfl;have hfz20_0:=bf_ BK414.out 0;have hfz20_1:=bf_ BK414.out 1;have hcz21_0 : w18.cell? ⟨gb415,0,none⟩ = some (.slice A1_0 l1_0.length c1_0):=(bc_ BK415.out 0).trans rfl;have hcz21_1 : w18.cell? ⟨gb415,1,none⟩ = some (.slice A1_1 l1_1.length c1_1):=(bc_ BK415.out 1).trans rfl;have hfz21_0:=bf_ BK415.out 0;have hfz21_1:=bf_ BK415.out 1)|((with_reducible refine gate_callee (f:=52) rfl ?_);refine goesL_ (some 9) rfl rfl Try.func52 (by kernel_rfl) rfl #[.slice A0_0 l0_0.length c0_0,.slice A1_0 l1_0.length c1_0] rfl qm_ ?_;(with_reducible refine (laws_eqIntSS.calls k _ _ l0_0 _ _ l1_0 false _ ?side1 ?side2 ?side3 ?side4 A3.out).mono ?_);(case side1 => exact qn_ HR0_0 HB);(case side2 => exact HC0_0.out);(case side3 => exact qn_ HR1_0 HB);(case side4 => exact HC1_0.out);rintro e w' ⟨rfl,⟨nd,rfl⟩⟩;refine ⟨_,rfl,?_⟩))
  go_ret
  exact ⟨qe_,u2_ HB GE414 GE415⟩

/-! ### laws_eqCable: function 89 -/
def laws_eqCable.f (a0_0 : Int) (a0_1 : Int) (a0_2 : Int) (a1_0 : Int) (a1_1 : Int) (a1_2 : Int) : Option (Bool):=if a0_0 = a1_0 then (if a0_1 = a1_1 then (if a0_2 = a1_2 then (some true) else (some false)) else (some false)) else (some false)
set_option maxHeartbeats 8000000 in
set_option maxRecDepth 100000 in
theorem laws_eqCable.calls (a0_0 : Int) (a0_1 : Int) (a0_2 : Int) (a1_0 : Int) (a1_1 : Int) (a1_2 : Int) (r : Bool) (w : World) (h : laws_eqCable.f a0_0 a0_1 a0_2 a1_0 a1_1 a1_2 = some r) :
  Calls Try.prog 89 #[.agg #[.int .i64 a0_0,.int .i64 a0_1,.int .i64 a0_2],.agg #[.int .i64 a1_0,.int .i64 a1_1,.int .i64 a1_2]] w fun e w' => e = .returned (.bool r) ∧ Below w.heap.size w w':=by
 have hu83:=Try.underlying83
 have HB:=mk_ (Below.refl w.heap.size w)
 have H : (if a0_0 = a1_0 then (if a0_1 = a1_1 then (if a0_2 = a1_2 then (some true) else (some false)) else (some false)) else (some false)) = some r:=h
 clear h
 by_cases c3 : a0_0 = a1_0
 ·rw [if_pos c3] at H
  have c3b0 : (a0_0 == a1_0) = true:=beq_iff_eq.mpr c3
  have c3b1 : (a0_0 != a1_0) = false:=bne_eq_false_iff_eq.mpr c3
  clear c3
  by_cases c4 : a0_1 = a1_1
  ·rw [if_pos c4] at H
   have c4b0 : (a0_1 == a1_1) = true:=beq_iff_eq.mpr c4
   have c4b1 : (a0_1 != a1_1) = false:=bne_eq_false_iff_eq.mpr c4
   clear c4
   by_cases c5 : a0_2 = a1_2
   ·rw [if_pos c5] at H
    have c5b0 : (a0_2 == a1_2) = true:=beq_iff_eq.mpr c5
    have c5b1 : (a0_2 != a1_2) = false:=bne_eq_false_iff_eq.mpr c5
    clear c5
    obtain rfl:=Option.some.inj H
    go_enter Try.func89,Try.ntmps89
    go_wp2_with (first|((with_reducible refine gate_dst (N:=2) rfl ?_);refine box_event ?hg (N:=2) ?hd (cs:=#[.int .i64 a0_0,.int .i64 a0_1,.int .i64 a0_2]) (t:=83) ?hr ?_;(case hd => rfl);(case hg => rfl);(case hr => first|(go_simp;done)|(go_simp;rfl));intro gb418 hg w6 hbox hb;have n0_:=mk_ (st_ (qb_ HB) hb);have n1_:=mk_ (hbox);have n2_:=mk_ ((by rw [hg];exact (bz_ (qb_ HB)) : w.heap.size ≤ gb418));have n3_:=mk_ ((by rw [hg];exact (bz_ (qb_ HB)) : w.heap.size ≤ gb418));clear HB;have HB:=n0_;have BK418:=n1_;have GW418:=n2_;have GE418:=n3_;clear n0_ n1_ n2_ n3_ hb hbox hg)|((with_reducible refine gate_dst (N:=3) rfl ?_);refine box_event ?hg (N:=3) ?hd (cs:=#[.int .i64 a1_0,.int .i64 a1_1,.int .i64 a1_2]) (t:=83) ?hr ?_;(case hd => rfl);(case hg => rfl);(case hr => first|(go_simp;done)|(go_simp;rfl));intro gb419 hg w7 hbox hb;have n0_:=mk_ (blk_below (g:=gb418) (o:=.cells #[.int .i64 a0_0,.int .i64 a0_1,.int .i64 a0_2] 83 (0,0)) (qk_ BK418) hb);have n1_:=mk_ (st_ (qc_ HB GE418) hb);have n2_:=mk_ (hbox);have n3_:=mk_ ((by rw [hg];exact (bz_ (qc_ HB GE418)) : w.heap.size ≤ gb419));have n4_:=mk_ ((by rw [hg];exact (bz_ (qc_ HB GE418)) : w.heap.size ≤ gb419));have n5_:=mk_ ((by rw [hg];exact Nat.ne_of_lt (blk_lt (g:=gb418) (o:=.cells #[.int .i64 a0_0,.int .i64 a0_1,.int .i64 a0_2] 83 (0,0)) (qk_ BK418)) : gb418 ≠ gb419));have n6_:=mk_ ((by rw [hg];exact Nat.ne_of_gt (blk_lt (g:=gb418) (o:=.cells #[.int .i64 a0_0,.int .i64 a0_1,.int .i64 a0_2] 83 (0,0)) (qk_ BK418)) : gb419 ≠ gb418));clear BK418 HB;have BK418:=n0_;have HB:=n1_;have BK419:=n2_;have GW419:=n3_;have GE419:=n4_;have NB418_419:=n5_;have NB419_418:=n6_;clear n0_ n1_ n2_ n3_ n4_ n5_ n6_ hb hbox hg;have hnb8:=NB418_419.out;have hnc8:=NB419_418.out;have hcz9_0 : w7.cell? ⟨gb418,0,none⟩ = some (.int .i64 a0_0):=(bc_ BK418.out 0).trans rfl;have hcz9_1 : w7.cell? ⟨gb418,1,none⟩ = some (.int .i64 a0_1):=(bc_ BK418.out 1).trans rfl;have hcz9_2 : w7.cell? ⟨gb418,2,none⟩ = some (.int .i64 a0_2):=(bc_ BK418.out 2).trans rfl;have hfz9_0:=bf_ BK418.out 0;have hfz9_1:=bf_ BK418.out 1;have hfz9_2:=bf_ BK418.out 2;have hcz10_0 : w7.cell? ⟨gb419,0,none⟩ = some (.int .i64 a1_0):=(bc_ BK419.out 0).trans rfl;have hcz10_1 : w7.cell? ⟨gb419,1,none⟩ = some (.int .i64 a1_1):=(bc_ BK419.out 1).trans rfl;have hcz10_2 : w7.cell? ⟨gb419,2,none⟩ = some (.int .i64 a1_2):=(bc_ BK419.out 2).trans rfl;have hfz10_0:=bf_ BK419.out 0;have hfz10_1:=bf_ BK419.out 1;have hfz10_2:=bf_ BK419.out 2))
    go_ret
    exact ⟨qe_,u2_ HB GE418 GE419⟩
   ·rw [if_neg c5] at H
    have c5b0 : (a0_2 == a1_2) = false:=beq_eq_false_iff_ne.mpr c5
    have c5b1 : (a0_2 != a1_2) = true:=bne_iff_ne.mpr c5
    obtain rfl:=Option.some.inj H
    go_enter Try.func89,Try.ntmps89
    go_wp2_with (first|((with_reducible refine gate_dst (N:=2) rfl ?_);refine box_event ?hg (N:=2) ?hd (cs:=#[.int .i64 a0_0,.int .i64 a0_1,.int .i64 a0_2]) (t:=83) ?hr ?_;(case hd => rfl);(case hg => rfl);(case hr => first|(go_simp;done)|(go_simp;rfl));intro gb418 hg w11 hbox hb;have n0_:=mk_ (st_ (qb_ HB) hb);have n1_:=mk_ (hbox);have n2_:=mk_ ((by rw [hg];exact (bz_ (qb_ HB)) : w.heap.size ≤ gb418));have n3_:=mk_ ((by rw [hg];exact (bz_ (qb_ HB)) : w.heap.size ≤ gb418));clear HB;have HB:=n0_;have BK418:=n1_;have GW418:=n2_;have GE418:=n3_;clear n0_ n1_ n2_ n3_ hb hbox hg)|((with_reducible refine gate_dst (N:=3) rfl ?_);refine box_event ?hg (N:=3) ?hd (cs:=#[.int .i64 a1_0,.int .i64 a1_1,.int .i64 a1_2]) (t:=83) ?hr ?_;(case hd => rfl);(case hg => rfl);(case hr => first|(go_simp;done)|(go_simp;rfl));intro gb419 hg w12 hbox hb;have n0_:=mk_ (blk_below (g:=gb418) (o:=.cells #[.int .i64 a0_0,.int .i64 a0_1,.int .i64 a0_2] 83 (0,0)) (qk_ BK418) hb);have n1_:=mk_ (st_ (qc_ HB GE418) hb);have n2_:=mk_ (hbox);have n3_:=mk_ ((by rw [hg];exact (bz_ (qc_ HB GE418)) : w.heap.size ≤ gb419));have n4_:=mk_ ((by rw [hg];exact (bz_ (qc_ HB GE418)) : w.heap.size ≤ gb419));have n5_:=mk_ ((by rw [hg];exact Nat.ne_of_lt (blk_lt (g:=gb418) (o:=.cells #[.int .i64 a0_0,.int .i64 a0_1,.int .i64 a0_2] 83 (0,0)) (qk_ BK418)) : gb418 ≠ gb419));have n6_:=mk_ ((by rw [hg];exact Nat.ne_of_gt (blk_lt (g:=gb418) (o:=.cells #[.int .i64 a0_0,.int .i64 a0_1,.int .i64 a0_2] 83 (0,0)) (qk_ BK418)) : gb419 ≠ gb418));clear BK418 HB;have BK418:=n0_;have HB:=n1_;have BK419:=n2_;have GW419:=n3_;have GE419:=n4_;have NB418_419:=n5_;have NB419_418:=n6_;clear n0_ n1_ n2_ n3_ n4_ n5_ n6_ hb hbox hg;have hnb13:=NB418_419.out;have hnc13:=NB419_418.out;have hcz14_0 : w12.cell? ⟨gb418,0,none⟩ = some (.int .i64 a0_0):=(bc_ BK418.out 0).trans rfl;have hcz14_1 : w12.cell? ⟨gb418,1,none⟩ = some (.int .i64 a0_1):=(bc_ BK418.out 1).trans rfl;have hcz14_2 : w12.cell? ⟨gb418,2,none⟩ = some (.int .i64 a0_2):=(bc_ BK418.out 2).trans rfl;have hfz14_0:=bf_ BK418.out 0;have hfz14_1:=bf_ BK418.out 1;have hfz14_2:=bf_ BK418.out 2;have hcz15_0 : w12.cell? ⟨gb419,0,none⟩ = some (.int .i64 a1_0):=(bc_ BK419.out 0).trans rfl;have hcz15_1 : w12.cell? ⟨gb419,1,none⟩ = some (.int .i64 a1_1):=(bc_ BK419.out 1).trans rfl;have hcz15_2 : w12.cell? ⟨gb419,2,none⟩ = some (.int .i64 a1_2):=(bc_ BK419.out 2).trans rfl;have hfz15_0:=bf_ BK419.out 0;have hfz15_1:=bf_ BK419.out 1;have hfz15_2:=bf_ BK419.out 2))
    go_ret
    exact ⟨qe_,u2_ HB GE418 GE419⟩
  ·rw [if_neg c4] at H
   have c4b0 : (a0_1 == a1_1) = false:=beq_eq_false_iff_ne.mpr c4
   have c4b1 : (a0_1 != a1_1) = true:=bne_iff_ne.mpr c4
   obtain rfl:=Option.some.inj H
   go_enter Try.func89,Try.ntmps89
   go_wp2_with (first|((with_reducible refine gate_dst (N:=2) rfl ?_);refine box_event ?hg (N:=2) ?hd (cs:=#[.int .i64 a0_0,.int .i64 a0_1,.int .i64 a0_2]) (t:=83) ?hr ?_;(case hd => rfl);(case hg => rfl);(case hr => first|(go_simp;done)|(go_simp;rfl));intro gb418 hg w16 hbox hb;have n0_:=mk_ (st_ (qb_ HB) hb);have n1_:=mk_ (hbox);have n2_:=mk_ ((by rw [hg];exact (bz_ (qb_ HB)) : w.heap.size ≤ gb418));have n3_:=mk_ ((by rw [hg];exact (bz_ (qb_ HB)) : w.heap.size ≤ gb418));clear HB;have HB:=n0_;have BK418:=n1_;have GW418:=n2_;have GE418:=n3_;clear n0_ n1_ n2_ n3_ hb hbox hg)|((with_reducible refine gate_dst (N:=3) rfl ?_);refine box_event ?hg (N:=3) ?hd (cs:=#[.int .i64 a1_0,.int .i64 a1_1,.int .i64 a1_2]) (t:=83) ?hr ?_;(case hd => rfl);(case hg => rfl);(case hr => first|(go_simp;done)|(go_simp;rfl));intro gb419 hg w17 hbox hb;have n0_:=mk_ (blk_below (g:=gb418) (o:=.cells #[.int .i64 a0_0,.int .i64 a0_1,.int .i64 a0_2] 83 (0,0)) (qk_ BK418) hb);have n1_:=mk_ (st_ (qc_ HB GE418) hb);have n2_:=mk_ (hbox);have n3_:=mk_ ((by rw [hg];exact (bz_ (qc_ HB GE418)) : w.heap.size ≤ gb419));have n4_:=mk_ ((by rw [hg];exact (bz_ (qc_ HB GE418)) : w.heap.size ≤ gb419));have n5_:=mk_ ((by rw [hg];exact Nat.ne_of_lt (blk_lt (g:=gb418) (o:=.cells #[.int .i64 a0_0,.int .i64 a0_1,.int .i64 a0_2] 83 (0,0)) (qk_ BK418)) : gb418 ≠ gb419));have n6_:=mk_ ((by rw [hg];exact Nat.ne_of_gt (blk_lt (g:=gb418) (o:=.cells #[.int .i64 a0_0,.int .i64 a0_1,.int .i64 a0_2] 83 (0,0)) (qk_ BK418)) : gb419 ≠ gb418));clear BK418 HB;have BK418:=n0_;have HB:=n1_;have BK419:=n2_;have GW419:=n3_;have GE419:=n4_;have NB418_419:=n5_;have NB419_418:=n6_;clear n0_ n1_ n2_ n3_ n4_ n5_ n6_ hb hbox hg;have hnb18:=NB418_419.out;have hnc18:=NB419_418.out;have hcz19_0 : w17.cell? ⟨gb418,0,none⟩ = some (.int .i64 a0_0):=(bc_ BK418.out 0).trans rfl;have hcz19_1 : w17.cell? ⟨gb418,1,none⟩ = some (.int .i64 a0_1):=(bc_ BK418.out 1).trans rfl;have hcz19_2 : w17.cell? ⟨gb418,2,none⟩ = some (.int .i64 a0_2):=(bc_ BK418.out 2).trans rfl;have hfz19_0:=bf_ BK418.out 0;have hfz19_1:=bf_ BK418.out 1;have hfz19_2:=bf_ BK418.out 2;have hcz20_0 : w17.cell? ⟨gb419,0,none⟩ = some (.int .i64 a1_0):=(bc_ BK419.out 0).trans rfl;have hcz20_1 : w17.cell? ⟨gb419,1,none⟩ = some (.int .i64 a1_1):=(bc_ BK419.out 1).trans rfl;have hcz20_2 : w17.cell? ⟨gb419,2,none⟩ = some (.int .i64 a1_2):=(bc_ BK419.out 2).trans rfl;have hfz20_0:=bf_ BK419.out 0;have hfz20_1:=bf_ BK419.out 1;have hfz20_2:=bf_ BK419.out 2))
   go_ret
   exact ⟨qe_,u2_ HB GE418 GE419⟩
 ·rw [if_neg c3] at H
  have c3b0 : (a0_0 == a1_0) = false:=beq_eq_false_iff_ne.mpr c3
  have c3b1 : (a0_0 != a1_0) = true:=bne_iff_ne.mpr c3
  obtain rfl:=Option.some.inj H
  go_enter Try.func89,Try.ntmps89
  go_wp2_with (first|((with_reducible refine gate_dst (N:=2) rfl ?_);refine box_event ?hg (N:=2) ?hd (cs:=#[.int .i64 a0_0,.int .i64 a0_1,.int .i64 a0_2]) (t:=83) ?hr ?_;(case hd => rfl);(case hg => rfl);(case hr => first|(go_simp;done)|(go_simp;rfl));intro gb418 hg w21 hbox hb;have n0_:=mk_ (st_ (qb_ HB) hb);have n1_:=mk_ (hbox);have n2_:=mk_ ((by rw [hg];exact (bz_ (qb_ HB)) : w.heap.size ≤ gb418));have n3_:=mk_ ((by rw [hg];exact (bz_ (qb_ HB)) : w.heap.size ≤ gb418));clear HB;have HB:=n0_;have BK418:=n1_;have GW418:=n2_;have GE418:=n3_;clear n0_ n1_ n2_ n3_ hb hbox hg)|((with_reducible refine gate_dst (N:=3) rfl ?_);refine box_event ?hg (N:=3) ?hd (cs:=#[.int .i64 a1_0,.int .i64 a1_1,.int .i64 a1_2]) (t:=83) ?hr ?_;(case hd => rfl);(case hg => rfl);(case hr => first|(go_simp;done)|(go_simp;rfl));intro gb419 hg w22 hbox hb;have n0_:=mk_ (blk_below (g:=gb418) (o:=.cells #[.int .i64 a0_0,.int .i64 a0_1,.int .i64 a0_2] 83 (0,0)) (qk_ BK418) hb);have n1_:=mk_ (st_ (qc_ HB GE418) hb);have n2_:=mk_ (hbox);have n3_:=mk_ ((by rw [hg];exact (bz_ (qc_ HB GE418)) : w.heap.size ≤ gb419));have n4_:=mk_ ((by rw [hg];exact (bz_ (qc_ HB GE418)) : w.heap.size ≤ gb419));have n5_:=mk_ ((by rw [hg];exact Nat.ne_of_lt (blk_lt (g:=gb418) (o:=.cells #[.int .i64 a0_0,.int .i64 a0_1,.int .i64 a0_2] 83 (0,0)) (qk_ BK418)) : gb418 ≠ gb419));have n6_:=mk_ ((by rw [hg];exact Nat.ne_of_gt (blk_lt (g:=gb418) (o:=.cells #[.int .i64 a0_0,.int .i64 a0_1,.int .i64 a0_2] 83 (0,0)) (qk_ BK418)) : gb419 ≠ gb418));clear BK418 HB;have BK418:=n0_;have HB:=n1_;have BK419:=n2_;have GW419:=n3_;have GE419:=n4_;have NB418_419:=n5_;have NB419_418:=n6_;clear n0_ n1_ n2_ n3_ n4_ n5_ n6_ hb hbox hg;have hnb23:=NB418_419.out;have hnc23:=NB419_418.out;have hcz24_0 : w22.cell? ⟨gb418,0,none⟩ = some (.int .i64 a0_0):=(bc_ BK418.out 0).trans rfl;have hcz24_1 : w22.cell? ⟨gb418,1,none⟩ = some (.int .i64 a0_1):=(bc_ BK418.out 1).trans rfl;have hcz24_2 : w22.cell? ⟨gb418,2,none⟩ = some (.int .i64 a0_2):=(bc_ BK418.out 2).trans rfl;have hfz24_0:=bf_ BK418.out 0;have hfz24_1:=bf_ BK418.out 1;have hfz24_2:=bf_ BK418.out 2;have hcz25_0 : w22.cell? ⟨gb419,0,none⟩ = some (.int .i64 a1_0):=(bc_ BK419.out 0).trans rfl;have hcz25_1 : w22.cell? ⟨gb419,1,none⟩ = some (.int .i64 a1_1):=(bc_ BK419.out 1).trans rfl;have hcz25_2 : w22.cell? ⟨gb419,2,none⟩ = some (.int .i64 a1_2):=(bc_ BK419.out 2).trans rfl;have hfz25_0:=bf_ BK419.out 0;have hfz25_1:=bf_ BK419.out 1;have hfz25_2:=bf_ BK419.out 2))
  go_ret
  exact ⟨qe_,u2_ HB GE418 GE419⟩

/-! ### laws_eqCableS: function 53 -/
def laws_eqCableS.l0 : Nat → List (S83) → List (S83) → Int → Option (Bool)
 | 0,_,_,_ => none
 | k + 1,x0,x1,x5 => if x5 < (x0.length : Int) then (if 0 ≤ x5 then (if x5 < (x1.length : Int) then ((laws_eqCable.f ((rd_T83 x0 x5).f0) ((rd_T83 x0 x5).f1) ((rd_T83 x0 x5).f2) ((rd_T83 x1 x5).f0) ((rd_T83 x1 x5).f1) ((rd_T83 x1 x5).f2)).bind fun t422 => (if t422 = true then (laws_eqCableS.l0 k x0 x1 (wrap64 (x5 + 1))) else (some false))) else (none)) else (none)) else (some true)
def laws_eqCableS.f (k : Nat) (l0 : List (S83)) (l1 : List (S83)) : Option (Bool):=if (l0.length : Int) = (l1.length : Int) then (laws_eqCableS.l0 k l0 l1 0) else (some false)
theorem laws_eqCableS.mono_l : ∀ k,(∀ y0 y1 y2,LeO (laws_eqCableS.l0 k y0 y1 y2) (laws_eqCableS.l0 (k + 1) y0 y1 y2))
 | 0 => fun _ _ _ r h => by simp [laws_eqCableS.l0] at h
 | k + 1 => by
  have ih0:=laws_eqCableS.mono_l k
  ·intro y0 y1 y2
   unfold laws_eqCableS.l0
   repeat' first
   | (with_reducible exact ih0 _ _ _)
   | (with_reducible exact LeO.refl _)
   | (with_reducible exact LeO.none _)
   | (with_reducible refine LeO.ite ?_ ?_)
   | (with_reducible refine LeO.bind ?_ (fun _ => ?_))
   | exact ih0 _ _ _
   | exact LeO.none _
   | refine LeO.ite ?_ ?_
   | refine LeO.bind ?_ (fun _ => ?_)
theorem laws_eqCableS.mono : ∀ a0 a1 k,LeO (laws_eqCableS.f k a0 a1) (laws_eqCableS.f (k + 1) a0 a1):=by
 intro a0 a1 k
 have ih0:=laws_eqCableS.mono_l k
 unfold laws_eqCableS.f
 repeat' first
   | (with_reducible exact ih0 _ _ _)
   | (with_reducible exact LeO.refl _)
   | (with_reducible exact LeO.none _)
   | (with_reducible refine LeO.ite ?_ ?_)
   | (with_reducible refine LeO.bind ?_ (fun _ => ?_))
   | exact ih0 _ _ _
   | exact LeO.none _
   | refine LeO.ite ?_ ?_
   | refine LeO.bind ?_ (fun _ => ?_)
def laws_eqCableS.T6 : Bool × List (List Nat × List Nat):=(true,[([],[]),([],[]),([0,1],[0,1]),([2],[2]),([],[]),([],[]),([4,5],[4,5]),([6],[6]),([3,7],[3,7]),([8],[8])])
def laws_eqCableS.B6 : List Nat:=[0,0,3,7,0,0,48,112,255,511]
theorem laws_eqCableS.tab6 : rtab .any (opsOf Try.f53 6) = laws_eqCableS.T6:=by kernel_rfl
theorem laws_eqCableS.bits6 : waitsOk laws_eqCableS.T6.2 laws_eqCableS.B6 = true:=by kernel_rfl
set_option maxHeartbeats 8000000 in
set_option maxRecDepth 100000 in
theorem laws_eqCableS.calls (k : Nat) (A0 : Option Addr) (c0 : Nat) (l0 : List (S83)) (A1 : Option Addr) (c1 : Nat) (l1 : List (S83)) (r : Bool) (w : World) (hr0 : Kd.C k83 w A0 l0.length l0) (hc0 : l0.length ≤ c0) (hr1 : Kd.C k83 w A1 l1.length l1) (hc1 : l1.length ≤ c1) (h : laws_eqCableS.f k l0 l1 = some r) :
  Calls Try.prog 53 #[.slice A0 l0.length c0,.slice A1 l1.length c1] w fun e w' => e = .returned (.bool r) ∧ Below w.heap.size w w':=by
 have hu83:=Try.underlying83
 have HR0:=mk_ hr0
 have HC0:=mk_ hc0
 clear hr0 hc0
 have HR1:=mk_ hr1
 have HC1:=mk_ hc1
 clear hr1 hc1
 have HB:=mk_ (Below.refl w.heap.size w)
 have H : (if (l0.length : Int) = (l1.length : Int) then (laws_eqCableS.l0 k l0 l1 0) else (some false)) = some r:=h
 clear h
 by_cases c3 : (l0.length : Int) = (l1.length : Int)
 ·rw [if_pos c3] at H
  have c3b0 : ((l0.length : Int) == (l1.length : Int)) = true:=beq_iff_eq.mpr c3
  have c3b1 : ((l0.length : Int) != (l1.length : Int)) = false:=bne_eq_false_iff_eq.mpr c3
  have c3b2 : (l0.length == l1.length) = true:=by first|simpa using c3|(simp at c3 ⊢;omega)
  clear c3
  have H':=mk_ H
  clear H
  go_enter Try.func53,Try.ntmps53
  go_wp2
  go_loopg [5] k (fun kq v5 w' => ∃ (x5_1 : Int),v5 = .int .i64 x5_1 ∧ Aside0 (laws_eqCableS.l0 kq l0 l1 x5_1 = some r) ∧ Aside0 (kq ≤ k) ∧ Aside0 (Below w.heap.size w w'))
  case atStart => exact ⟨(0),qf_,H',⟨Nat.le_refl _⟩,⟨u1_ HB⟩⟩
  case round =>
   clear H'
   try clear c1
   try clear p2
   try clear c3
   try clear c3b0
   try clear c3b1
   try clear c3b2
   obtain ⟨x5_1,rfl,HA,HK1,HB⟩:=hrel
   cases gk with
   | zero => exact absurd HA.out (by simp [laws_eqCableS.l0])
   | succ k1 =>
    have H:=HA.out
    clear HA
    simp only [laws_eqCableS.l0] at H
    by_cases c4 : x5_1 < (l0.length : Int)
    ·rw [if_pos c4] at H
     have c4b0 : decide (x5_1 < (l0.length : Int)) = true:=decide_eq_true c4
     clear c4
     by_cases c5 : 0 ≤ x5_1
     ·rw [if_pos c5] at H
      have c5b0 : decide (0 ≤ x5_1) = true:=decide_eq_true c5
      clear c5
      by_cases c6 : x5_1 < (l1.length : Int)
      ·rw [if_pos c6] at H
       have c6b0 : decide (x5_1 < (l1.length : Int)) = true:=decide_eq_true c6
       clear c6
       replace H:=Option.bind_eq_some_iff.mp H
       obtain ⟨t422,A70,H⟩:=H
       replace H : (if t422 = true then (laws_eqCableS.l0 k1 l0 l1 (wrap64 (x5_1 + 1))) else (some false)) = some r:=H
       have A7:=mk_ A70
       clear A70
       by_cases c8 : t422 = true
       ·subst c8
        have H1 : (laws_eqCableS.l0 k1 l0 l1 (wrap64 (x5_1 + 1))) = some r:=by rw [if_pos rfl] at H;exact H
        clear H
        have H:=H1
        clear H1
        have H':=mk_ H
        clear H
        try go_wp2
        have n0_:=mk_ (bd_ HB.out)
        clear HB
        have HB:=n0_
        clear n0_
        have p420 : 0 ≤ (x5_1 : Int):=od_ qa_
        have q420 : x5_1 < (l0.length : Int):=od_ qa_
        obtain ⟨ad420,e420,hx420_0,hx420_1,hx420_2⟩:=at_T83 HR0.out x5_1 p420 q420
        have hw420_2:=hx420_2
        have hw420_1:=hx420_1
        have hw420_0:=hx420_0
        cases e420
        replace hx420_0:=(HB.out.cell (wl_ w _ hx420_0)).trans hx420_0
        replace hx420_1:=(HB.out.cell (wl_ w _ hx420_1)).trans hx420_1
        replace hx420_2:=(HB.out.cell (wl_ w _ hx420_2)).trans hx420_2
        replace p420:=eq_true p420
        replace q420:=eq_true q420
        have p421 : 0 ≤ (x5_1 : Int):=od_ qa_
        have q421 : x5_1 < (l1.length : Int):=od_ qa_
        obtain ⟨ad421,e421,hx421_0,hx421_1,hx421_2⟩:=at_T83 HR1.out x5_1 p421 q421
        have hw421_2:=hx421_2
        have hw421_1:=hx421_1
        have hw421_0:=hx421_0
        cases e421
        replace hx421_0:=(HB.out.cell (wl_ w _ hx421_0)).trans hx421_0
        replace hx421_1:=(HB.out.cell (wl_ w _ hx421_1)).trans hx421_1
        replace hx421_2:=(HB.out.cell (wl_ w _ hx421_2)).trans hx421_2
        replace p421:=eq_true p421
        replace q421:=eq_true q421
        refine start_ (n:=10) (S:=fun w' => w'.cell? (ad420.add ((x5_1).toNat * 3)) = some (.int .i64 ((rd_T83 l0 x5_1).f0)) ∧ w'.cell? ⟨(ad420.add ((x5_1).toNat * 3)).block,(ad420.add ((x5_1).toNat * 3)).off + 1,none⟩ = some (.int .i64 ((rd_T83 l0 x5_1).f1)) ∧ w'.cell? ⟨(ad420.add ((x5_1).toNat * 3)).block,(ad420.add ((x5_1).toNat * 3)).off + 2,none⟩ = some (.int .i64 ((rd_T83 l0 x5_1).f2)) ∧ w'.cell? (ad421.add ((x5_1).toNat * 3)) = some (.int .i64 ((rd_T83 l1 x5_1).f0)) ∧ w'.cell? ⟨(ad421.add ((x5_1).toNat * 3)).block,(ad421.add ((x5_1).toNat * 3)).off + 1,none⟩ = some (.int .i64 ((rd_T83 l1 x5_1).f1)) ∧ w'.cell? ⟨(ad421.add ((x5_1).toNat * 3)).block,(ad421.add ((x5_1).toNat * 3)).off + 2,none⟩ = some (.int .i64 ((rd_T83 l1 x5_1).f2))) (ds:=[]) #[false,false,false,false,false,false,false,false,false,false] (by kernel_rfl) rfl rfl ⟨((HB.out.cell (wl_ w _ hw420_0)).trans hw420_0),((HB.out.cell (wl_ w _ hw420_1)).trans hw420_1),((HB.out.cell (wl_ w _ hw420_2)).trans hw420_2),((HB.out.cell (wl_ w _ hw421_0)).trans hw421_0),((HB.out.cell (wl_ w _ hw421_1)).trans hw421_1),((HB.out.cell (wl_ w _ hw421_2)).trans hw421_2)⟩ (fun hHeld => ?_);refine with_tabW laws_eqCableS.tab6 laws_eqCableS.bits6 (fun HT_ HW_ => ?_)
        generalize wr.drew = w9 at HB hx420_0 hx420_1 hx420_2 hx421_0 hx421_1 hx421_2 hHeld ⊢
        refine pure_ (i:=0) (N:=some 17) (v:=?_) (a':=?_) #[true,false,false,false,false,false,false,false,false,false] rfl rfl (any_of HT_.out (by kernel_rfl)) (fun _ _ _ h => h) (Or.inl ⟨by rfl,?_⟩) ?_ ?_
        rotate_left
        ·intro w'
         go_simp
         with_reducible rfl
        rotate_left
        ·simp only [Act.put,sx_,sy_,sz_,i64_w,i32_w]
         rfl
        refine pure_ (i:=1) (N:=some 18) (v:=?_) (a':=?_) #[true,true,false,false,false,false,false,false,false,false] rfl rfl (any_of HT_.out (by kernel_rfl)) (fun _ _ _ h => h) (Or.inl ⟨by rfl,?_⟩) ?_ ?_
        rotate_left
        ·intro w'
         go_simp
         with_reducible rfl
        rotate_left
        ·simp only [Act.put,sx_,sy_,sz_,i64_w,i32_w]
         rfl
        refine pure_ (i:=2) (N:=some 19) (v:=?_) (a':=?_) #[true,true,true,false,false,false,false,false,false,false] rfl rfl (any_of HT_.out (by kernel_rfl)) (fun _ _ _ h => h) (Or.inl ⟨by rfl,?_⟩) ?_ ?_
        rotate_left
        ·intro w'
         go_simp
         with_reducible rfl
        rotate_left
        ·simp only [Act.put,sx_,sy_,sz_,i64_w,i32_w]
         rfl
        refine pure_ (i:=4) (N:=some 21) (v:=?_) (a':=?_) #[true,true,true,false,true,false,false,false,false,false] rfl rfl (any_of HT_.out (by kernel_rfl)) (fun _ _ _ h => h) (Or.inl ⟨by rfl,?_⟩) ?_ ?_
        rotate_left
        ·intro w'
         go_simp
         with_reducible rfl
        rotate_left
        ·simp only [Act.put,sx_,sy_,sz_,i64_w,i32_w]
         rfl
        refine pure_ (i:=5) (N:=some 22) (v:=?_) (a':=?_) #[true,true,true,false,true,true,false,false,false,false] rfl rfl (any_of HT_.out (by kernel_rfl)) (fun _ _ _ h => h) (Or.inl ⟨by rfl,?_⟩) ?_ ?_
        rotate_left
        ·intro w'
         go_simp
         with_reducible rfl
        rotate_left
        ·simp only [Act.put,sx_,sy_,sz_,i64_w,i32_w]
         rfl
        refine pure_ (i:=6) (N:=some 23) (v:=?_) (a':=?_) #[true,true,true,false,true,true,true,false,false,false] rfl rfl (any_of HT_.out (by kernel_rfl)) (fun _ _ _ h => h) (Or.inl ⟨by rfl,?_⟩) ?_ ?_
        rotate_left
        ·intro w'
         go_simp
         with_reducible rfl
        rotate_left
        ·simp only [Act.put,sx_,sy_,sz_,i64_w,i32_w]
         rfl
        refine take_ (i:=3) (N:=some 20) (v:=?_) (a':=?_) #[true,true,true,true,true,true,true,false,false,false] rfl rfl (take_ofW HT_.out HW_.out (by kernel_rfl)) (fun _ _ _ h => h) (Or.inl ⟨by rfl,?_⟩) hHeld ?_ ?_
        rotate_left
        ·rintro w' ⟨s0,s1,s2,s3,s4,s5⟩
         go_simp
         with_reducible rfl
        rotate_left
        ·simp only [Act.put,sx_,sy_,sz_,i64_w,i32_w]
         rfl
        refine take_ (i:=7) (N:=some 24) (v:=?_) (a':=?_) #[true,true,true,true,true,true,true,true,false,false] rfl rfl (take_ofW HT_.out HW_.out (by kernel_rfl)) (fun _ _ _ h => h) (Or.inl ⟨by rfl,?_⟩) hHeld ?_ ?_
        rotate_left
        ·rintro w' ⟨s0,s1,s2,s3,s4,s5⟩
         go_simp
         with_reducible rfl
        rotate_left
        ·simp only [Act.put,sx_,sy_,sz_,i64_w,i32_w]
         rfl
        refine one_ (i:=8) (N:=some 25) #[true,true,true,true,true,true,true,true,true,false] rfl rfl (one_of HT_.out (by kernel_rfl)) (by decide) (fun K hK => ?_)
        refine goes_ Try.func89 (by kernel_rfl) rfl #[.agg #[.int .i64 ((rd_T83 l0 x5_1).f0),.int .i64 ((rd_T83 l0 x5_1).f1),.int .i64 ((rd_T83 l0 x5_1).f2)],.agg #[.int .i64 ((rd_T83 l1 x5_1).f0),.int .i64 ((rd_T83 l1 x5_1).f1),.int .i64 ((rd_T83 l1 x5_1).f2)]] (by rfl) rfl rfl qm_ ?_
        with_reducible refine (laws_eqCable.calls ((rd_T83 l0 x5_1).f0) ((rd_T83 l0 x5_1).f1) ((rd_T83 l0 x5_1).f2) ((rd_T83 l1 x5_1).f0) ((rd_T83 l1 x5_1).f1) ((rd_T83 l1 x5_1).f2) true _ A7.out).mono ?_
        rintro e w10 ⟨rfl,hb⟩
        refine ⟨_,rfl,?_⟩
        have n0_:=mk_ (st_ (qb_ HB) hb)
        clear HB
        have HB:=n0_
        clear n0_
        (try clear hb)
        (try clear hb2)
        (try clear hk)
        (try clear hi)
        refine hK.out _ _ ⟨((HB.out.cell (wl_ w _ hw420_0)).trans hw420_0),((HB.out.cell (wl_ w _ hw420_1)).trans hw420_1),((HB.out.cell (wl_ w _ hw420_2)).trans hw420_2),((HB.out.cell (wl_ w _ hw421_0)).trans hw421_0),((HB.out.cell (wl_ w _ hw421_1)).trans hw421_1),((HB.out.cell (wl_ w _ hw421_2)).trans hw421_2)⟩ (fun hHeld => ?_)
        clear hK K
        refine norm_ (a':=?_) ?_ ?_
        rotate_left
        ·show Act.put _ (some 25) _ = _
         simp only [Act.put,sx_,sy_,sz_,i64_w,i32_w]
         rfl
        refine pure_ (i:=9) (N:=some 26) (v:=?_) (a':=?_) #[true,true,true,true,true,true,true,true,true,true] rfl rfl (any_of HT_.out (by kernel_rfl)) (fun _ _ _ h => h) (Or.inl ⟨by rfl,?_⟩) ?_ ?_
        rotate_left
        ·intro w'
         go_simp
         with_reducible rfl
        rotate_left
        ·simp only [Act.put,sx_,sy_,sz_,i64_w,i32_w]
         rfl
        refine done_ (done_of HT_.out (by kernel_rfl)) ?_
        try go_wp2
        go_roundg k1
        case measure => have:=HK1.out;omega
        case rel => exact ⟨(wrap64 (x5_1 + 1)),qf_,H',⟨by have:=HK1.out;omega⟩,⟨u1_ HB⟩⟩
       ·replace c8:=Bool.eq_false_iff.mpr c8
        subst c8
        have H1 : (some false) = some r:=by rw [if_neg (show ¬ (false = true) by decide)] at H;exact H
        clear H
        have H:=H1
        clear H1
        obtain rfl:=Option.some.inj H
        try go_wp2
        have n0_:=mk_ (bd_ HB.out)
        clear HB
        have HB:=n0_
        clear n0_
        have p420 : 0 ≤ (x5_1 : Int):=od_ qa_
        have q420 : x5_1 < (l0.length : Int):=od_ qa_
        obtain ⟨ad420,e420,hx420_0,hx420_1,hx420_2⟩:=at_T83 HR0.out x5_1 p420 q420
        have hw420_2:=hx420_2
        have hw420_1:=hx420_1
        have hw420_0:=hx420_0
        cases e420
        replace hx420_0:=(HB.out.cell (wl_ w _ hx420_0)).trans hx420_0
        replace hx420_1:=(HB.out.cell (wl_ w _ hx420_1)).trans hx420_1
        replace hx420_2:=(HB.out.cell (wl_ w _ hx420_2)).trans hx420_2
        replace p420:=eq_true p420
        replace q420:=eq_true q420
        have p421 : 0 ≤ (x5_1 : Int):=od_ qa_
        have q421 : x5_1 < (l1.length : Int):=od_ qa_
        obtain ⟨ad421,e421,hx421_0,hx421_1,hx421_2⟩:=at_T83 HR1.out x5_1 p421 q421
        have hw421_2:=hx421_2
        have hw421_1:=hx421_1
        have hw421_0:=hx421_0
        cases e421
        replace hx421_0:=(HB.out.cell (wl_ w _ hx421_0)).trans hx421_0
        replace hx421_1:=(HB.out.cell (wl_ w _ hx421_1)).trans hx421_1
        replace hx421_2:=(HB.out.cell (wl_ w _ hx421_2)).trans hx421_2
        replace p421:=eq_true p421
        replace q421:=eq_true q421
        refine start_ (n:=10) (S:=fun w' => w'.cell? (ad420.add ((x5_1).toNat * 3)) = some (.int .i64 ((rd_T83 l0 x5_1).f0)) ∧ w'.cell? ⟨(ad420.add ((x5_1).toNat * 3)).block,(ad420.add ((x5_1).toNat * 3)).off + 1,none⟩ = some (.int .i64 ((rd_T83 l0 x5_1).f1)) ∧ w'.cell? ⟨(ad420.add ((x5_1).toNat * 3)).block,(ad420.add ((x5_1).toNat * 3)).off + 2,none⟩ = some (.int .i64 ((rd_T83 l0 x5_1).f2)) ∧ w'.cell? (ad421.add ((x5_1).toNat * 3)) = some (.int .i64 ((rd_T83 l1 x5_1).f0)) ∧ w'.cell? ⟨(ad421.add ((x5_1).toNat * 3)).block,(ad421.add ((x5_1).toNat * 3)).off + 1,none⟩ = some (.int .i64 ((rd_T83 l1 x5_1).f1)) ∧ w'.cell? ⟨(ad421.add ((x5_1).toNat * 3)).block,(ad421.add ((x5_1).toNat * 3)).off + 2,none⟩ = some (.int .i64 ((rd_T83 l1 x5_1).f2))) (ds:=[]) #[false,false,false,false,false,false,false,false,false,false] (by kernel_rfl) rfl rfl ⟨((HB.out.cell (wl_ w _ hw420_0)).trans hw420_0),((HB.out.cell (wl_ w _ hw420_1)).trans hw420_1),((HB.out.cell (wl_ w _ hw420_2)).trans hw420_2),((HB.out.cell (wl_ w _ hw421_0)).trans hw421_0),((HB.out.cell (wl_ w _ hw421_1)).trans hw421_1),((HB.out.cell (wl_ w _ hw421_2)).trans hw421_2)⟩ (fun hHeld => ?_);refine with_tabW laws_eqCableS.tab6 laws_eqCableS.bits6 (fun HT_ HW_ => ?_)
        generalize wr.drew = w11 at HB hx420_0 hx420_1 hx420_2 hx421_0 hx421_1 hx421_2 hHeld ⊢
        refine pure_ (i:=0) (N:=some 17) (v:=?_) (a':=?_) #[true,false,false,false,false,false,false,false,false,false] rfl rfl (any_of HT_.out (by kernel_rfl)) (fun _ _ _ h => h) (Or.inl ⟨by rfl,?_⟩) ?_ ?_
        rotate_left
        ·intro w'
         go_simp
         with_reducible rfl
        rotate_left
        ·simp only [Act.put,sx_,sy_,sz_,i64_w,i32_w]
         rfl
        refine pure_ (i:=1) (N:=some 18) (v:=?_) (a':=?_) #[true,true,false,false,false,false,false,false,false,false] rfl rfl (any_of HT_.out (by kernel_rfl)) (fun _ _ _ h => h) (Or.inl ⟨by rfl,?_⟩) ?_ ?_
        rotate_left
        ·intro w'
         go_simp
         with_reducible rfl
        rotate_left
        ·simp only [Act.put,sx_,sy_,sz_,i64_w,i32_w]
         rfl
        refine pure_ (i:=2) (N:=some 19) (v:=?_) (a':=?_) #[true,true,true,false,false,false,false,false,false,false] rfl rfl (any_of HT_.out (by kernel_rfl)) (fun _ _ _ h => h) (Or.inl ⟨by rfl,?_⟩) ?_ ?_
        rotate_left
        ·intro w'
         go_simp
         with_reducible rfl
        rotate_left
        ·simp only [Act.put,sx_,sy_,sz_,i64_w,i32_w]
         rfl
        refine pure_ (i:=4) (N:=some 21) (v:=?_) (a':=?_) #[true,true,true,false,true,false,false,false,false,false] rfl rfl (any_of HT_.out (by kernel_rfl)) (fun _ _ _ h => h) (Or.inl ⟨by rfl,?_⟩) ?_ ?_
        rotate_left
        ·intro w'
         go_simp
         with_reducible rfl
        rotate_left
        ·simp only [Act.put,sx_,sy_,sz_,i64_w,i32_w]
         rfl
        refine pure_ (i:=5) (N:=some 22) (v:=?_) (a':=?_) #[true,true,true,false,true,true,false,false,false,false] rfl rfl (any_of HT_.out (by kernel_rfl)) (fun _ _ _ h => h) (Or.inl ⟨by rfl,?_⟩) ?_ ?_
        rotate_left
        ·intro w'
         go_simp
         with_reducible rfl
        rotate_left
        ·simp only [Act.put,sx_,sy_,sz_,i64_w,i32_w]
         rfl
        refine pure_ (i:=6) (N:=some 23) (v:=?_) (a':=?_) #[true,true,true,false,true,true,true,false,false,false] rfl rfl (any_of HT_.out (by kernel_rfl)) (fun _ _ _ h => h) (Or.inl ⟨by rfl,?_⟩) ?_ ?_
        rotate_left
        ·intro w'
         go_simp
         with_reducible rfl
        rotate_left
        ·simp only [Act.put,sx_,sy_,sz_,i64_w,i32_w]
         rfl
        refine take_ (i:=3) (N:=some 20) (v:=?_) (a':=?_) #[true,true,true,true,true,true,true,false,false,false] rfl rfl (take_ofW HT_.out HW_.out (by kernel_rfl)) (fun _ _ _ h => h) (Or.inl ⟨by rfl,?_⟩) hHeld ?_ ?_
        rotate_left
        ·rintro w' ⟨s0,s1,s2,s3,s4,s5⟩
         go_simp
         with_reducible rfl
        rotate_left
        ·simp only [Act.put,sx_,sy_,sz_,i64_w,i32_w]
         rfl
        refine take_ (i:=7) (N:=some 24) (v:=?_) (a':=?_) #[true,true,true,true,true,true,true,true,false,false] rfl rfl (take_ofW HT_.out HW_.out (by kernel_rfl)) (fun _ _ _ h => h) (Or.inl ⟨by rfl,?_⟩) hHeld ?_ ?_
        rotate_left
        ·rintro w' ⟨s0,s1,s2,s3,s4,s5⟩
         go_simp
         with_reducible rfl
        rotate_left
        ·simp only [Act.put,sx_,sy_,sz_,i64_w,i32_w]
         rfl
        refine one_ (i:=8) (N:=some 25) #[true,true,true,true,true,true,true,true,true,false] rfl rfl (one_of HT_.out (by kernel_rfl)) (by decide) (fun K hK => ?_)
        refine goes_ Try.func89 (by kernel_rfl) rfl #[.agg #[.int .i64 ((rd_T83 l0 x5_1).f0),.int .i64 ((rd_T83 l0 x5_1).f1),.int .i64 ((rd_T83 l0 x5_1).f2)],.agg #[.int .i64 ((rd_T83 l1 x5_1).f0),.int .i64 ((rd_T83 l1 x5_1).f1),.int .i64 ((rd_T83 l1 x5_1).f2)]] (by rfl) rfl rfl qm_ ?_
        with_reducible refine (laws_eqCable.calls ((rd_T83 l0 x5_1).f0) ((rd_T83 l0 x5_1).f1) ((rd_T83 l0 x5_1).f2) ((rd_T83 l1 x5_1).f0) ((rd_T83 l1 x5_1).f1) ((rd_T83 l1 x5_1).f2) false _ A7.out).mono ?_
        rintro e w12 ⟨rfl,hb⟩
        refine ⟨_,rfl,?_⟩
        have n0_:=mk_ (st_ (qb_ HB) hb)
        clear HB
        have HB:=n0_
        clear n0_
        (try clear hb)
        (try clear hb2)
        (try clear hk)
        (try clear hi)
        refine hK.out _ _ ⟨((HB.out.cell (wl_ w _ hw420_0)).trans hw420_0),((HB.out.cell (wl_ w _ hw420_1)).trans hw420_1),((HB.out.cell (wl_ w _ hw420_2)).trans hw420_2),((HB.out.cell (wl_ w _ hw421_0)).trans hw421_0),((HB.out.cell (wl_ w _ hw421_1)).trans hw421_1),((HB.out.cell (wl_ w _ hw421_2)).trans hw421_2)⟩ (fun hHeld => ?_)
        clear hK K
        refine norm_ (a':=?_) ?_ ?_
        rotate_left
        ·show Act.put _ (some 25) _ = _
         simp only [Act.put,sx_,sy_,sz_,i64_w,i32_w]
         rfl
        refine pure_ (i:=9) (N:=some 26) (v:=?_) (a':=?_) #[true,true,true,true,true,true,true,true,true,true] rfl rfl (any_of HT_.out (by kernel_rfl)) (fun _ _ _ h => h) (Or.inl ⟨by rfl,?_⟩) ?_ ?_
        rotate_left
        ·intro w'
         go_simp
         with_reducible rfl
        rotate_left
        ·simp only [Act.put,sx_,sy_,sz_,i64_w,i32_w]
         rfl
        refine done_ (done_of HT_.out (by kernel_rfl)) ?_
        try go_wp2
        go_ret
        exact ⟨qe_,u1_ HB⟩
      ·rw [if_neg c6] at H
       exact absurd H (by simp)
     ·rw [if_neg c5] at H
      exact absurd H (by simp)
    ·rw [if_neg c4] at H
     have c4b0 : decide (x5_1 < (l0.length : Int)) = false:=decide_eq_false c4
     clear c4
     obtain rfl:=Option.some.inj H
     go_wp2
     go_ret
     exact ⟨qe_,u1_ HB⟩
 ·rw [if_neg c3] at H
  have c3b0 : ((l0.length : Int) == (l1.length : Int)) = false:=beq_eq_false_iff_ne.mpr c3
  have c3b1 : ((l0.length : Int) != (l1.length : Int)) = true:=bne_iff_ne.mpr c3
  have c3b2 : (l0.length == l1.length) = false:=by first|simpa using c3|(simp at c3 ⊢;omega)
  obtain rfl:=Option.some.inj H
  go_enter Try.func53,Try.ntmps53
  go_wp2
  go_ret
  exact ⟨qe_,u1_ HB⟩

end Go.Proofs.Ytblcnbnphjnhdaa.PAll
