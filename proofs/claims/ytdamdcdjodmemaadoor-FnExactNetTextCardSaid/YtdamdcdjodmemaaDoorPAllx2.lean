/- Proved here: contracts of functions of the given program, or lemmas on them, for the laws of this seat. Written by xprint.py, a program of this session, on the ground of the kit's print; parts by hand: wip/x/ext. -/
import Derived.Test.YtdamdcdjodmemaaDoorPAllx0
namespace Go.Proofs.YtdamdcdjodmemaaDoor.PAll
open Go.RowKit Go.Proofs.YtdamdcdjodmemaaDoorW.PrintWords Go.Proofs.YtdamdcdjodmemaaDoorW.PrintLast Go.Proofs.YtdamdcdjodmemaaDoorW.PrintMore
attribute [local go_sem] max2_int min2_int max_two min_two max_three min_three max_four min_four   -- for this text's walks alone
set_option linter.unusedVariables false
set_option linter.unusedSimpArgs false

/-! ### laws_toCable: function 25 -/
def laws_toCable.f (a0_0 : Int) (a0_1 : Int) (a0_2 : Int) : Option (Int × Int × Int):=some (a0_0,a0_1,a0_2)
set_option maxHeartbeats 8000000 in
set_option maxRecDepth 100000 in
theorem laws_toCable.calls (a0_0 : Int) (a0_1 : Int) (a0_2 : Int) (r1 : Int) (r2 : Int) (r3 : Int) (w : World) (h : laws_toCable.f a0_0 a0_1 a0_2 = some (r1,r2,r3)) :
  Calls Tryd.prog 25 #[.agg #[.int .i64 a0_0,.int .i64 a0_1,.int .i64 a0_2]] w fun e w' => e = .returned (.agg #[.int .i64 r1,.int .i64 r2,.int .i64 r3]) ∧ Below w.heap.size w w':=by
 have hu58:=Tryd.underlying58
 have hu39:=Tryd.underlying39
 have HB:=mk_ (Below.refl w.heap.size w)
 have H : (some (a0_0,a0_1,a0_2)) = some (r1,r2,r3):=h
 clear h
 simp only [Option.some.injEq,Prod.mk.injEq] at H
 obtain ⟨rfl,rfl,rfl⟩:=H
 go_enter Tryd.func25,Tryd.ntmps25
 go_wp2_with (first|((with_reducible refine gate_dst (N:=1) rfl ?_);refine box_event ?hg (N:=1) ?hd (cs:=#[.int .i64 a0_0,.int .i64 a0_1,.int .i64 a0_2]) (t:=58) ?hr ?_;(case hd => rfl);(case hg => rfl);(case hr => first|(go_simp;done)|(go_simp;rfl));intro gb145 hg w2 hbox hb;have n0_:=mk_ (st_ (qb_ HB) hb);have n1_:=mk_ (hbox);have n2_:=mk_ ((by rw [hg];exact (bz_ (qb_ HB)) : w.heap.size ≤ gb145));have n3_:=mk_ ((by rw [hg];exact (bz_ (qb_ HB)) : w.heap.size ≤ gb145));clear HB;have HB:=n0_;have BK145:=n1_;have GW145:=n2_;have GE145:=n3_;clear n0_ n1_ n2_ n3_ hb hbox hg)|((with_reducible refine gate_dst (N:=2) rfl ?_);refine box_event ?hg (N:=2) ?hd (cs:=#[.int .i64 0,.int .i64 0,.int .i64 0]) (t:=39) ?hr ?_;(case hd => rfl);(case hg => rfl);(case hr => first|(go_simp;done)|(go_simp;rfl));intro gb146 hg w3 hbox hb;have n0_:=mk_ (blk_below (g:=gb145) (o:=.cells #[.int .i64 a0_0,.int .i64 a0_1,.int .i64 a0_2] 58 (0,0)) (qk_ BK145) hb);have n1_:=mk_ (st_ (qc_ HB GE145) hb);have n2_:=mk_ (hbox);have n3_:=mk_ ((by rw [hg];exact (bz_ (qc_ HB GE145)) : w.heap.size ≤ gb146));have n4_:=mk_ ((by rw [hg];exact (bz_ (qc_ HB GE145)) : w.heap.size ≤ gb146));have n5_:=mk_ ((by rw [hg];exact Nat.ne_of_lt (blk_lt (g:=gb145) (o:=.cells #[.int .i64 a0_0,.int .i64 a0_1,.int .i64 a0_2] 58 (0,0)) (qk_ BK145)) : gb145 ≠ gb146));have n6_:=mk_ ((by rw [hg];exact Nat.ne_of_gt (blk_lt (g:=gb145) (o:=.cells #[.int .i64 a0_0,.int .i64 a0_1,.int .i64 a0_2] 58 (0,0)) (qk_ BK145)) : gb146 ≠ gb145));clear BK145 HB;have BK145:=n0_;have HB:=n1_;have BK146:=n2_;have GW146:=n3_;have GE146:=n4_;have NB145_146:=n5_;have NB146_145:=n6_;clear n0_ n1_ n2_ n3_ n4_ n5_ n6_ hb hbox hg)|((with_reducible refine gate_dst (N:=3) rfl ?_);refine box_event ?hg (N:=3) ?hd (cs:=#[.int .i64 0,.int .i64 0,.int .i64 0]) (t:=39) ?hr ?_;(case hd => rfl);(case hg => rfl);(case hr => first|(go_simp;done)|(go_simp;rfl));intro gb147 hg w4 hbox hb;have n0_:=mk_ (blk_below (g:=gb145) (o:=.cells #[.int .i64 a0_0,.int .i64 a0_1,.int .i64 a0_2] 58 (0,0)) (qk_ BK145) hb);have n1_:=mk_ (blk_below (g:=gb146) (o:=.cells #[.int .i64 0,.int .i64 0,.int .i64 0] 39 (0,0)) (qk_ BK146) hb);have n2_:=mk_ (st_ (qd_ HB GE145 GE146) hb);have n3_:=mk_ (hbox);have n4_:=mk_ ((by rw [hg];exact (bz_ (qd_ HB GE145 GE146)) : w.heap.size ≤ gb147));have n5_:=mk_ ((by rw [hg];exact (bz_ (qd_ HB GE145 GE146)) : w.heap.size ≤ gb147));have n6_:=mk_ ((by rw [hg];exact Nat.ne_of_lt (blk_lt (g:=gb145) (o:=.cells #[.int .i64 a0_0,.int .i64 a0_1,.int .i64 a0_2] 58 (0,0)) (qk_ BK145)) : gb145 ≠ gb147));have n7_:=mk_ ((by rw [hg];exact Nat.ne_of_gt (blk_lt (g:=gb145) (o:=.cells #[.int .i64 a0_0,.int .i64 a0_1,.int .i64 a0_2] 58 (0,0)) (qk_ BK145)) : gb147 ≠ gb145));have n8_:=mk_ ((by rw [hg];exact Nat.ne_of_lt (blk_lt (g:=gb146) (o:=.cells #[.int .i64 0,.int .i64 0,.int .i64 0] 39 (0,0)) (qk_ BK146)) : gb146 ≠ gb147));have n9_:=mk_ ((by rw [hg];exact Nat.ne_of_gt (blk_lt (g:=gb146) (o:=.cells #[.int .i64 0,.int .i64 0,.int .i64 0] 39 (0,0)) (qk_ BK146)) : gb147 ≠ gb146));clear BK145 BK146 HB;have BK145:=n0_;have BK146:=n1_;have HB:=n2_;have BK147:=n3_;have GW147:=n4_;have GE147:=n5_;have NB145_147:=n6_;have NB147_145:=n7_;have NB146_147:=n8_;have NB147_146:=n9_;clear n0_ n1_ n2_ n3_ n4_ n5_ n6_ n7_ n8_ n9_ hb hbox hg;have hnb5:=NB145_146.out;have hnc5:=NB146_145.out;have hnb6:=NB145_147.out;have hnc6:=NB147_145.out;have hcz7_0 : w4.cell? ⟨gb145,0,none⟩ = some (.int .i64 a0_0):=(bc_ BK145.out 0).trans rfl;have hcz7_1 : w4.cell? ⟨gb145,1,none⟩ = some (.int .i64 a0_1):=(bc_ BK145.out 1).trans rfl;have hcz7_2 : w4.cell? ⟨gb145,2,none⟩ = some (.int .i64 a0_2):=(bc_ BK145.out 2).trans rfl;have hfz7_0:=bf_ BK145.out 0;have hfz7_1:=bf_ BK145.out 1;have hfz7_2:=bf_ BK145.out 2;have hnb8:=NB147_146.out;have hnc8:=NB146_147.out;have hcz9_0 : w4.cell? ⟨gb147,0,none⟩ = some (.int .i64 0):=(bc_ BK147.out 0).trans rfl;have hcz9_1 : w4.cell? ⟨gb147,1,none⟩ = some (.int .i64 0):=(bc_ BK147.out 1).trans rfl;have hcz9_2 : w4.cell? ⟨gb147,2,none⟩ = some (.int .i64 0):=(bc_ BK147.out 2).trans rfl;have hfz9_0:=bf_ BK147.out 0;have hfz9_1:=bf_ BK147.out 1;have hfz9_2:=bf_ BK147.out 2;have hcz10_0 : w4.cell? ⟨gb146,0,none⟩ = some (.int .i64 0):=(bc_ BK146.out 0).trans rfl;have hcz10_1 : w4.cell? ⟨gb146,1,none⟩ = some (.int .i64 0):=(bc_ BK146.out 1).trans rfl;have hcz10_2 : w4.cell? ⟨gb146,2,none⟩ = some (.int .i64 0):=(bc_ BK146.out 2).trans rfl;have hfz10_0:=bf_ BK146.out 0;have hfz10_1:=bf_ BK146.out 1;have hfz10_2:=bf_ BK146.out 2))
 refine bodyPost_ret (results_cell_row rfl _ _ gb146 39 #[.int .i64 a0_0,.int .i64 a0_1,.int .i64 a0_2] (0,0) _ rfl (by (with_reducible repeat (first|apply kn_|apply kd_|apply ka_));refine blk_put (cs:=#[.int .i64 a0_0,.int .i64 a0_1,.int .i64 0]) ?_ 2 _ rfl;(with_reducible repeat (first|apply kn_|apply kd_|apply ka_));refine blk_put (cs:=#[.int .i64 a0_0,.int .i64 0,.int .i64 0]) ?_ 1 _ rfl;(with_reducible repeat (first|apply kn_|apply kd_|apply ka_));refine blk_put (cs:=#[.int .i64 0,.int .i64 0,.int .i64 0]) ?_ 0 _ rfl;(with_reducible repeat (first|apply kn_|apply kd_|apply ka_));refine blk_far ?_ NB146_147.out _;(with_reducible repeat (first|apply kn_|apply kd_|apply ka_));refine blk_far ?_ NB146_147.out _;(with_reducible repeat (first|apply kn_|apply kd_|apply ka_));refine blk_far ?_ NB146_147.out _;(with_reducible repeat (first|apply kn_|apply kd_|apply ka_));exact BK146.out) Tryd.underlying39 rfl (by kernel_rfl)) rfl ?_
 exact ⟨qe_,u3_ HB GE145 GE146 GE147⟩

/-! ### laws_toCableS: function 13 -/
def laws_toCableS.l0 : Nat → List (S58) → List (S39) → Int → Option ((List (S39)))
 | 0,_,_,_ => none
 | k + 1,x0,x3,x4 => if x4 < (x0.length : Int) then (if 0 ≤ x4 then ((laws_toCable.f ((rd_T58 x0 x4).f0) ((rd_T58 x0 x4).f1) ((rd_T58 x0 x4).f2)).bind fun bt152 => (if x4 < (x3.length : Int) then (laws_toCableS.l0 k x0 (x3.set (x4 : Int).toNat (⟨bt152.1,bt152.2.1,bt152.2.2⟩ : S39)) (wrap64 (x4 + 1))) else (none))) else (none)) else (some x3)
def laws_toCableS.f (k : Nat) (l0 : List (S58)) : Option ((List (S39))):=if 0 ≤ (l0.length : Int) then (if ((l0.length : Int) : Int).toNat ≤ 11728124029610 then (laws_toCableS.l0 k l0 (List.replicate ((l0.length : Int) : Int).toNat z39) 0) else (none)) else (none)
theorem laws_toCableS.mono_l : ∀ k,(∀ y0 y1 y2,LeO (laws_toCableS.l0 k y0 y1 y2) (laws_toCableS.l0 (k + 1) y0 y1 y2))
 | 0 => fun _ _ _ r h => by simp [laws_toCableS.l0] at h
 | k + 1 => by
  have ih0:=laws_toCableS.mono_l k
  ·intro y0 y1 y2
   unfold laws_toCableS.l0
   repeat' first
   | (with_reducible exact ih0 _ _ _)
   | (with_reducible exact LeO.refl _)
   | (with_reducible exact LeO.none _)
   | (with_reducible refine LeO.ite ?_ ?_)
   | (with_reducible refine LeO.bind ?_ (fun _ => ?_))
   | exact ih0 _ _ _
   | exact LeO.none _
   | refine LeO.ite ?_ ?_
   | refine LeO.bind ?_ (fun _ => ?_)
theorem laws_toCableS.mono : ∀ a0 k,LeO (laws_toCableS.f k a0) (laws_toCableS.f (k + 1) a0):=by
 intro a0 k
 have ih0:=laws_toCableS.mono_l k
 unfold laws_toCableS.f
 repeat' first
   | (with_reducible exact ih0 _ _ _)
   | (with_reducible exact LeO.refl _)
   | (with_reducible exact LeO.none _)
   | (with_reducible refine LeO.ite ?_ ?_)
   | (with_reducible refine LeO.bind ?_ (fun _ => ?_))
   | exact ih0 _ _ _
   | exact LeO.none _
   | refine LeO.ite ?_ ?_
   | refine LeO.bind ?_ (fun _ => ?_)
set_option maxHeartbeats 8000000 in
set_option maxRecDepth 100000 in
theorem laws_toCableS.calls (k : Nat) (A0 : Option Addr) (c0 : Nat) (l0 : List (S58)) (r : List (S39)) (w : World) (hr0 : Kd.C k58 w A0 l0.length l0) (hc0 : l0.length ≤ c0) (h : laws_toCableS.f k l0 = some r) :
  Calls Tryd.prog 13 #[.slice A0 l0.length c0] w fun e w' => ∃ v0_ : Value,e = .returned (v0_) ∧ Kd.R k39 39 w' w.heap.size (fun _ => True) v0_ r ∧ Below w.heap.size w w':=by
 have hu58:=Tryd.underlying58
 have hu39:=Tryd.underlying39
 have HR0:=mk_ hr0
 have HC0:=mk_ hc0
 clear hr0 hc0
 have HB:=mk_ (Below.refl w.heap.size w)
 have H : (if 0 ≤ (l0.length : Int) then (if ((l0.length : Int) : Int).toNat ≤ 11728124029610 then (laws_toCableS.l0 k l0 (List.replicate ((l0.length : Int) : Int).toNat z39) 0) else (none)) else (none)) = some r:=h
 clear h
 by_cases c2 : 0 ≤ (l0.length : Int)
 ·rw [if_pos c2] at H
  have c2b0:=eq_true c2
  have c2b1 : decide (0 ≤ (l0.length : Int)) = true:=decide_eq_true c2
  clear c2
  by_cases c3 : ((l0.length : Int) : Int).toNat ≤ 11728124029610
  ·rw [if_pos c3] at H
   have c3b0:=eq_true c3
   have c3b1 : decide (((l0.length : Int) : Int).toNat ≤ 11728124029610) = true:=decide_eq_true c3
   clear c3
   obtain ⟨y148,hy148⟩ : ∃ y_ : List (S39),y_ = (List.replicate ((l0.length : Int) : Int).toNat z39):=⟨_,rfl⟩
   replace H : (laws_toCableS.l0 k l0 y148 0) = some r:=by first|(rw [hy148];with_reducible exact H)|(have H2_:=(Option.bind_some _ _).symm.trans H;rw [hy148];with_reducible exact H2_)|(have H2_:=(Option.bind_some _ _).symm.trans H;with_reducible exact H2_)|with_reducible exact H|(rw [hy148];exact H)|exact H
   have Ny148:=mk_ hy148
   clear hy148
   have H':=mk_ H
   clear H
   go_enter Tryd.func13,Tryd.ntmps13
   go_wp2_with (first|((with_reducible refine gate_dst (N:=7) rfl ?_);refine Kd.R_make k39 _ 39 rfl (N:=7) rfl 28 _ _ rfl (l0.length : Int) rfl rfl Tryd.underlying28 (.agg #[(.int .i64 0),(.int .i64 0),(.int .i64 0)]) 24 info39 rfl (by decide) (by omega) z39 (ok:=fun _ => True) (okp:=fun _ => True) (k39_mkM _ _ _ z39 ) (fun _ hk => hk) trivial (od_ qa_) (Nat.le_trans (Nat.mul_le_mul_right _ (od_ qa_ : (l0.length : Int).toNat ≤ 11728124029610)) (by omega)) (Below.refl _ _) (Nat.le_refl _) ?_;intro v149 w4 ho5 hb hg_ hnew_;clear hg_ hnew_;(first|rw [← Ny148.out] at ho5|(simp only [Int.reduceToNat] at ho5;rw [← Ny148.out] at ho5));have n0_:=mk_ (Kd.R_lower ho5 (bz_ (qb_ HB)));have n1_:=mk_ (st_ (qb_ HB) hb);clear HB;have HO150:=n0_;have HB:=n1_;clear n0_ n1_ hb ho5))
   go_loopg [4] k (fun kq v4 w' => ∃ (x3_1 : List (S39)) (x4_1 : Int),v4 = .int .i64 x4_1 ∧ Aside0 (laws_toCableS.l0 kq l0 x3_1 x4_1 = some r) ∧ Aside0 (kq ≤ k) ∧ Aside0 (Kd.R k39 39 w' w.heap.size (fun _ => True) v149 x3_1) ∧ Aside0 (Below w.heap.size w w'))
   case atStart => exact ⟨(y148),(0),qf_,H',⟨Nat.le_refl _⟩,⟨qr_ HO150⟩,⟨u1_ HB⟩⟩
   case round =>
    clear H'
    try clear c1
    try clear c2
    try clear c2b0
    try clear c2b1
    try clear p2
    try clear c3
    try clear c3b0
    try clear c3b1
    obtain ⟨x3_1,x4_1,rfl,HA,HK1,HO_3,HB⟩:=hrel
    cases gk with
    | zero => exact absurd HA.out (by simp [laws_toCableS.l0])
    | succ k1 =>
     have H:=HA.out
     clear HA
     simp only [laws_toCableS.l0] at H
     by_cases c6 : x4_1 < (l0.length : Int)
     ·rw [if_pos c6] at H
      have c6b0 : decide (x4_1 < (l0.length : Int)) = true:=decide_eq_true c6
      clear c6
      by_cases c7 : 0 ≤ x4_1
      ·rw [if_pos c7] at H
       have c7b0 : decide (0 ≤ x4_1) = true:=decide_eq_true c7
       clear c7
       replace H:=Option.bind_eq_some_iff.mp H
       obtain ⟨⟨t152,t153,t154⟩,A80,H⟩:=H
       replace H : (if x4_1 < (x3_1.length : Int) then (laws_toCableS.l0 k1 l0 (x3_1.set (x4_1 : Int).toNat (⟨t152,t153,t154⟩ : S39)) (wrap64 (x4_1 + 1))) else (none)) = some r:=H
       have A8:=mk_ A80
       clear A80
       by_cases c9 : x4_1 < (x3_1.length : Int)
       ·rw [if_pos c9] at H
        have c9b0 : decide (x4_1 < (x3_1.length : Int)) = true:=decide_eq_true c9
        clear c9
        obtain ⟨y155,hy155⟩ : ∃ y_ : List (S39),y_ = (x3_1.set (x4_1 : Int).toNat (⟨t152,t153,t154⟩ : S39)):=⟨_,rfl⟩
        replace H : (laws_toCableS.l0 k1 l0 y155 (wrap64 (x4_1 + 1))) = some r:=by first|(rw [hy155];with_reducible exact H)|(have H2_:=(Option.bind_some _ _).symm.trans H;rw [hy155];with_reducible exact H2_)|(have H2_:=(Option.bind_some _ _).symm.trans H;with_reducible exact H2_)|with_reducible exact H|(rw [hy155];exact H)|exact H
        have Ny155:=mk_ hy155
        clear hy155
        have H':=mk_ H
        clear H
        have p151 : 0 ≤ (x4_1 : Int):=od_ qa_
        have q151 : x4_1 < (l0.length : Int):=od_ qa_
        obtain ⟨ad151,e151,hx151_0,hx151_1,hx151_2⟩:=at_T58 HR0.out x4_1 p151 q151
        cases e151
        replace hx151_0:=(HB.out.cell (wl_ w _ hx151_0)).trans hx151_0
        replace hx151_1:=(HB.out.cell (wl_ w _ hx151_1)).trans hx151_1
        replace hx151_2:=(HB.out.cell (wl_ w _ hx151_2)).trans hx151_2
        replace p151:=eq_true p151
        replace q151:=eq_true q151
        go_wp2_with (first|((with_reducible refine gate_callee (f:=25) rfl ?_);refine goesL_ (some 20) rfl rfl Tryd.func25 (by kernel_rfl) rfl #[.agg #[.int .i64 ((rd_T58 l0 x4_1).f0),.int .i64 ((rd_T58 l0 x4_1).f1),.int .i64 ((rd_T58 l0 x4_1).f2)]] rfl qm_ ?_;(with_reducible refine (laws_toCable.calls ((rd_T58 l0 x4_1).f0) ((rd_T58 l0 x4_1).f1) ((rd_T58 l0 x4_1).f2) t152 t153 t154 _ A8.out).mono ?_);rintro e w11 ⟨rfl,hb⟩;refine ⟨_,rfl,?_⟩;have n0_:=mk_ (rb_ (qr_ HO_3) hb);have n1_:=mk_ (st_ (qb_ HB) hb);clear HO_3 HB;have HO_3:=n0_;have HB:=n1_;clear n0_ n1_;(try clear hb);(try clear hb2);(try clear hk);(try clear hi);have p10 : 0 ≤ (x4_1 : Int):=od_ qa_;have q10 : (x4_1 : Int) < ((x3_1.length : Int) : Int):=od_ qa_;obtain ⟨go10,co10,eo10,gb10,gl10,cl10,HG10⟩:=Kd.R_form HO_3.out (by omega);(first|cases eo10|(injection eo10 with ea_ en_ ec_;(first|subst ea_|(injection ea_ with ea_;subst ea_));subst ec_;clear en_));have GB10:=mk_ gb10;have GG10:=mk_ HG10;clear gb10 gl10 HG10;obtain ⟨ce10,hcl10,hM10,hcc10,hfr10⟩:=Kd.R_elem HO_3.out z39 (x4_1 : Int) p10 q10;obtain rfl:=k39_openM hM10;have hx10_0 : w11.cell? ⟨go10,(x4_1 : Int).toNat * 3,none⟩ = some (.int .i64 ((rd_T39 x3_1 x4_1).f0)):=hcc10 0 _ rfl;have hx10_1 : w11.cell? ⟨go10,(x4_1 : Int).toNat * 3 + 1,none⟩ = some (.int .i64 ((rd_T39 x3_1 x4_1).f1)):=hcc10 1 _ rfl;have hx10_2 : w11.cell? ⟨go10,(x4_1 : Int).toNat * 3 + 2,none⟩ = some (.int .i64 ((rd_T39 x3_1 x4_1).f2)):=hcc10 2 _ rfl;have hf10_0 : w11.frozen? ⟨go10,(x4_1 : Int).toNat * 3,none⟩ = false:=hfr10 0;have hf10_1 : w11.frozen? ⟨go10,(x4_1 : Int).toNat * 3 + 1,none⟩ = false:=hfr10 1;have hf10_2 : w11.frozen? ⟨go10,(x4_1 : Int).toNat * 3 + 2,none⟩ = false:=hfr10 2;clear hcl10 hcc10 hfr10 hM10;replace p10:=eq_true p10;replace q10:=eq_true q10;have HX12:=mk_ (show Kd.R k39 39 w11 w.heap.size (fun _ => True) (.slice (some ⟨go10,0,none⟩) x3_1.length co10) x3_1 from (qr_ HO_3));obtain ⟨ce12,hcl12,hM12,hcc12,hfr12⟩:=Kd.R_elem HX12.out z39 (x4_1 : Int) (od_ qa_) (by have h_ : (x4_1 : Int) < ((x3_1.length : Int) : Int):=od_ qa_;first|exact h_|(have e_:=(rr_ HO_3.out).1;omega)|simpa using h_);obtain rfl:=k39_openM hM12;have HP12:=Kd.R_seg HX12.out (x4_1 : Int) (od_ qa_) (by have h_ : (x4_1 : Int) < ((x3_1.length : Int) : Int):=od_ qa_;first|exact h_|(have e_:=(rr_ HO_3.out).1;omega)|simpa using h_) (seg:=[.int .i64 t152,.int .i64 t153,.int .i64 t154]) (j:=0) hcl12 hcc12 (show 3 ≤ 3 from by decide) (x':=(⟨t152,t153,t154⟩ : S39)) (k39_mkM _ _ _ (⟨t152,t153,t154⟩ : S39) ) (fun _ hk => hk);have hx12_0:=hcc12 0 _ rfl;(try simp only [show (k39).sz = 3 from rfl,Nat.mul_one,Nat.add_zero] at hx12_0);have hf12_0:=hfr12 0;(try simp only [show (k39).sz = 3 from rfl,Nat.mul_one,Nat.add_zero] at hf12_0);have hx12_1:=hcc12 1 _ rfl;(try simp only [show (k39).sz = 3 from rfl,Nat.mul_one,Nat.add_zero] at hx12_1);have hf12_1:=hfr12 1;(try simp only [show (k39).sz = 3 from rfl,Nat.mul_one,Nat.add_zero] at hf12_1);have hx12_2:=hcc12 2 _ rfl;(try simp only [show (k39).sz = 3 from rfl,Nat.mul_one,Nat.add_zero] at hx12_2);have hf12_2:=hfr12 2;(try simp only [show (k39).sz = 3 from rfl,Nat.mul_one,Nat.add_zero] at hf12_2);clear hcl12 hcc12 hfr12 hM12)|((with_reducible refine gate_store (t:=39) (p:=21) rfl ?_);refine store_event (t:=39) (p:=21) (v:=?vo_w13) (w1:=(((w11.setCell ⟨go10,(x4_1 : Int).toNat * 3,none⟩ (.int .i64 t152)).setCell ⟨go10,(x4_1 : Int).toNat * 3 + 1,none⟩ (.int .i64 t153)).setCell ⟨go10,(x4_1 : Int).toNat * 3 + 2,none⟩ (.int .i64 t154))) ?hg ?ho ?hn ?hr ?_;(case ho => rfl);(case hg => rfl);(case hn => rfl);(case hr => first|(go_simp;done)|(go_simp;rfl));intro w13 hw;have hg : w11.grownBy w13 (some go10):=(by rw [hw];exact HP12.2);have hp_ : Kd.R k39 39 w13 w.heap.size (fun _ => True) (.slice (some ⟨go10,0,none⟩) x3_1.length co10) y155:=(by rw [hw,Ny155.out];exact HP12.1);clear HP12;have n0_:=mk_ (hp_);have n1_:=mk_ ((by rw [hw];exact bs_ (bs_ (bs_ (HB.out) GB10.out) GB10.out) GB10.out : Below w.heap.size w w13));clear HO_3 HB;have HO_3:=n0_;have HB:=n1_;clear n0_ n1_ hg hw hp_))
        go_roundg k1
        case measure => have:=HK1.out;omega
        case rel => exact ⟨(y155),(wrap64 (x4_1 + 1)),qf_,H',⟨by have:=HK1.out;omega⟩,⟨qr_ HO_3⟩,⟨u1_ HB⟩⟩
       ·rw [if_neg c9] at H
        exact absurd H (by simp)
      ·rw [if_neg c7] at H
       exact absurd H (by simp)
     ·rw [if_neg c6] at H
      have c6b0 : decide (x4_1 < (l0.length : Int)) = false:=decide_eq_false c6
      clear c6
      obtain rfl:=Option.some.inj H
      go_wp2
      go_ret
      exact ⟨_,qe_,qr_ HO_3,u1_ HB⟩
  ·rw [if_neg c3] at H
   exact absurd H (by simp)
 ·rw [if_neg c2] at H
  exact absurd H (by simp)

/-! ### laws_toIntS: function 14 -/
def laws_toIntS.l0 : Nat → List Int → List Int → Int → Option (List Int)
 | 0,_,_,_ => none
 | k + 1,x0,x3,x4 => if x4 < (x0.length : Int) then (if 0 ≤ x4 then (if x4 < (x3.length : Int) then (laws_toIntS.l0 k x0 (x3.set (x4 : Int).toNat (rd x0 x4)) (wrap64 (x4 + 1))) else (none)) else (none)) else (some x3)
def laws_toIntS.f (k : Nat) (l0 : List Int) : Option (List Int):=if 0 ≤ (l0.length : Int) then (if ((l0.length : Int) : Int).toNat ≤ 35184372088832 then (laws_toIntS.l0 k l0 (List.replicate ((l0.length : Int) : Int).toNat 0) 0) else (none)) else (none)
theorem laws_toIntS.mono_l : ∀ k,(∀ y0 y1 y2,LeO (laws_toIntS.l0 k y0 y1 y2) (laws_toIntS.l0 (k + 1) y0 y1 y2))
 | 0 => fun _ _ _ r h => by simp [laws_toIntS.l0] at h
 | k + 1 => by
  have ih0:=laws_toIntS.mono_l k
  ·intro y0 y1 y2
   unfold laws_toIntS.l0
   repeat' first
   | (with_reducible exact ih0 _ _ _)
   | (with_reducible exact LeO.refl _)
   | (with_reducible exact LeO.none _)
   | (with_reducible refine LeO.ite ?_ ?_)
   | (with_reducible refine LeO.bind ?_ (fun _ => ?_))
   | exact ih0 _ _ _
   | exact LeO.none _
   | refine LeO.ite ?_ ?_
   | refine LeO.bind ?_ (fun _ => ?_)
theorem laws_toIntS.mono : ∀ a0 k,LeO (laws_toIntS.f k a0) (laws_toIntS.f (k + 1) a0):=by
 intro a0 k
 have ih0:=laws_toIntS.mono_l k
 unfold laws_toIntS.f
 repeat' first
   | (with_reducible exact ih0 _ _ _)
   | (with_reducible exact LeO.refl _)
   | (with_reducible exact LeO.none _)
   | (with_reducible refine LeO.ite ?_ ?_)
   | (with_reducible refine LeO.bind ?_ (fun _ => ?_))
   | exact ih0 _ _ _
   | exact LeO.none _
   | refine LeO.ite ?_ ?_
   | refine LeO.bind ?_ (fun _ => ?_)
set_option maxHeartbeats 8000000 in
set_option maxRecDepth 100000 in
theorem laws_toIntS.calls (k : Nat) (A0 : Option Addr) (c0 : Nat) (l0 : List Int) (r : List Int) (w : World) (hr0 : Kd.C (Kd.int .i64) w A0 l0.length l0) (hc0 : l0.length ≤ c0) (h : laws_toIntS.f k l0 = some r) :
  Calls Tryd.prog 14 #[.slice A0 l0.length c0] w fun e w' => ∃ v0_ : Value,e = .returned (v0_) ∧ Kd.R (Kd.int .i64) 3 w' w.heap.size (fun _ => True) v0_ r ∧ Below w.heap.size w w':=by
 have HR0:=mk_ hr0
 have HC0:=mk_ hc0
 clear hr0 hc0
 have HB:=mk_ (Below.refl w.heap.size w)
 have H : (if 0 ≤ (l0.length : Int) then (if ((l0.length : Int) : Int).toNat ≤ 35184372088832 then (laws_toIntS.l0 k l0 (List.replicate ((l0.length : Int) : Int).toNat 0) 0) else (none)) else (none)) = some r:=h
 clear h
 by_cases c2 : 0 ≤ (l0.length : Int)
 ·rw [if_pos c2] at H
  have c2b0:=eq_true c2
  have c2b1 : decide (0 ≤ (l0.length : Int)) = true:=decide_eq_true c2
  clear c2
  by_cases c3 : ((l0.length : Int) : Int).toNat ≤ 35184372088832
  ·rw [if_pos c3] at H
   have c3b0:=eq_true c3
   have c3b1 : decide (((l0.length : Int) : Int).toNat ≤ 35184372088832) = true:=decide_eq_true c3
   clear c3
   obtain ⟨y156,hy156⟩ : ∃ y_ : List Int,y_ = (List.replicate ((l0.length : Int) : Int).toNat 0):=⟨_,rfl⟩
   replace H : (laws_toIntS.l0 k l0 y156 0) = some r:=by first|(rw [hy156];with_reducible exact H)|(have H2_:=(Option.bind_some _ _).symm.trans H;rw [hy156];with_reducible exact H2_)|(have H2_:=(Option.bind_some _ _).symm.trans H;with_reducible exact H2_)|with_reducible exact H|(rw [hy156];exact H)|exact H
   have Ny156:=mk_ hy156
   clear hy156
   have H':=mk_ H
   clear H
   go_enter Tryd.func14,Tryd.ntmps14
   go_wp2_with (first|((with_reducible refine gate_dst (N:=7) rfl ?_);refine Kd.R_make (Kd.int .i64) _ 3 rfl (N:=7) rfl 23 _ _ rfl (l0.length : Int) rfl rfl Tryd.underlying23 (.int .i64 0) 8 info3 rfl (by decide) (by omega) 0 (ok:=fun _ => True) (okp:=fun _ => True) rfl (fun _ hk => hk) trivial (od_ qa_) (Nat.le_trans (Nat.mul_le_mul_right _ (od_ qa_ : (l0.length : Int).toNat ≤ 35184372088832)) (by omega)) (Below.refl _ _) (Nat.le_refl _) ?_;intro v157 w4 ho5 hb hg_ hnew_;clear hg_ hnew_;(first|rw [← Ny156.out] at ho5|(simp only [Int.reduceToNat] at ho5;rw [← Ny156.out] at ho5));have n0_:=mk_ (Kd.R_lower ho5 (bz_ (qb_ HB)));have n1_:=mk_ (st_ (qb_ HB) hb);clear HB;have HO158:=n0_;have HB:=n1_;clear n0_ n1_ hb ho5))
   go_loopg [4] k (fun kq v4 w' => ∃ (x3_1 : List Int) (x4_1 : Int),v4 = .int .i64 x4_1 ∧ Aside0 (laws_toIntS.l0 kq l0 x3_1 x4_1 = some r) ∧ Aside0 (kq ≤ k) ∧ Aside0 (Kd.R (Kd.int .i64) 3 w' w.heap.size (fun _ => True) v157 x3_1) ∧ Aside0 (Below w.heap.size w w'))
   case atStart => exact ⟨(y156),(0),qf_,H',⟨Nat.le_refl _⟩,⟨qr_ HO158⟩,⟨u1_ HB⟩⟩
   case round =>
    clear H'
    try clear c1
    try clear c2
    try clear c2b0
    try clear c2b1
    try clear p2
    try clear c3
    try clear c3b0
    try clear c3b1
    obtain ⟨x3_1,x4_1,rfl,HA,HK1,HO_3,HB⟩:=hrel
    cases gk with
    | zero => exact absurd HA.out (by simp [laws_toIntS.l0])
    | succ k1 =>
     have H:=HA.out
     clear HA
     simp only [laws_toIntS.l0] at H
     by_cases c6 : x4_1 < (l0.length : Int)
     ·rw [if_pos c6] at H
      have c6b0 : decide (x4_1 < (l0.length : Int)) = true:=decide_eq_true c6
      clear c6
      by_cases c7 : 0 ≤ x4_1
      ·rw [if_pos c7] at H
       have c7b0 : decide (0 ≤ x4_1) = true:=decide_eq_true c7
       clear c7
       by_cases c8 : x4_1 < (x3_1.length : Int)
       ·rw [if_pos c8] at H
        have c8b0 : decide (x4_1 < (x3_1.length : Int)) = true:=decide_eq_true c8
        clear c8
        obtain ⟨y160,hy160⟩ : ∃ y_ : List Int,y_ = (x3_1.set (x4_1 : Int).toNat (rd l0 x4_1)):=⟨_,rfl⟩
        replace H : (laws_toIntS.l0 k1 l0 y160 (wrap64 (x4_1 + 1))) = some r:=by first|(rw [hy160];with_reducible exact H)|(have H2_:=(Option.bind_some _ _).symm.trans H;rw [hy160];with_reducible exact H2_)|(have H2_:=(Option.bind_some _ _).symm.trans H;with_reducible exact H2_)|with_reducible exact H|(rw [hy160];exact H)|exact H
        have Ny160:=mk_ hy160
        clear hy160
        have H':=mk_ H
        clear H
        have p159 : 0 ≤ (x4_1 : Int):=od_ qa_
        have q159 : x4_1 < (l0.length : Int):=od_ qa_
        obtain ⟨ad159,e159,hx159_0⟩:=Kd.at_int HR0.out x4_1 p159 q159
        cases e159
        replace hx159_0:=(HB.out.cell (wl_ w _ hx159_0)).trans hx159_0
        replace p159:=eq_true p159
        replace q159:=eq_true q159
        have p9 : 0 ≤ (x4_1 : Int):=od_ qa_
        have q9 : (x4_1 : Int) < ((x3_1.length : Int) : Int):=od_ qa_
        obtain ⟨go9,co9,eo9,gb9,gl9,cl9,HG9⟩:=Kd.R_form HO_3.out (by omega)
        (first|cases eo9|(injection eo9 with ea_ en_ ec_;(first|subst ea_|(injection ea_ with ea_;subst ea_));subst ec_;clear en_))
        have GB9:=mk_ gb9
        have GG9:=mk_ HG9
        clear gb9 gl9 HG9
        obtain ⟨hx9_0,hf9_0⟩:=Kd.R_celln 0 HO_3.out (x4_1 : Int) p9 q9
        replace p9:=eq_true p9
        replace q9:=eq_true q9
        have HP10:=Kd.R_putg HO_3.out (x4_1 : Int) (rd l0 x4_1)
        go_wp2_with (first|((with_reducible refine gate_store (t:=3) (p:=20) rfl ?_);refine store_event (t:=3) (p:=20) (v:=?vo_w11) (w1:=(wr.setCell ⟨go9,(x4_1 : Int).toNat,none⟩ (.int .i64 (rd l0 x4_1)))) ?hg ?ho ?hn ?hr ?_;(case ho => rfl);(case hg => rfl);(case hn => rfl);(case hr => first|(go_simp;done)|(go_simp;rfl));intro w11 hw;have hg : wr.grownBy w11 (some go9):=(by rw [hw];exact HP10.2);have hp_ : Kd.R (Kd.int .i64) 3 w11 w.heap.size (fun _ => True) (.slice (some ⟨go9,0,none⟩) x3_1.length co9) y160:=(by rw [hw,Ny160.out];exact HP10.1);clear HP10;have n0_:=mk_ (hp_);have n1_:=mk_ ((by rw [hw];exact bs_ (HB.out) GB9.out : Below w.heap.size w w11));clear HO_3 HB;have HO_3:=n0_;have HB:=n1_;clear n0_ n1_ hg hw hp_))
        go_roundg k1
        case measure => have:=HK1.out;omega
        case rel => exact ⟨(y160),(wrap64 (x4_1 + 1)),qf_,H',⟨by have:=HK1.out;omega⟩,⟨qr_ HO_3⟩,⟨u1_ HB⟩⟩
       ·rw [if_neg c8] at H
        exact absurd H (by simp)
      ·rw [if_neg c7] at H
       exact absurd H (by simp)
     ·rw [if_neg c6] at H
      have c6b0 : decide (x4_1 < (l0.length : Int)) = false:=decide_eq_false c6
      clear c6
      obtain rfl:=Option.some.inj H
      go_wp2
      go_ret
      exact ⟨_,qe_,qr_ HO_3,u1_ HB⟩
  ·rw [if_neg c3] at H
   exact absurd H (by simp)
 ·rw [if_neg c2] at H
  exact absurd H (by simp)

/-! ### laws_toNet: function 6 -/
def laws_toNet.f (k : Nat) (a0_0 : Int) (l0_1 : List (S58)) (l0_2 : List Int) (l0_3 : List Int) : Option (Int × (List (S39)) × List Int × List Int):=(laws_toCableS.f k l0_1).bind fun t164 => ((laws_toIntS.f k l0_2).bind fun t167 => ((laws_toIntS.f k l0_3).bind fun t170 => (some (a0_0,t164,t167,t170))))
theorem laws_toNet.mono : ∀ a0 a1 a2 a3 k,LeO (laws_toNet.f k a0 a1 a2 a3) (laws_toNet.f (k + 1) a0 a1 a2 a3):=by
 intro a0 a1 a2 a3 k
 unfold laws_toNet.f
 repeat' first
   | (with_reducible exact laws_toCableS.mono _ _)
   | (with_reducible exact laws_toIntS.mono _ _)
   | (with_reducible exact LeO.refl _)
   | (with_reducible exact LeO.none _)
   | (with_reducible refine LeO.ite ?_ ?_)
   | (with_reducible refine LeO.bind ?_ (fun _ => ?_))
   | exact laws_toCableS.mono _ _
   | exact laws_toIntS.mono _ _
   | exact LeO.none _
   | refine LeO.ite ?_ ?_
   | refine LeO.bind ?_ (fun _ => ?_)
set_option maxHeartbeats 8000000 in
set_option maxRecDepth 100000 in
theorem laws_toNet.calls (k : Nat) (a0_0 : Int) (A0_1 : Option Addr) (c0_1 : Nat) (l0_1 : List (S58)) (A0_2 : Option Addr) (c0_2 : Nat) (l0_2 : List Int) (A0_3 : Option Addr) (c0_3 : Nat) (l0_3 : List Int) (r1 : Int) (r2 : List (S39)) (r3 : List Int) (r4 : List Int) (w : World) (hr0_1 : Kd.C k58 w A0_1 l0_1.length l0_1) (hc0_1 : l0_1.length ≤ c0_1) (hr0_2 : Kd.C (Kd.int .i64) w A0_2 l0_2.length l0_2) (hc0_2 : l0_2.length ≤ c0_2) (hr0_3 : Kd.C (Kd.int .i64) w A0_3 l0_3.length l0_3) (hc0_3 : l0_3.length ≤ c0_3) (h : laws_toNet.f k a0_0 l0_1 l0_2 l0_3 = some (r1,r2,r3,r4)) :
  Calls Tryd.prog 6 #[.agg #[.int .i64 a0_0,.slice A0_1 l0_1.length c0_1,.slice A0_2 l0_2.length c0_2,.slice A0_3 l0_3.length c0_3]] w fun e w' => ∃ v1_ v2_ v3_ : Value,e = .returned (.agg #[.int .i64 r1,v1_,v2_,v3_]) ∧ Kd.R k39 39 w' w.heap.size (fun _ => True) v1_ r2 ∧ Kd.R (Kd.int .i64) 3 w' w.heap.size (fun k_ => some k_ ≠ (v3_ : Value).ownBlock) v2_ r3 ∧ Kd.R (Kd.int .i64) 3 w' w.heap.size (fun k_ => some k_ ≠ (v2_ : Value).ownBlock) v3_ r4 ∧ Below w.heap.size w w':=by
 have hu25:=Tryd.underlying25
 have hu30:=Tryd.underlying30
 have HR0_1:=mk_ hr0_1
 have HC0_1:=mk_ hc0_1
 clear hr0_1 hc0_1
 have HR0_2:=mk_ hr0_2
 have HC0_2:=mk_ hc0_2
 clear hr0_2 hc0_2
 have HR0_3:=mk_ hr0_3
 have HC0_3:=mk_ hc0_3
 clear hr0_3 hc0_3
 have HB:=mk_ (Below.refl w.heap.size w)
 have H : ((laws_toCableS.f k l0_1).bind fun t164 => ((laws_toIntS.f k l0_2).bind fun t167 => ((laws_toIntS.f k l0_3).bind fun t170 => (some (a0_0,t164,t167,t170))))) = some (r1,r2,r3,r4):=h
 clear h
 replace H:=Option.bind_eq_some_iff.mp H
 obtain ⟨t164,A20,H⟩:=H
 replace H : ((laws_toIntS.f k l0_2).bind fun t167 => ((laws_toIntS.f k l0_3).bind fun t170 => (some (a0_0,t164,t167,t170)))) = some (r1,r2,r3,r4):=H
 have A2:=mk_ A20
 clear A20
 replace H:=Option.bind_eq_some_iff.mp H
 obtain ⟨t167,A30,H⟩:=H
 replace H : ((laws_toIntS.f k l0_3).bind fun t170 => (some (a0_0,t164,t167,t170))) = some (r1,r2,r3,r4):=H
 have A3:=mk_ A30
 clear A30
 replace H:=Option.bind_eq_some_iff.mp H
 obtain ⟨t170,A40,H⟩:=H
 replace H : (some (a0_0,t164,t167,t170)) = some (r1,r2,r3,r4):=H
 have A4:=mk_ A40
 clear A40
 simp only [Option.some.injEq,Prod.mk.injEq] at H
 obtain ⟨rfl,rfl,rfl,rfl⟩:=H
 go_enter Tryd.func6,Tryd.ntmps6
 go_wp2_with (first|((with_reducible refine gate_dst (N:=1) rfl ?_);refine box_event ?hg (N:=1) ?hd (cs:=#[.int .i64 a0_0,.slice A0_1 l0_1.length c0_1,.slice A0_2 l0_2.length c0_2,.slice A0_3 l0_3.length c0_3]) (t:=25) ?hr ?_;(case hd => rfl);(case hg => rfl);(case hr => first|(go_simp;done)|(go_simp;rfl));intro gb161 hg w5 hbox hb;have n0_:=mk_ (st_ (qb_ HB) hb);have n1_:=mk_ (hbox);have n2_:=mk_ ((by rw [hg];exact (bz_ (qb_ HB)) : w.heap.size ≤ gb161));have n3_:=mk_ ((by rw [hg];exact (bz_ (qb_ HB)) : w.heap.size ≤ gb161));clear HB;have HB:=n0_;have BK161:=n1_;have GW161:=n2_;have GE161:=n3_;clear n0_ n1_ n2_ n3_ hb hbox hg)|((with_reducible refine gate_dst (N:=2) rfl ?_);refine box_event ?hg (N:=2) ?hd (cs:=#[.int .i64 0,.slice none 0 0,.slice none 0 0,.slice none 0 0]) (t:=30) ?hr ?_;(case hd => rfl);(case hg => rfl);(case hr => first|(go_simp;done)|(go_simp;rfl));intro gb162 hg w6 hbox hb;have n0_:=mk_ (blk_below (g:=gb161) (o:=.cells #[.int .i64 a0_0,.slice A0_1 l0_1.length c0_1,.slice A0_2 l0_2.length c0_2,.slice A0_3 l0_3.length c0_3] 25 (0,0)) (qk_ BK161) hb);have n1_:=mk_ (st_ (qc_ HB GE161) hb);have n2_:=mk_ (hbox);have n3_:=mk_ ((by rw [hg];exact (bz_ (qc_ HB GE161)) : w.heap.size ≤ gb162));have n4_:=mk_ ((by rw [hg];exact (bz_ (qc_ HB GE161)) : w.heap.size ≤ gb162));have n5_:=mk_ ((by rw [hg];exact Nat.ne_of_lt (blk_lt (g:=gb161) (o:=.cells #[.int .i64 a0_0,.slice A0_1 l0_1.length c0_1,.slice A0_2 l0_2.length c0_2,.slice A0_3 l0_3.length c0_3] 25 (0,0)) (qk_ BK161)) : gb161 ≠ gb162));have n6_:=mk_ ((by rw [hg];exact Nat.ne_of_gt (blk_lt (g:=gb161) (o:=.cells #[.int .i64 a0_0,.slice A0_1 l0_1.length c0_1,.slice A0_2 l0_2.length c0_2,.slice A0_3 l0_3.length c0_3] 25 (0,0)) (qk_ BK161)) : gb162 ≠ gb161));clear BK161 HB;have BK161:=n0_;have HB:=n1_;have BK162:=n2_;have GW162:=n3_;have GE162:=n4_;have NB161_162:=n5_;have NB162_161:=n6_;clear n0_ n1_ n2_ n3_ n4_ n5_ n6_ hb hbox hg)|((with_reducible refine gate_dst (N:=3) rfl ?_);refine box_event ?hg (N:=3) ?hd (cs:=#[.int .i64 0,.slice none 0 0,.slice none 0 0,.slice none 0 0]) (t:=30) ?hr ?_;(case hd => rfl);(case hg => rfl);(case hr => first|(go_simp;done)|(go_simp;rfl));intro gb163 hg w7 hbox hb;have n0_:=mk_ (blk_below (g:=gb161) (o:=.cells #[.int .i64 a0_0,.slice A0_1 l0_1.length c0_1,.slice A0_2 l0_2.length c0_2,.slice A0_3 l0_3.length c0_3] 25 (0,0)) (qk_ BK161) hb);have n1_:=mk_ (blk_below (g:=gb162) (o:=.cells #[.int .i64 0,.slice none 0 0,.slice none 0 0,.slice none 0 0] 30 (0,0)) (qk_ BK162) hb);have n2_:=mk_ (st_ (qd_ HB GE161 GE162) hb);have n3_:=mk_ (hbox);have n4_:=mk_ ((by rw [hg];exact (bz_ (qd_ HB GE161 GE162)) : w.heap.size ≤ gb163));have n5_:=mk_ ((by rw [hg];exact (bz_ (qd_ HB GE161 GE162)) : w.heap.size ≤ gb163));have n6_:=mk_ ((by rw [hg];exact Nat.ne_of_lt (blk_lt (g:=gb161) (o:=.cells #[.int .i64 a0_0,.slice A0_1 l0_1.length c0_1,.slice A0_2 l0_2.length c0_2,.slice A0_3 l0_3.length c0_3] 25 (0,0)) (qk_ BK161)) : gb161 ≠ gb163));have n7_:=mk_ ((by rw [hg];exact Nat.ne_of_gt (blk_lt (g:=gb161) (o:=.cells #[.int .i64 a0_0,.slice A0_1 l0_1.length c0_1,.slice A0_2 l0_2.length c0_2,.slice A0_3 l0_3.length c0_3] 25 (0,0)) (qk_ BK161)) : gb163 ≠ gb161));have n8_:=mk_ ((by rw [hg];exact Nat.ne_of_lt (blk_lt (g:=gb162) (o:=.cells #[.int .i64 0,.slice none 0 0,.slice none 0 0,.slice none 0 0] 30 (0,0)) (qk_ BK162)) : gb162 ≠ gb163));have n9_:=mk_ ((by rw [hg];exact Nat.ne_of_gt (blk_lt (g:=gb162) (o:=.cells #[.int .i64 0,.slice none 0 0,.slice none 0 0,.slice none 0 0] 30 (0,0)) (qk_ BK162)) : gb163 ≠ gb162));clear BK161 BK162 HB;have BK161:=n0_;have BK162:=n1_;have HB:=n2_;have BK163:=n3_;have GW163:=n4_;have GE163:=n5_;have NB161_163:=n6_;have NB163_161:=n7_;have NB162_163:=n8_;have NB163_162:=n9_;clear n0_ n1_ n2_ n3_ n4_ n5_ n6_ n7_ n8_ n9_ hb hbox hg;have hnb8:=NB161_162.out;have hnc8:=NB162_161.out;have hnb9:=NB161_163.out;have hnc9:=NB163_161.out;have hcz10_0 : w7.cell? ⟨gb161,0,none⟩ = some (.int .i64 a0_0):=(bc_ BK161.out 0).trans rfl;have hcz10_1 : w7.cell? ⟨gb161,1,none⟩ = some (.slice A0_1 l0_1.length c0_1):=(bc_ BK161.out 1).trans rfl;have hcz10_2 : w7.cell? ⟨gb161,2,none⟩ = some (.slice A0_2 l0_2.length c0_2):=(bc_ BK161.out 2).trans rfl;have hcz10_3 : w7.cell? ⟨gb161,3,none⟩ = some (.slice A0_3 l0_3.length c0_3):=(bc_ BK161.out 3).trans rfl;have hfz10_0:=bf_ BK161.out 0;have hfz10_1:=bf_ BK161.out 1;have hfz10_2:=bf_ BK161.out 2;have hfz10_3:=bf_ BK161.out 3;have hnb11:=NB163_162.out;have hnc11:=NB162_163.out;have hcz12_0 : w7.cell? ⟨gb163,0,none⟩ = some (.int .i64 0):=(bc_ BK163.out 0).trans rfl;have hcz12_1 : w7.cell? ⟨gb163,1,none⟩ = some (.slice none 0 0):=(bc_ BK163.out 1).trans rfl;have hcz12_2 : w7.cell? ⟨gb163,2,none⟩ = some (.slice none 0 0):=(bc_ BK163.out 2).trans rfl;have hcz12_3 : w7.cell? ⟨gb163,3,none⟩ = some (.slice none 0 0):=(bc_ BK163.out 3).trans rfl;have hfz12_0:=bf_ BK163.out 0;have hfz12_1:=bf_ BK163.out 1;have hfz12_2:=bf_ BK163.out 2;have hfz12_3:=bf_ BK163.out 3)|((with_reducible refine gate_callee (f:=13) rfl ?_);refine goesL_ (some 9) rfl rfl Tryd.func13 (by kernel_rfl) rfl #[.slice A0_1 l0_1.length c0_1] rfl qm_ ?_;(with_reducible refine (laws_toCableS.calls k _ _ l0_1 t164 _ ?side1 ?side2 A2.out).mono ?_);(case side1 => exact cb_ HR0_1.out (u3_ HB GE161 GE162 GE163));(case side2 => exact HC0_1.out);rintro e w13 ⟨v165,rfl,ho0,hb⟩;refine ⟨_,rfl,?_⟩;have n0_:=mk_ (Kd.R_lower ho0 (bz_ (u3_ HB GE161 GE162 GE163)));have n1_:=mk_ (blk_below (g:=gb161) (o:=.cells #[.int .i64 a0_0,.slice A0_1 l0_1.length c0_1,.slice A0_2 l0_2.length c0_2,.slice A0_3 l0_3.length c0_3] 25 (0,0)) (by (with_reducible repeat (first|apply kn_|apply kd_|apply ka_));refine blk_far ?_ NB161_163.out _;(with_reducible repeat (first|apply kn_|apply kd_|apply ka_));exact BK161.out) hb);have n2_:=mk_ (blk_below (g:=gb162) (o:=.cells #[.int .i64 0,.slice none 0 0,.slice none 0 0,.slice none 0 0] 30 (0,0)) (by (with_reducible repeat (first|apply kn_|apply kd_|apply ka_));refine blk_far ?_ NB162_163.out _;(with_reducible repeat (first|apply kn_|apply kd_|apply ka_));exact BK162.out) hb);have n3_:=mk_ (blk_below (g:=gb163) (o:=.cells #[.int .i64 a0_0,.slice none 0 0,.slice none 0 0,.slice none 0 0] 30 (0,0)) (by (with_reducible repeat (first|apply kn_|apply kd_|apply ka_));refine blk_put (cs:=#[.int .i64 0,.slice none 0 0,.slice none 0 0,.slice none 0 0]) ?_ 0 _ rfl;(with_reducible repeat (first|apply kn_|apply kd_|apply ka_));exact BK163.out) hb);have n4_:=mk_ (st_ (u3_ HB GE161 GE162 GE163) hb);clear BK161 BK162 BK163 HB;have HO166:=n0_;have BK161:=n1_;have BK162:=n2_;have BK163:=n3_;have HB:=n4_;clear n0_ n1_ n2_ n3_ n4_;(try clear hb);(try clear hb2);(try clear hk);(try clear hi);(try clear ho0);obtain ⟨Ao14,co14,eo14⟩:=Kd.R_slice HO166.out;subst eo14;have hcz15_0 : w13.cell? ⟨gb163,0,none⟩ = some (.int .i64 a0_0):=(bc_ BK163.out 0).trans rfl;have hcz15_1 : w13.cell? ⟨gb163,1,none⟩ = some (.slice none 0 0):=(bc_ BK163.out 1).trans rfl;have hcz15_2 : w13.cell? ⟨gb163,2,none⟩ = some (.slice none 0 0):=(bc_ BK163.out 2).trans rfl;have hcz15_3 : w13.cell? ⟨gb163,3,none⟩ = some (.slice none 0 0):=(bc_ BK163.out 3).trans rfl;have hfz15_0:=bf_ BK163.out 0;have hfz15_1:=bf_ BK163.out 1;have hfz15_2:=bf_ BK163.out 2;have hfz15_3:=bf_ BK163.out 3;have hcz16_0 : w13.cell? ⟨gb161,0,none⟩ = some (.int .i64 a0_0):=(bc_ BK161.out 0).trans rfl;have hcz16_1 : w13.cell? ⟨gb161,1,none⟩ = some (.slice A0_1 l0_1.length c0_1):=(bc_ BK161.out 1).trans rfl;have hcz16_2 : w13.cell? ⟨gb161,2,none⟩ = some (.slice A0_2 l0_2.length c0_2):=(bc_ BK161.out 2).trans rfl;have hcz16_3 : w13.cell? ⟨gb161,3,none⟩ = some (.slice A0_3 l0_3.length c0_3):=(bc_ BK161.out 3).trans rfl;have hfz16_0:=bf_ BK161.out 0;have hfz16_1:=bf_ BK161.out 1;have hfz16_2:=bf_ BK161.out 2;have hfz16_3:=bf_ BK161.out 3)|((with_reducible refine gate_callee (f:=14) rfl ?_);refine goesL_ (some 13) rfl rfl Tryd.func14 (by kernel_rfl) rfl #[.slice A0_2 l0_2.length c0_2] rfl qm_ ?_;(with_reducible refine (laws_toIntS.calls k _ _ l0_2 t167 _ ?side1 ?side2 A3.out).mono ?_);(case side1 => exact cb_ HR0_2.out (u3_ HB GE161 GE162 GE163));(case side2 => exact HC0_2.out);rintro e w17 ⟨v168,rfl,ho0,hb⟩;refine ⟨_,rfl,?_⟩;have n0_:=mk_ (rb_ (by (with_reducible repeat (first|apply ra_|apply rn_|apply rd_));exact (rm_ (rf_ (p:=⟨gb163,1,none⟩) (rt_ HO166.out BK163.out (by decide)) (λ_ h=>h.2) (.slice Ao14 t164.length co14)) (λ_ h=>h.1))) hb);have n1_:=mk_ (Kd.R_lower ho0 (bz_ (u3_ HB GE161 GE162 GE163)));have n2_:=mk_ (blk_below (g:=gb161) (o:=.cells #[.int .i64 a0_0,.slice A0_1 l0_1.length c0_1,.slice A0_2 l0_2.length c0_2,.slice A0_3 l0_3.length c0_3] 25 (0,0)) (by (with_reducible repeat (first|apply kn_|apply kd_|apply ka_));refine blk_far ?_ NB161_163.out _;(with_reducible repeat (first|apply kn_|apply kd_|apply ka_));exact BK161.out) hb);have n3_:=mk_ (blk_below (g:=gb162) (o:=.cells #[.int .i64 0,.slice none 0 0,.slice none 0 0,.slice none 0 0] 30 (0,0)) (by (with_reducible repeat (first|apply kn_|apply kd_|apply ka_));refine blk_far ?_ NB162_163.out _;(with_reducible repeat (first|apply kn_|apply kd_|apply ka_));exact BK162.out) hb);have n4_:=mk_ (blk_below (g:=gb163) (o:=.cells #[.int .i64 a0_0,.slice Ao14 t164.length co14,.slice none 0 0,.slice none 0 0] 30 (0,0)) (by (with_reducible repeat (first|apply kn_|apply kd_|apply ka_));refine blk_put (cs:=#[.int .i64 a0_0,.slice none 0 0,.slice none 0 0,.slice none 0 0]) ?_ 1 _ rfl;(with_reducible repeat (first|apply kn_|apply kd_|apply ka_));exact BK163.out) hb);have n5_:=mk_ (st_ (u3_ HB GE161 GE162 GE163) hb);clear HO166 BK161 BK162 BK163 HB;have HO166:=n0_;have HO169:=n1_;have BK161:=n2_;have BK162:=n3_;have BK163:=n4_;have HB:=n5_;clear n0_ n1_ n2_ n3_ n4_ n5_;(try clear hb);(try clear hb2);(try clear hk);(try clear hi);(try clear ho0);obtain ⟨Ao18,co18,eo18⟩:=Kd.R_slice HO169.out;subst eo18;have hcz19_0 : w17.cell? ⟨gb163,0,none⟩ = some (.int .i64 a0_0):=(bc_ BK163.out 0).trans rfl;have hcz19_1 : w17.cell? ⟨gb163,1,none⟩ = some (.slice Ao14 t164.length co14):=(bc_ BK163.out 1).trans rfl;have hcz19_2 : w17.cell? ⟨gb163,2,none⟩ = some (.slice none 0 0):=(bc_ BK163.out 2).trans rfl;have hcz19_3 : w17.cell? ⟨gb163,3,none⟩ = some (.slice none 0 0):=(bc_ BK163.out 3).trans rfl;have hfz19_0:=bf_ BK163.out 0;have hfz19_1:=bf_ BK163.out 1;have hfz19_2:=bf_ BK163.out 2;have hfz19_3:=bf_ BK163.out 3;have hcz20_0 : w17.cell? ⟨gb161,0,none⟩ = some (.int .i64 a0_0):=(bc_ BK161.out 0).trans rfl;have hcz20_1 : w17.cell? ⟨gb161,1,none⟩ = some (.slice A0_1 l0_1.length c0_1):=(bc_ BK161.out 1).trans rfl;have hcz20_2 : w17.cell? ⟨gb161,2,none⟩ = some (.slice A0_2 l0_2.length c0_2):=(bc_ BK161.out 2).trans rfl;have hcz20_3 : w17.cell? ⟨gb161,3,none⟩ = some (.slice A0_3 l0_3.length c0_3):=(bc_ BK161.out 3).trans rfl;have hfz20_0:=bf_ BK161.out 0;have hfz20_1:=bf_ BK161.out 1;have hfz20_2:=bf_ BK161.out 2;have hfz20_3:=bf_ BK161.out 3)|((with_reducible refine gate_callee (f:=14) rfl ?_);refine goesL_ (some 17) rfl rfl Tryd.func14 (by kernel_rfl) rfl #[.slice A0_3 l0_3.length c0_3] rfl qm_ ?_;(with_reducible refine (laws_toIntS.calls k _ _ l0_3 t170 _ ?side1 ?side2 A4.out).mono ?_);(case side1 => exact cb_ HR0_3.out (u3_ HB GE161 GE162 GE163));(case side2 => exact HC0_3.out);rintro e w21 ⟨v171,rfl,ho0,hb⟩;refine ⟨_,rfl,?_⟩;have n0_:=mk_ (rb_ (by (with_reducible repeat (first|apply ra_|apply rn_|apply rd_));exact (rm_ (rf_ (p:=⟨gb163,2,none⟩) (rt_ HO166.out BK163.out (by decide)) (λ_ h=>h.2) (.slice Ao18 t167.length co18)) (λ_ h=>h.1))) hb);have n1_:=mk_ (re_ (by (with_reducible repeat (first|apply ra_|apply rn_|apply rd_));exact (rm_ (rf_ (p:=⟨gb163,2,none⟩) (rt_ HO169.out BK163.out (by decide)) (λ_ h=>h.2) (.slice Ao18 t167.length co18)) (λ_ h=>h.1))) (Kd.R_base ho0) hb);have n2_:=mk_ (Kd.R_lower (Kd.R_new' ho0 (Kd.R_lt (by (with_reducible repeat (first|apply ra_|apply rn_|apply rd_));exact (rm_ (rf_ (p:=⟨gb163,2,none⟩) (rt_ HO169.out BK163.out (by decide)) (λ_ h=>h.2) (.slice Ao18 t167.length co18)) (λ_ h=>h.1))))) (bz_ (u3_ HB GE161 GE162 GE163)));have n3_:=mk_ (blk_below (g:=gb161) (o:=.cells #[.int .i64 a0_0,.slice A0_1 l0_1.length c0_1,.slice A0_2 l0_2.length c0_2,.slice A0_3 l0_3.length c0_3] 25 (0,0)) (by (with_reducible repeat (first|apply kn_|apply kd_|apply ka_));refine blk_far ?_ NB161_163.out _;(with_reducible repeat (first|apply kn_|apply kd_|apply ka_));exact BK161.out) hb);have n4_:=mk_ (blk_below (g:=gb162) (o:=.cells #[.int .i64 0,.slice none 0 0,.slice none 0 0,.slice none 0 0] 30 (0,0)) (by (with_reducible repeat (first|apply kn_|apply kd_|apply ka_));refine blk_far ?_ NB162_163.out _;(with_reducible repeat (first|apply kn_|apply kd_|apply ka_));exact BK162.out) hb);have n5_:=mk_ (blk_below (g:=gb163) (o:=.cells #[.int .i64 a0_0,.slice Ao14 t164.length co14,.slice Ao18 t167.length co18,.slice none 0 0] 30 (0,0)) (by (with_reducible repeat (first|apply kn_|apply kd_|apply ka_));refine blk_put (cs:=#[.int .i64 a0_0,.slice Ao14 t164.length co14,.slice none 0 0,.slice none 0 0]) ?_ 2 _ rfl;(with_reducible repeat (first|apply kn_|apply kd_|apply ka_));exact BK163.out) hb);have n6_:=mk_ (st_ (u3_ HB GE161 GE162 GE163) hb);clear HO166 HO169 BK161 BK162 BK163 HB;have HO166:=n0_;have HO169:=n1_;have HO172:=n2_;have BK161:=n3_;have BK162:=n4_;have BK163:=n5_;have HB:=n6_;clear n0_ n1_ n2_ n3_ n4_ n5_ n6_;(try clear hb);(try clear hb2);(try clear hk);(try clear hi);(try clear ho0);obtain ⟨Ao22,co22,eo22⟩:=Kd.R_slice HO172.out;subst eo22;have hcz23_0 : w21.cell? ⟨gb163,0,none⟩ = some (.int .i64 a0_0):=(bc_ BK163.out 0).trans rfl;have hcz23_1 : w21.cell? ⟨gb163,1,none⟩ = some (.slice Ao14 t164.length co14):=(bc_ BK163.out 1).trans rfl;have hcz23_2 : w21.cell? ⟨gb163,2,none⟩ = some (.slice Ao18 t167.length co18):=(bc_ BK163.out 2).trans rfl;have hcz23_3 : w21.cell? ⟨gb163,3,none⟩ = some (.slice none 0 0):=(bc_ BK163.out 3).trans rfl;have hfz23_0:=bf_ BK163.out 0;have hfz23_1:=bf_ BK163.out 1;have hfz23_2:=bf_ BK163.out 2;have hfz23_3:=bf_ BK163.out 3;have hcz24_0 : w21.cell? ⟨gb162,0,none⟩ = some (.int .i64 0):=(bc_ BK162.out 0).trans rfl;have hcz24_1 : w21.cell? ⟨gb162,1,none⟩ = some (.slice none 0 0):=(bc_ BK162.out 1).trans rfl;have hcz24_2 : w21.cell? ⟨gb162,2,none⟩ = some (.slice none 0 0):=(bc_ BK162.out 2).trans rfl;have hcz24_3 : w21.cell? ⟨gb162,3,none⟩ = some (.slice none 0 0):=(bc_ BK162.out 3).trans rfl;have hfz24_0:=bf_ BK162.out 0;have hfz24_1:=bf_ BK162.out 1;have hfz24_2:=bf_ BK162.out 2;have hfz24_3:=bf_ BK162.out 3))
 refine bodyPost_ret (results_cell_row rfl _ _ gb162 30 #[.int .i64 a0_0,.slice Ao14 t164.length co14,.slice Ao18 t167.length co18,.slice Ao22 t170.length co22] (0,0) _ rfl (by (with_reducible repeat (first|apply kn_|apply kd_|apply ka_));refine blk_put (cs:=#[.int .i64 a0_0,.slice Ao14 t164.length co14,.slice Ao18 t167.length co18,.slice none 0 0]) ?_ 3 _ rfl;(with_reducible repeat (first|apply kn_|apply kd_|apply ka_));refine blk_put (cs:=#[.int .i64 a0_0,.slice Ao14 t164.length co14,.slice none 0 0,.slice none 0 0]) ?_ 2 _ rfl;(with_reducible repeat (first|apply kn_|apply kd_|apply ka_));refine blk_put (cs:=#[.int .i64 a0_0,.slice none 0 0,.slice none 0 0,.slice none 0 0]) ?_ 1 _ rfl;(with_reducible repeat (first|apply kn_|apply kd_|apply ka_));refine blk_put (cs:=#[.int .i64 0,.slice none 0 0,.slice none 0 0,.slice none 0 0]) ?_ 0 _ rfl;(with_reducible repeat (first|apply kn_|apply kd_|apply ka_));refine blk_far ?_ NB162_163.out _;(with_reducible repeat (first|apply kn_|apply kd_|apply ka_));exact BK162.out) Tryd.underlying30 rfl (by kernel_rfl)) rfl ?_
 exact ⟨_,_,_,qe_,by (with_reducible repeat (first|apply ra_|apply rn_|apply rd_));exact rm_ (rf_ (p:=⟨gb162,3,none⟩) (rf_ (p:=⟨gb162,2,none⟩) (rf_ (p:=⟨gb162,1,none⟩) (rf_ (p:=⟨gb162,0,none⟩) (rf_ (p:=⟨gb163,3,none⟩) (rt_ (rt_ HO166.out BK163.out (by decide)) BK162.out (by decide)) (fun _ hk => hk.1.2) (.slice Ao22 t170.length co22)) (λ_ h=>h.2) (.int .i64 a0_0)) (λ_ h=>h.2) (.slice Ao14 t164.length co14)) (λ_ h=>h.2) (.slice Ao18 t167.length co18)) (λ_ h=>h.2) (.slice Ao22 t170.length co22)) (λ_ _=>trivial),by (with_reducible repeat (first|apply ra_|apply rn_|apply rd_));exact rm_ (rf_ (p:=⟨gb162,3,none⟩) (rf_ (p:=⟨gb162,2,none⟩) (rf_ (p:=⟨gb162,1,none⟩) (rf_ (p:=⟨gb162,0,none⟩) (rf_ (p:=⟨gb163,3,none⟩) (rt_ (rt_ HO169.out BK163.out (by decide)) BK162.out (by decide)) (fun _ hk => hk.1.2) (.slice Ao22 t170.length co22)) (λ_ h=>h.2) (.int .i64 a0_0)) (λ_ h=>h.2) (.slice Ao14 t164.length co14)) (λ_ h=>h.2) (.slice Ao18 t167.length co18)) (λ_ h=>h.2) (.slice Ao22 t170.length co22)) (fun _ hk => hk.1.1.2),by (with_reducible repeat (first|apply ra_|apply rn_|apply rd_));exact rm_ (rf_ (p:=⟨gb162,3,none⟩) (rf_ (p:=⟨gb162,2,none⟩) (rf_ (p:=⟨gb162,1,none⟩) (rf_ (p:=⟨gb162,0,none⟩) (rf_ (p:=⟨gb163,3,none⟩) (rt_ (rt_ HO172.out BK163.out (by decide)) BK162.out (by decide)) (fun _ hk => hk.1.2) (.slice Ao22 t170.length co22)) (λ_ h=>h.2) (.int .i64 a0_0)) (λ_ h=>h.2) (.slice Ao14 t164.length co14)) (λ_ h=>h.2) (.slice Ao18 t167.length co18)) (λ_ h=>h.2) (.slice Ao22 t170.length co22)) (fun _ hk => hk.1.1.2),u3_ HB GE161 GE162 GE163⟩

/-! ### impl_within: function 29 -/
def impl_within.f (a0 : Int) (a1 : Int) (a2 : Int) : Option (Bool):=if a1 ≤ a0 then (some (decide (a0 ≤ a2))) else (some false)
set_option maxHeartbeats 8000000 in
set_option maxRecDepth 100000 in
theorem impl_within.calls (a0 : Int) (a1 : Int) (a2 : Int) (r : Bool) (w : World) (h : impl_within.f a0 a1 a2 = some r) :
  Calls Tryd.prog 29 #[.int .i64 a0,.int .i64 a1,.int .i64 a2] w fun e w' => e = .returned (.bool r) ∧ Drawn0 w w':=by
 have H : (if a1 ≤ a0 then (some (decide (a0 ≤ a2))) else (some false)) = some r:=h
 clear h
 by_cases c4 : a1 ≤ a0
 ·rw [if_pos c4] at H
  have c4b0 : decide (a1 ≤ a0) = true:=decide_eq_true c4
  clear c4
  obtain rfl:=Option.some.inj H
  go_enter Tryd.func29,Tryd.ntmps29
  go_wp2
  go_ret
  exact ⟨by first|rfl|(simp;done)|(simp [*];done),by repeat (first|exact Drawn0.refl _|apply Drawn0.step)⟩
 ·rw [if_neg c4] at H
  have c4b0 : decide (a1 ≤ a0) = false:=decide_eq_false c4
  clear c4
  obtain rfl:=Option.some.inj H
  go_enter Tryd.func29,Tryd.ntmps29
  go_wp2
  go_ret
  exact ⟨by first|rfl|(simp;done)|(simp [*];done),by repeat (first|exact Drawn0.refl _|apply Drawn0.step)⟩

-- LIB preds
/-- What is asked of a function value that answers a bool: at every x, in every world in which all that lay in w lies as it lay, it answers p x and turns nothing that lies there. -/
def PredB {α : Type} (P : Program) (g : Nat) (lb : Array Value) (enc : α → Value) (p : α → Bool) (w : World) : Prop :=
  ∀ (W : World) (x : α),Below w.heap.size w W → Calls P g (#[enc x] ++ lb) W fun e w' => e = .returned (.bool (p x)) ∧ Below W.heap.size W w'
theorem PredB.later {α : Type} {P : Program} {g : Nat} {lb : Array Value} {enc : α → Value} {p : α → Bool} {w W : World} (h : PredB P g lb enc p w) (hb : Below w.heap.size w W) : PredB P g lb enc p W :=
  fun W' x hb' => h W' x (hb.trans (hb'.mono hb.size))
/-- The place of the first x of which p holds, from k on; -1. -/
def idxL {α : Type} (p : α → Bool) : List α → Nat → Int
  | [],_ => -1
  | x :: xs,k => if p x then (k : Int) else idxL p xs (k + 1)
theorem idxL_iff {α : Type} (p : α → Bool) (l : List α) (k : Nat) : 0 ≤ idxL p l k ↔ l.any p = true:=by
  induction l generalizing k with
  | nil => exact ⟨fun h => absurd h (by simp [idxL]),fun h => absurd h (by simp)⟩
  | cons x xs ih =>
    by_cases hp : p x = true
    · have e : idxL p (x :: xs) k = (k : Int):=if_pos hp
      rw [e]
      exact ⟨fun _ => by simp [hp],fun _ => by omega⟩
    · have e : idxL p (x :: xs) k = idxL p xs (k + 1):=if_neg hp
      rw [e,ih]
      simp [Bool.eq_false_iff.mpr hp]
theorem idxL_any {α : Type} (p : α → Bool) (l : List α) (k : Nat) : decide (0 ≤ idxL p l k) = l.any p:=by
  have h:=idxL_iff p l k
  cases ha : l.any p with
  | true => exact decide_eq_true (h.2 ha)
  | false => exact decide_eq_false (fun h0 => by rw [h.1 h0] at ha;cases ha)
theorem idxL_drop {α : Type} [Inhabited α] (p : α → Bool) (l : List α) (k : Nat) (h : k < l.length) : idxL p (l.drop k) k = if p (l.getD k default) then (k : Int) else idxL p (l.drop (k + 1)) (k + 1):=by
  rw [List.drop_eq_getElem_cons h,idxL]
  simp [List.getD_eq_getElem?_getD,h]
theorem below_step {w W W' : World} (h : Below w.heap.size w W) (h' : Below W.heap.size W W') : Below w.heap.size w W':=h.trans (h'.mono h.size)
theorem rd_getD (l : List Int) (k : Nat) : rd l (k : Int) = l.getD k default:=by simp [rd]

-- LIB allcab
theorem rdCab_get (l : List S39) (i : Nat) (h : i < l.length) : rd_T39 l (i : Int) = l[i]:=by simp [rd_T39,List.getD_eq_getElem?_getD,h]
theorem any_not_allc {α : Type} (p : α → Bool) (l : List α) : (!l.any fun x => !p x) = l.all p:=by
  induction l with
  | nil => rfl
  | cons x xs ih => simp only [List.any_cons,List.all_cons,Bool.not_or,Bool.not_not,ih]
def encCab (x : S39) : Value:=.agg #[.int .i64 x.f0,.int .i64 x.f1,.int .i64 x.f2]
set_option maxHeartbeats 4000000 in
set_option maxRecDepth 100000 in
theorem x_IndexFunc_cab (p : S39 → Bool) (g : Nat) (lb : Array Value) (eg : ∀ args w, (callFunc g args).run Tryd.prog w = .ok (.enter g args) w) (A0 : Option Addr) (c0 : Nat) (l0 : List S39) (w : World)
    (hp : PredB Tryd.prog g lb encCab p w) (hr0 : Kd.C k39 w A0 l0.length l0) :
    Calls Tryd.prog 47 #[.slice A0 l0.length c0,.func (.func g) #[] lb] w fun e w' => e = .returned (.int .i64 (idxL p l0 0)) ∧ Below w.heap.size w w':=by
  have hlen:=Kd.C_max hr0
  have HR:=Aside0.mk hr0
  have HP:=Aside0.mk hp
  clear hr0 hp
  have hu:=Tryd.underlying39
  go_enter Tryd.func47,Tryd.ntmps47
  go_wp2
  go_loopg [5,8] l0.length (fun gg _ s8 wr => ∃ kk : Nat,kk ≤ l0.length ∧ l0.length - kk ≤ gg ∧ s8 = .int .i64 kk ∧ Aside0 (Below w.heap.size w wr) ∧ Aside0 (idxL p (l0.drop kk) kk = idxL p l0 0))
  case atStart => exact ⟨0,Nat.zero_le _,by omega,rfl,⟨Below.refl _ w⟩,⟨rfl⟩⟩
  case round =>
    obtain ⟨kk,hkk,hg,rfl,BW,HI⟩:=hrel
    by_cases hlt : kk < l0.length
    · obtain ⟨ad,e,hx0,hx1,hx2⟩:=at_T39 (Kd.C_below HR.out BW.out) (kk : Int) (by omega) (by omega)
      cases e
      rw [Int.toNat_natCast] at hx0 hx1 hx2
      obtain ⟨y,hy⟩ : ∃ y,y = rd_T39 l0 (kk : Int):=⟨_,rfl⟩
      rw [← hy] at hx0 hx1 hx2
      have hcall:=HP.out wr y BW.out
      unfold encCab at hcall
      have HD : Aside0 (idxL p l0 0 = if p y then (kk : Int) else idxL p (l0.drop (kk + 1)) (kk + 1)):=⟨by rw [← HI.out,List.drop_eq_getElem_cons hlt,idxL,hy,rdCab_get l0 kk hlt]⟩
      clear hy
      cases hq : p y with
      | true =>
        rw [hq] at hcall
        have HQ:=Aside0.mk hq
        clear hq
        go_wp2_with (go_at_fn g;refine hcall.mono ?_;rintro e w' ⟨rfl,hb'⟩)
        go_ret
        exact ⟨by rw [HD.out,HQ.out];rfl,below_step BW.out hb'⟩
      | false =>
        rw [hq] at hcall
        have HQ:=Aside0.mk hq
        clear hq
        go_wp2_with (go_at_fn g;refine hcall.mono ?_;rintro e w' ⟨rfl,hb'⟩)
        go_roundg (l0.length - (kk + 1))
        case measure => omega
        case rel => exact ⟨kk + 1,by omega,by omega,by go_num,⟨below_step BW.out hb'⟩,⟨by rw [HD.out,HQ.out];rfl⟩⟩
    · have e : kk = l0.length:=by omega
      subst e
      go_wp2
      go_ret
      exact ⟨by rw [← HI.out,List.drop_length];rfl,BW.out⟩
set_option maxHeartbeats 4000000 in
set_option maxRecDepth 100000 in
theorem x_ContainsFunc_cab (p : S39 → Bool) (g : Nat) (lb : Array Value) (eg : ∀ args w, (callFunc g args).run Tryd.prog w = .ok (.enter g args) w) (A0 : Option Addr) (c0 : Nat) (l0 : List S39) (w : World)
    (hp : PredB Tryd.prog g lb encCab p w) (hr0 : Kd.C k39 w A0 l0.length l0) :
    Calls Tryd.prog 40 #[.slice A0 l0.length c0,.func (.func g) #[] lb] w fun e w' => e = .returned (.bool (l0.any p)) ∧ Below w.heap.size w w':=by
  have hcall:=x_IndexFunc_cab p g lb eg A0 c0 l0 w hp hr0
  have HA:=Aside0.mk (idxL_any p l0 0)
  obtain ⟨z,hz⟩ : ∃ z,z = idxL p l0 0:=⟨_,rfl⟩
  rw [← hz] at hcall HA
  clear hp hr0 hz
  go_enter Tryd.func40,Tryd.ntmps40
  go_wp2_with (go_at_call 47;refine hcall.mono ?_;rintro e w' ⟨rfl,hb'⟩)
  go_ret
  exact ⟨by rw [← HA.out];rfl,hb'⟩

set_option maxHeartbeats 4000000 in
set_option maxRecDepth 100000 in
theorem x_all_cab_1 {p : S39 → Bool} {g : Nat} {lb : Array Value} (eg : ∀ args w, (callFunc g args).run Tryd.prog w = .ok (.enter g args) w) {b : Nat} {w : World}
    (hp : PredB Tryd.prog g lb encCab p w) (hb : b < w.heap.size) (hc : w.cell? ⟨b,0,none⟩ = some (.func (.func g) #[] lb)) :
    PredB Tryd.prog 41 #[.pointer (some ⟨b,0,none⟩)] encCab (fun x => !p x) w:=by
  intro W x hB
  have hu:=Tryd.underlying39
  have hB2 : Below W.heap.size W (W.alloc (.cells #[.int .i64 x.f0,.int .i64 x.f1,.int .i64 x.f2] 39)):=(Below.refl _ W).alloc (Nat.le_refl _) _
  have hc':=(hB.cell (p:=⟨b,0,none⟩) hb).trans hc
  have hbW : b < W.heap.size:=Nat.lt_of_lt_of_le hb hB.size
  have hcall:=hp _ x (below_step hB hB2)
  have HB2:=Aside0.mk hB2
  clear hp hc hB hb hB2
  unfold encCab at hcall ⊢
  go_enter Tryd.func41,Tryd.ntmps41
  go_wp2_with (go_at_fn g;refine hcall.mono ?_;rintro e w' ⟨rfl,hb'⟩)
  go_ret
  exact ⟨rfl,below_step HB2.out hb'⟩
set_option maxHeartbeats 4000000 in
set_option maxRecDepth 100000 in
theorem x_all_cab (p : S39 → Bool) (g : Nat) (lb : Array Value) (eg : ∀ args w, (callFunc g args).run Tryd.prog w = .ok (.enter g args) w) (A0 : Option Addr) (c0 : Nat) (l0 : List S39) (w : World)
    (hp : PredB Tryd.prog g lb encCab p w) (hr0 : Kd.C k39 w A0 l0.length l0) :
    Calls Tryd.prog 34 #[.slice A0 l0.length c0,.func (.func g) #[] lb] w fun e w' => e = .returned (.bool (l0.all p)) ∧ Below w.heap.size w w':=by
  have hmf : ∀ (fn : Fn) (first cap : Array Value) (w : World),(Instr.makeFunc fn first cap).run Tryd.prog w = .ok (.func fn first cap) w:=fun _ _ _ _ => rfl
  have hb0 : Below w.heap.size w (w.alloc (.cells #[.func (.func g) #[] lb] 63)):=(Below.refl _ w).alloc (Nat.le_refl _) _
  have hcall:=x_ContainsFunc_cab (fun x => !p x) 41 #[.pointer (some ⟨w.heap.size,0,none⟩)] (enters_of Tryd.func41 (by kernel_rfl) rfl) A0 c0 l0 _ (x_all_cab_1 eg (hp.later hb0) (by simp) (by simp)) (Kd.C_below hr0 hb0)
  have HB0:=Aside0.mk hb0
  clear hp hr0 hb0
  go_enter Tryd.func34,Tryd.ntmps34
  go_wp2_with (go_at_call 40;refine hcall.mono ?_;rintro e w' ⟨rfl,hb'⟩)
  go_ret
  exact ⟨by rw [any_not_allc];rfl,below_step HB0.out hb'⟩

-- LIB cabs
/-- A cable between two of so many bridges. -/
def cabB (n : Int) (x : S39) : Bool:=(decide (0 ≤ x.f0) && decide (x.f0 ≤ wrap64 (n - 1))) && ((decide (0 ≤ x.f1) && decide (x.f1 ≤ wrap64 (n - 1))) && ((x.f0 != x.f1) && (decide (1 ≤ x.f2) && decide (x.f2 ≤ 99))))
def cabsB (n : Int) (l : List S39) : Bool:=(decide (1 ≤ n) && decide (n ≤ 8)) && (decide (l.length ≤ 20) && l.all (cabB n))
/-- What is told of valid cables. -/
theorem cabsB_facts {n : Int} {l : List S39} (h : cabsB n l = true) : 1 ≤ n ∧ n ≤ 8 ∧ l.length ≤ 20 ∧ ∀ x ∈ l,0 ≤ x.f0 ∧ x.f0 < n ∧ 0 ≤ x.f1 ∧ x.f1 < n ∧ x.f0 ≠ x.f1 ∧ 1 ≤ x.f2 ∧ x.f2 ≤ 99:=by
  unfold cabsB at h
  simp only [Bool.and_eq_true,decide_eq_true_eq,List.all_eq_true] at h
  obtain ⟨⟨h1,h2⟩,h3,h4⟩:=h
  refine ⟨h1,h2,h3,fun x hx => ?_⟩
  have:=h4 x hx
  unfold cabB at this
  have e : wrap64 (n - 1) = n - 1:=by unfold wrap64;omega
  rw [e] at this
  simp only [Bool.and_eq_true,decide_eq_true_eq,bne_iff_ne] at this
  omega

-- LIB pbase
theorem wrap_eq {x : Int} (h1 : -9223372036854775808 ≤ x) (h2 : x ≤ 9223372036854775807) : wrap64 x = x:=by unfold wrap64;omega
theorem wrap_succ {i n : Nat} (h : i < n) (hn : n ≤ 9223372036854775807) : wrap64 ((i : Int) + 1) = ((i + 1 : Nat) : Int):=by rw [wrap_eq (by omega) (by omega)];rfl
theorem rd_get (l : List Int) (i : Nat) (h : i < l.length) : rd l (i : Int) = l[i]:=by simp [rd,List.getD_eq_getElem?_getD,h]

-- LIB within
theorem win_is (n a b : Int) : impl_within.f n a b = some (decide (a ≤ n) && decide (n ≤ b)):=by
  unfold impl_within.f
  by_cases h : a ≤ n <;> simp [h]
theorem x_win (n a b : Int) (W : World) : Calls Tryd.prog 29 #[.int .i64 n,.int .i64 a,.int .i64 b] W fun e w' => e = .returned (.bool (decide (a ≤ n) && decide (n ≤ b))) ∧ Below W.heap.size W w' :=
  (impl_within.calls n a b _ W (win_is n a b)).mono fun e w' ⟨he,hd⟩ => ⟨he,hd.below⟩

/-! ### impl_CablesValid: function 26 (by hand) -/
set_option maxHeartbeats 4000000 in
set_option maxRecDepth 100000 in
theorem x_CablesValid_1 {n : Int} {b : Nat} {w : World} (hb : b < w.heap.size) (hc : w.cell? ⟨b,0,none⟩ = some (.int .i64 n)) :
  PredB Tryd.prog 35 #[.pointer (some ⟨b,0,none⟩)] encCab (cabB n) w:=by
 intro W x hB
 have hu:=Tryd.underlying39
 have HC:=mk_ (fun W' (h : Below W.heap.size W W') => (st_ hB h).cell (p:=⟨b,0,none⟩) hb |>.trans hc)
 have hB0 : Below W.heap.size W (W.alloc (.cells #[.int .i64 x.f0,.int .i64 x.f1,.int .i64 x.f2] 39)):=(Below.refl _ W).alloc (Nat.le_refl _) _
 have hN0:=blk_new W (.cells #[.int .i64 x.f0,.int .i64 x.f1,.int .i64 x.f2] 39)
 have h0:=HC.out _ hB0
 have hbW : b < W.heap.size:=Nat.lt_of_lt_of_le hb hB.size
 have HB0:=mk_ hB0
 have HN0:=mk_ hN0
 have hc':=(hB.cell (p:=⟨b,0,none⟩) hb).trans hc
 clear hc hB hb hB0 hN0
 unfold encCab
 have HZ : Aside0 (cabB n x = ((decide (0 ≤ x.f0) && decide (x.f0 ≤ wrap64 (n - 1))) && ((decide (0 ≤ x.f1) && decide (x.f1 ≤ wrap64 (n - 1))) && ((x.f0 != x.f1) && (decide (1 ≤ x.f2) && decide (x.f2 ≤ 99)))))):=⟨rfl⟩
 generalize cabB n x = z at HZ ⊢
 generalize x.f0 = a1 at *
 generalize x.f1 = a2 at *
 generalize x.f2 = a3 at *
 clear x
 obtain ⟨m,hm⟩ : ∃ m,m = wrap64 (n - 1):=⟨_,rfl⟩
 rw [← hm] at HZ
 have y1 : IntKind.i64.wrap (n - 1) = m:=(i64_w _).trans hm.symm
 have hw1:=fun W => x_win a1 0 m W
 have hw2:=fun W => x_win a2 0 m W
 have hw3:=fun W => x_win a3 1 99 W
 clear hm
 generalize (decide (0 ≤ a1) && decide (a1 ≤ m)) = z1 at HZ hw1
 generalize (decide (0 ≤ a2) && decide (a2 ≤ m)) = z2 at HZ hw2
 generalize (decide (1 ≤ a3) && decide (a3 ≤ 99)) = z3 at HZ hw3
 cases z1 with
 | false =>
  have HZ2 : Aside0 (z = false):=⟨by rw [HZ.out];rfl⟩
  go_enter Tryd.func35,Tryd.ntmps35
  go_wp2_with fail
  refine (hw1 _).mono ?_
  rintro e w1 ⟨rfl,hb1⟩
  go_wp2_with fail
  go_ret
  exact ⟨by rw [HZ2.out];rfl,st_ HB0.out hb1⟩
 | true =>
 cases z2 with
 | false =>
  have HZ2 : Aside0 (z = false):=⟨by rw [HZ.out];rfl⟩
  go_enter Tryd.func35,Tryd.ntmps35
  go_wp2_with fail
  refine (hw1 _).mono ?_
  rintro e w1 ⟨rfl,hb1⟩
  have q1 : w1.cell? ⟨b,0,none⟩ = some (.int .i64 n):=HC.out w1 (st_ HB0.out hb1)
  have c1 : w1.cell? ⟨W.heap.size,1,none⟩ = some (.int .i64 a2):=(bc_ (blk_below HN0.out hb1) 1).trans rfl
  have HB1:=mk_ (st_ HB0.out hb1)
  clear hb1
  go_wp2_with fail
  refine (hw2 _).mono ?_
  rintro e w2 ⟨rfl,hb2⟩
  go_wp2_with fail
  go_ret
  exact ⟨by rw [HZ2.out];rfl,st_ HB1.out hb2⟩
 | true =>
 by_cases hne : a1 = a2
 ·have HZ2 : Aside0 (z = false):=⟨by rw [HZ.out,bne_eq_false_iff_eq.mpr hne];rfl⟩
  have hd : (a1 != a2) = false:=bne_eq_false_iff_eq.mpr hne
  clear hne
  go_enter Tryd.func35,Tryd.ntmps35
  go_wp2_with fail
  refine (hw1 _).mono ?_
  rintro e w1 ⟨rfl,hb1⟩
  have q1 : w1.cell? ⟨b,0,none⟩ = some (.int .i64 n):=HC.out w1 (st_ HB0.out hb1)
  have c1 : w1.cell? ⟨W.heap.size,1,none⟩ = some (.int .i64 a2):=(bc_ (blk_below HN0.out hb1) 1).trans rfl
  have HB1:=mk_ (st_ HB0.out hb1)
  have HN1:=mk_ (blk_below HN0.out hb1)
  clear hb1
  go_wp2_with fail
  refine (hw2 _).mono ?_
  rintro e w2 ⟨rfl,hb2⟩
  have d0 : w2.cell? ⟨W.heap.size,0,none⟩ = some (.int .i64 a1):=(bc_ (blk_below HN1.out hb2) 0).trans rfl
  have d1 : w2.cell? ⟨W.heap.size,1,none⟩ = some (.int .i64 a2):=(bc_ (blk_below HN1.out hb2) 1).trans rfl
  have HB2:=mk_ (st_ HB1.out hb2)
  clear hb2 q1 c1
  go_wp2_with fail
  go_ret
  exact ⟨by rw [HZ2.out];rfl,HB2.out⟩
 ·have HZ2 : Aside0 (z = z3):=⟨by rw [HZ.out,bne_iff_ne.mpr hne];rfl⟩
  have hd : (a1 != a2) = true:=bne_iff_ne.mpr hne
  clear hne
  go_enter Tryd.func35,Tryd.ntmps35
  go_wp2_with fail
  refine (hw1 _).mono ?_
  rintro e w1 ⟨rfl,hb1⟩
  have q1 : w1.cell? ⟨b,0,none⟩ = some (.int .i64 n):=HC.out w1 (st_ HB0.out hb1)
  have c1 : w1.cell? ⟨W.heap.size,1,none⟩ = some (.int .i64 a2):=(bc_ (blk_below HN0.out hb1) 1).trans rfl
  have HB1:=mk_ (st_ HB0.out hb1)
  have HN1:=mk_ (blk_below HN0.out hb1)
  clear hb1
  go_wp2_with fail
  refine (hw2 _).mono ?_
  rintro e w2 ⟨rfl,hb2⟩
  have d0 : w2.cell? ⟨W.heap.size,0,none⟩ = some (.int .i64 a1):=(bc_ (blk_below HN1.out hb2) 0).trans rfl
  have d1 : w2.cell? ⟨W.heap.size,1,none⟩ = some (.int .i64 a2):=(bc_ (blk_below HN1.out hb2) 1).trans rfl
  have d2 : w2.cell? ⟨W.heap.size,2,none⟩ = some (.int .i64 a3):=(bc_ (blk_below HN1.out hb2) 2).trans rfl
  have HB2:=mk_ (st_ HB1.out hb2)
  clear hb2 q1 c1
  go_wp2_with fail
  refine (hw3 _).mono ?_
  rintro e w3 ⟨rfl,hb3⟩
  go_wp2_with fail
  go_ret
  exact ⟨by rw [HZ2.out];rfl,st_ HB2.out hb3⟩
def impl_CablesValid.f (a0 : Int) (l1 : List (S39)) : Option (Bool) :=
 some (cabsB a0 l1)
set_option maxHeartbeats 4000000 in
set_option maxRecDepth 100000 in
theorem impl_CablesValid.calls (a0 : Int) (A1 : Option Addr) (c1 : Nat) (l1 : List (S39)) (r : Bool) (w : World) (hr1 : Kd.C k39 w A1 l1.length l1) (hc1 : l1.length ≤ c1) (h : impl_CablesValid.f a0 l1 = some r) :
  Calls Tryd.prog 26 #[.int .i64 a0,.slice A1 l1.length c1] w fun e w' => e = .returned (.bool r) ∧ Below w.heap.size w w':=by
 obtain rfl:=Option.some.inj h
 have hlen:=Kd.C_max hr1
 have hmf : ∀ (fn : Fn) (first cap : Array Value) (w : World),(Instr.makeFunc fn first cap).run Tryd.prog w = .ok (.func fn first cap) w:=fun _ _ _ _ => rfl
 have hb0 : Below w.heap.size w (w.alloc (.cells #[.int .i64 a0] 3)):=(Below.refl _ w).alloc (Nat.le_refl _) _
 have hp0 : PredB Tryd.prog 35 #[.pointer (some ⟨w.heap.size,0,none⟩)] encCab (cabB a0) (w.alloc (.cells #[.int .i64 a0] 3)):=x_CablesValid_1 (by simp) (by simp)
 have hw0:=x_win a0 1 8 (w.alloc (.cells #[.int .i64 a0] 3))
 have HA : Aside0 (∀ W,Below (w.alloc (.cells #[.int .i64 a0] 3)).heap.size (w.alloc (.cells #[.int .i64 a0] 3)) W → Calls Tryd.prog 34 #[.slice A1 l1.length c1,.func (.func 35) #[] #[.pointer (some ⟨w.heap.size,0,none⟩)]] W fun e w' => e = .returned (.bool (l1.all (cabB a0))) ∧ Below W.heap.size W w'):=⟨fun W hW => x_all_cab (cabB a0) 35 _ (enters_of Tryd.func35 (by kernel_rfl) rfl) A1 c1 l1 W (hp0.later hW) (cb_ hr1 (st_ hb0 hW))⟩
 have HB0:=mk_ hb0
 have HZ : Aside0 (cabsB a0 l1 = ((decide (1 ≤ a0) && decide (a0 ≤ 8)) && (decide (l1.length ≤ 20) && l1.all (cabB a0)))):=⟨rfl⟩
 clear h hr1 hc1 hp0 hb0
 generalize cabsB a0 l1 = z at HZ ⊢
 generalize (decide (1 ≤ a0) && decide (a0 ≤ 8)) = z1 at HZ hw0
 generalize l1.all (cabB a0) = z3 at HZ HA
 cases z1 with
 | false =>
  have HZ2 : Aside0 (z = false):=⟨by rw [HZ.out];rfl⟩
  go_enter Tryd.func26,Tryd.ntmps26
  go_wp2_with fail
  refine hw0.mono ?_
  rintro e w1 ⟨rfl,hb1⟩
  go_wp2_with fail
  go_ret
  exact ⟨by rw [HZ2.out];rfl,st_ HB0.out hb1⟩
 | true =>
  by_cases hl : (l1.length : Int) ≤ 20
  ·have HZ2 : Aside0 (z = z3):=⟨by rw [HZ.out,decide_eq_true (show l1.length ≤ 20 by omega)];rfl⟩
   go_enter Tryd.func26,Tryd.ntmps26
   go_wp2_with fail
   refine hw0.mono ?_
   rintro e w1 ⟨rfl,hb1⟩
   have ha:=HA.out _ hb1
   have HB1:=mk_ (st_ HB0.out hb1)
   clear hb1 hw0
   go_wp2_with fail
   refine ha.mono ?_
   rintro e w2 ⟨rfl,hb2⟩
   go_wp2_with fail
   go_ret
   exact ⟨by rw [HZ2.out];rfl,st_ HB1.out hb2⟩
  ·have HZ2 : Aside0 (z = false):=⟨by rw [HZ.out,decide_eq_false (show ¬ l1.length ≤ 20 by omega)];rfl⟩
   go_enter Tryd.func26,Tryd.ntmps26
   go_wp2_with fail
   refine hw0.mono ?_
   rintro e w1 ⟨rfl,hb1⟩
   clear hw0
   go_wp2_with fail
   go_ret
   exact ⟨by rw [HZ2.out];rfl,st_ HB0.out hb1⟩

/-! ### impl_isNetwork: function 30 -/
def impl_isNetwork.f (a0 : Int) : Option (Bool):=(impl_within.f a0 1 9).bind fun t173 => (some t173)
set_option maxHeartbeats 8000000 in
set_option maxRecDepth 100000 in
theorem impl_isNetwork.calls (a0 : Int) (r : Bool) (w : World) (h : impl_isNetwork.f a0 = some r) :
  Calls Tryd.prog 30 #[.int .i64 a0] w fun e w' => e = .returned (.bool r) ∧ Drawn0 w w':=by
 have H : ((impl_within.f a0 1 9).bind fun t173 => (some t173)) = some r:=h
 clear h
 replace H:=Option.bind_eq_some_iff.mp H
 obtain ⟨t173,A20,H⟩:=H
 replace H : (some t173) = some r:=H
 have A2:=mk_ A20
 clear A20
 obtain rfl:=Option.some.inj H
 go_enter Tryd.func30,Tryd.ntmps30
 go_wp2_with (first|((with_reducible refine gate_callee (f:=29) rfl ?_);refine goesL_ (some 4) rfl rfl Tryd.func29 (by kernel_rfl) rfl #[.int .i64 a0,.int .i64 1,.int .i64 9] rfl qm_ ?_;(with_reducible refine (impl_within.calls a0 1 9 t173 _ A2.out).mono ?_);rintro e w' ⟨rfl,⟨nd,rfl⟩⟩;refine ⟨_,rfl,?_⟩))
 go_ret
 exact ⟨by first|rfl|(simp;done)|(simp [*];done),by repeat (first|exact Drawn0.refl _|apply Drawn0.step)⟩

-- LIB containsint
set_option maxHeartbeats 4000000 in
set_option maxRecDepth 100000 in
theorem x_IndexFunc_int (p : Int → Bool) (g : Nat) (lb : Array Value) (eg : ∀ args w, (callFunc g args).run Tryd.prog w = .ok (.enter g args) w) (A0 : Option Addr) (c0 : Nat) (l0 : List Int) (w : World)
    (hp : PredB Tryd.prog g lb (Value.int .i64) p w) (hr0 : Kd.C (Kd.int .i64) w A0 l0.length l0) :
    Calls Tryd.prog 42 #[.slice A0 l0.length c0,.func (.func g) #[] lb] w fun e w' => e = .returned (.int .i64 (idxL p l0 0)) ∧ Below w.heap.size w w':=by
  have hlen:=Kd.C_max hr0
  have HR:=Aside0.mk hr0
  have HP:=Aside0.mk hp
  clear hr0 hp
  go_enter Tryd.func42,Tryd.ntmps42
  go_wp2
  go_loopg [5,8] l0.length (fun gg _ s8 wr => ∃ kk : Nat,kk ≤ l0.length ∧ l0.length - kk ≤ gg ∧ s8 = .int .i64 kk ∧ Aside0 (Below w.heap.size w wr) ∧ Aside0 (idxL p (l0.drop kk) kk = idxL p l0 0))
  case atStart => exact ⟨0,Nat.zero_le _,by omega,rfl,⟨Below.refl _ w⟩,⟨rfl⟩⟩
  case round =>
    obtain ⟨kk,hkk,hg,rfl,BW,HI⟩:=hrel
    by_cases hlt : kk < l0.length
    · obtain ⟨ad,e,hx⟩:=Kd.at_int (Kd.C_below HR.out BW.out) (kk : Int) (by omega) (by omega)
      cases e
      rw [Int.toNat_natCast] at hx
      obtain ⟨y,hy⟩ : ∃ y,y = rd l0 (kk : Int):=⟨_,rfl⟩
      rw [← hy] at hx
      have hcall:=HP.out wr y BW.out
      have HD : Aside0 (idxL p l0 0 = if p y then (kk : Int) else idxL p (l0.drop (kk + 1)) (kk + 1)):=⟨by rw [← HI.out,idxL_drop p l0 kk hlt,hy,rd_getD]⟩
      clear hy
      cases hq : p y with
      | true =>
        rw [hq] at hcall
        have HQ:=Aside0.mk hq
        clear hq
        go_wp2_with (go_at_fn g;refine hcall.mono ?_;rintro e w' ⟨rfl,hb'⟩)
        go_ret
        exact ⟨by rw [HD.out,HQ.out];rfl,below_step BW.out hb'⟩
      | false =>
        rw [hq] at hcall
        have HQ:=Aside0.mk hq
        clear hq
        go_wp2_with (go_at_fn g;refine hcall.mono ?_;rintro e w' ⟨rfl,hb'⟩)
        go_roundg (l0.length - (kk + 1))
        case measure => omega
        case rel => exact ⟨kk + 1,by omega,by omega,by go_num,⟨below_step BW.out hb'⟩,⟨by rw [HD.out,HQ.out];rfl⟩⟩
    · have e : kk = l0.length:=by omega
      subst e
      go_wp2
      go_ret
      exact ⟨by rw [← HI.out,List.drop_length];rfl,BW.out⟩
set_option maxHeartbeats 4000000 in
set_option maxRecDepth 100000 in
theorem x_ContainsFunc_int (p : Int → Bool) (g : Nat) (lb : Array Value) (eg : ∀ args w, (callFunc g args).run Tryd.prog w = .ok (.enter g args) w) (A0 : Option Addr) (c0 : Nat) (l0 : List Int) (w : World)
    (hp : PredB Tryd.prog g lb (Value.int .i64) p w) (hr0 : Kd.C (Kd.int .i64) w A0 l0.length l0) :
    Calls Tryd.prog 36 #[.slice A0 l0.length c0,.func (.func g) #[] lb] w fun e w' => e = .returned (.bool (l0.any p)) ∧ Below w.heap.size w w':=by
  have hcall:=x_IndexFunc_int p g lb eg A0 c0 l0 w hp hr0
  have HA:=Aside0.mk (idxL_any p l0 0)
  obtain ⟨z,hz⟩ : ∃ z,z = idxL p l0 0:=⟨_,rfl⟩
  rw [← hz] at hcall HA
  clear hp hr0 hz
  go_enter Tryd.func36,Tryd.ntmps36
  go_wp2_with (go_at_call 42;refine hcall.mono ?_;rintro e w' ⟨rfl,hb'⟩)
  go_ret
  exact ⟨by rw [← HA.out];rfl,hb'⟩

-- LIB allint
set_option maxHeartbeats 4000000 in
set_option maxRecDepth 100000 in
theorem x_all_int_1 {p : Int → Bool} {g : Nat} {lb : Array Value} (eg : ∀ args w, (callFunc g args).run Tryd.prog w = .ok (.enter g args) w) {b : Nat} {w : World}
    (hp : PredB Tryd.prog g lb (Value.int .i64) p w) (hb : b < w.heap.size) (hc : w.cell? ⟨b,0,none⟩ = some (.func (.func g) #[] lb)) :
    PredB Tryd.prog 37 #[.pointer (some ⟨b,0,none⟩)] (Value.int .i64) (fun x => !p x) w:=by
  intro W x hB
  have hc':=(hB.cell (p:=⟨b,0,none⟩) hb).trans hc
  have hcall:=hp W x hB
  clear hp hc hB hb
  go_enter Tryd.func37,Tryd.ntmps37
  go_wp2_with (go_at_fn g;refine hcall.mono ?_;rintro e w' ⟨rfl,hb'⟩)
  go_ret
  exact ⟨rfl,hb'⟩
theorem any_not_all {α : Type} (p : α → Bool) (l : List α) : (!l.any fun x => !p x) = l.all p:=by
  induction l with
  | nil => rfl
  | cons x xs ih => simp only [List.any_cons,List.all_cons,Bool.not_or,Bool.not_not,ih]
set_option maxHeartbeats 4000000 in
set_option maxRecDepth 100000 in
theorem x_all_int (p : Int → Bool) (g : Nat) (lb : Array Value) (eg : ∀ args w, (callFunc g args).run Tryd.prog w = .ok (.enter g args) w) (A0 : Option Addr) (c0 : Nat) (l0 : List Int) (w : World)
    (hp : PredB Tryd.prog g lb (Value.int .i64) p w) (hr0 : Kd.C (Kd.int .i64) w A0 l0.length l0) :
    Calls Tryd.prog 27 #[.slice A0 l0.length c0,.func (.func g) #[] lb] w fun e w' => e = .returned (.bool (l0.all p)) ∧ Below w.heap.size w w':=by
  have hmf : ∀ (fn : Fn) (first cap : Array Value) (w : World),(Instr.makeFunc fn first cap).run Tryd.prog w = .ok (.func fn first cap) w:=fun _ _ _ _ => rfl
  have hb0 : Below w.heap.size w (w.alloc (.cells #[.func (.func g) #[] lb] 55)):=(Below.refl _ w).alloc (Nat.le_refl _) _
  have hcall:=x_ContainsFunc_int (fun x => !p x) 37 #[.pointer (some ⟨w.heap.size,0,none⟩)] (enters_of Tryd.func37 (by kernel_rfl) rfl) A0 c0 l0 _ (x_all_int_1 eg (hp.later hb0) (by simp) (by simp)) (Kd.C_below hr0 hb0)
  have HB0:=Aside0.mk hb0
  clear hp hr0 hb0
  go_enter Tryd.func27,Tryd.ntmps27
  go_wp2_with (go_at_call 36;refine hcall.mono ?_;rintro e w' ⟨rfl,hb'⟩)
  go_ret
  exact ⟨by rw [any_not_all];rfl,below_step HB0.out hb'⟩

/-! ### impl_NetValid: function 15 (by hand) -/
/-- A bridge of so many;a network. -/
def brB (n x : Int) : Bool:=decide (0 ≤ x) && decide (x ≤ wrap64 (n - 1))
def vlB (x : Int) : Bool:=decide (1 ≤ x) && decide (x ≤ 9)
def netB (n : Int) (cs : List S39) (hs vs : List Int) : Bool:=cabsB n cs && (decide (hs.length ≤ 15) && (decide (vs.length = hs.length) && (hs.all (brB n) && vs.all vlB)))
set_option maxHeartbeats 4000000 in
set_option maxRecDepth 100000 in
theorem x_NetValid_1 {n : Int} {b : Nat} {w : World} (hb : b < w.heap.size) (hc : w.cell? ⟨b,0,none⟩ = some (.int .i64 n)) :
  PredB Tryd.prog 28 #[.pointer (some ⟨b,0,none⟩)] (Value.int .i64) (brB n) w:=by
 intro W x hB
 have hc':=(hB.cell (p:=⟨b,0,none⟩) hb).trans hc
 have hu:=Tryd.underlying30
 have hw:=x_win x 0 (wrap64 (n - 1)) W
 have HZ : Aside0 (brB n x = (decide (0 ≤ x) && decide (x ≤ wrap64 (n - 1)))):=⟨rfl⟩
 clear hc hB hb
 generalize brB n x = z at HZ ⊢
 generalize (decide (0 ≤ x) && decide (x ≤ wrap64 (n - 1))) = z2 at HZ hw
 obtain ⟨x1,hx1⟩ : ∃ x1,x1 = wrap64 (n - 1):=⟨_,rfl⟩
 rw [← hx1] at hw
 have y1 : IntKind.i64.wrap (n - 1) = x1:=(i64_w _).trans hx1.symm
 clear hx1
 go_enter Tryd.func28,Tryd.ntmps28
 go_wp2_with fail
 refine hw.mono ?_
 rintro e w' ⟨rfl,hb'⟩
 go_wp2_with fail
 go_ret
 exact ⟨by rw [HZ.out];rfl,hb'⟩
theorem isNet_eq (x : Int) : impl_isNetwork.f x = some (vlB x):=by
 unfold impl_isNetwork.f
 rw [win_is]
 rfl
theorem x_isNet (w : World) : PredB Tryd.prog 30 #[] (Value.int .i64) vlB w:=by
 intro W x hB
 exact (impl_isNetwork.calls x _ W (isNet_eq x)).mono fun e w' ⟨he,hd⟩ => ⟨he,hd.below⟩
def impl_NetValid.f (a0_0 : Int) (l0_1 : List (S39)) (l0_2 : List Int) (l0_3 : List Int) : Option (Bool) :=
 some (netB a0_0 l0_1 l0_2 l0_3)
set_option maxHeartbeats 4000000 in
set_option maxRecDepth 100000 in
theorem impl_NetValid.calls (a0_0 : Int) (A0_1 : Option Addr) (c0_1 : Nat) (l0_1 : List (S39)) (A0_2 : Option Addr) (c0_2 : Nat) (l0_2 : List Int) (A0_3 : Option Addr) (c0_3 : Nat) (l0_3 : List Int) (r : Bool) (w : World) (hr0_1 : Kd.C k39 w A0_1 l0_1.length l0_1) (hc0_1 : l0_1.length ≤ c0_1) (hr0_2 : Kd.C (Kd.int .i64) w A0_2 l0_2.length l0_2) (hc0_2 : l0_2.length ≤ c0_2) (hr0_3 : Kd.C (Kd.int .i64) w A0_3 l0_3.length l0_3) (hc0_3 : l0_3.length ≤ c0_3) (h : impl_NetValid.f a0_0 l0_1 l0_2 l0_3 = some r) :
  Calls Tryd.prog 15 #[.agg #[.int .i64 a0_0,.slice A0_1 l0_1.length c0_1,.slice A0_2 l0_2.length c0_2,.slice A0_3 l0_3.length c0_3]] w fun e w' => e = .returned (.bool r) ∧ Below w.heap.size w w':=by
 obtain rfl:=Option.some.inj h
 have hu:=Tryd.underlying30
 have hl2:=Kd.C_max hr0_2
 have hl3:=Kd.C_max hr0_3
 have hmf : ∀ (fn : Fn) (first cap : Array Value) (w : World),(Instr.makeFunc fn first cap).run Tryd.prog w = .ok (.func fn first cap) w:=fun _ _ _ _ => rfl
 have hb0 : Below w.heap.size w (w.alloc (.cells #[.int .i64 a0_0,.slice A0_1 l0_1.length c0_1,.slice A0_2 l0_2.length c0_2,.slice A0_3 l0_3.length c0_3] 30)):=(Below.refl _ w).alloc (Nat.le_refl _) _
 have hn0:=blk_new w (.cells #[.int .i64 a0_0,.slice A0_1 l0_1.length c0_1,.slice A0_2 l0_2.length c0_2,.slice A0_3 l0_3.length c0_3] 30)
 have hsz : w.heap.size < (w.alloc (.cells #[.int .i64 a0_0,.slice A0_1 l0_1.length c0_1,.slice A0_2 l0_2.length c0_2,.slice A0_3 l0_3.length c0_3] 30)).heap.size:=by simp
 obtain ⟨W0,hW0⟩ : ∃ W0,W0 = w.alloc (.cells #[.int .i64 a0_0,.slice A0_1 l0_1.length c0_1,.slice A0_2 l0_2.length c0_2,.slice A0_3 l0_3.length c0_3] 30):=⟨_,rfl⟩
 rw [← hW0] at hb0 hn0 hsz
 have hp0 : PredB Tryd.prog 28 #[.pointer (some ⟨w.heap.size,0,none⟩)] (Value.int .i64) (brB a0_0) W0:=x_NetValid_1 hsz ((bc_ hn0 0).trans rfl)
 have hcv:=impl_CablesValid.calls a0_0 A0_1 c0_1 l0_1 _ W0 (cb_ hr0_1 hb0) hc0_1 rfl
 have HA : Aside0 (∀ W,Below W0.heap.size W0 W → Calls Tryd.prog 27 #[.slice A0_2 l0_2.length c0_2,.func (.func 28) #[] #[.pointer (some ⟨w.heap.size,0,none⟩)]] W fun e w' => e = .returned (.bool (l0_2.all (brB a0_0))) ∧ Below W.heap.size W w'):=⟨fun W hW => x_all_int (brB a0_0) 28 _ (enters_of Tryd.func28 (by kernel_rfl) rfl) A0_2 c0_2 l0_2 W (hp0.later hW) (cb_ hr0_2 (st_ hb0 hW))⟩
 have HV : Aside0 (∀ W,Below W0.heap.size W0 W → Calls Tryd.prog 27 #[.slice A0_3 l0_3.length c0_3,.func (.func 30) #[] #[]] W fun e w' => e = .returned (.bool (l0_3.all vlB)) ∧ Below W.heap.size W w'):=⟨fun W hW => x_all_int vlB 30 #[] (enters_of Tryd.func30 (by kernel_rfl) rfl) A0_3 c0_3 l0_3 W (x_isNet W) (cb_ hr0_3 (st_ hb0 hW))⟩
 have HB0:=mk_ hb0
 have HN0:=mk_ hn0
 have HZ : Aside0 (netB a0_0 l0_1 l0_2 l0_3 = (cabsB a0_0 l0_1 && (decide (l0_2.length ≤ 15) && (decide (l0_3.length = l0_2.length) && (l0_2.all (brB a0_0) && l0_3.all vlB))))):=⟨rfl⟩
 clear h hr0_1 hc0_1 hr0_2 hc0_2 hr0_3 hc0_3 hp0 hb0 hn0 hsz
 generalize netB a0_0 l0_1 l0_2 l0_3 = z at HZ ⊢
 generalize cabsB a0_0 l0_1 = z1 at HZ hcv
 generalize l0_2.all (brB a0_0) = z3 at HZ HA
 generalize l0_3.all vlB = z4 at HZ HV
 subst hW0
 cases z1 with
 | false =>
  have HZ2 : Aside0 (z = false):=⟨by rw [HZ.out];rfl⟩
  go_enter Tryd.func15,Tryd.ntmps15
  go_wp2_with fail
  refine hcv.mono ?_
  rintro e w1 ⟨rfl,hb1⟩
  go_wp2_with fail
  go_ret
  exact ⟨by rw [HZ2.out];rfl,st_ HB0.out hb1⟩
 | true =>
 by_cases h15 : (l0_2.length : Int) ≤ 15
 ·by_cases heq : l0_3.length = l0_2.length
  ·have e1 : ((l0_3.length : Int) == (l0_2.length : Int)) = true:=beq_iff_eq.mpr (by omega)
   have e2 : (l0_3.length == l0_2.length) = true:=beq_iff_eq.mpr heq
   have e3 : decide (l0_3.length = l0_2.length) = true:=decide_eq_true heq
   replace HZ : Aside0 (z = (z3 && z4)):=⟨by rw [HZ.out,decide_eq_true (show l0_2.length ≤ 15 by omega),e3];rfl⟩
   clear heq
   cases z3 with
   | false =>
    have HZ2 : Aside0 (z = false):=⟨by rw [HZ.out];rfl⟩
    go_enter Tryd.func15,Tryd.ntmps15
    go_wp2_with fail
    refine hcv.mono ?_
    rintro e w1 ⟨rfl,hb1⟩
    have ha:=HA.out _ hb1
    have g2 : w1.cell? ⟨w.heap.size,2,none⟩ = some (.slice A0_2 l0_2.length c0_2):=(bc_ (blk_below HN0.out hb1) 2).trans rfl
    have g3 : w1.cell? ⟨w.heap.size,3,none⟩ = some (.slice A0_3 l0_3.length c0_3):=(bc_ (blk_below HN0.out hb1) 3).trans rfl
    have HB1:=mk_ (st_ HB0.out hb1)
    clear hb1 hcv
    go_wp2_with fail
    refine ha.mono ?_
    rintro e w2 ⟨rfl,hb2⟩
    go_wp2_with fail
    go_ret
    exact ⟨by rw [HZ2.out];rfl,st_ HB1.out hb2⟩
   | true =>
    have HZ2 : Aside0 (z = z4):=⟨by rw [HZ.out];rfl⟩
    go_enter Tryd.func15,Tryd.ntmps15
    go_wp2_with fail
    refine hcv.mono ?_
    rintro e w1 ⟨rfl,hb1⟩
    have ha:=HA.out _ hb1
    have g2 : w1.cell? ⟨w.heap.size,2,none⟩ = some (.slice A0_2 l0_2.length c0_2):=(bc_ (blk_below HN0.out hb1) 2).trans rfl
    have g3 : w1.cell? ⟨w.heap.size,3,none⟩ = some (.slice A0_3 l0_3.length c0_3):=(bc_ (blk_below HN0.out hb1) 3).trans rfl
    have HB1:=mk_ hb1
    clear hb1 hcv
    go_wp2_with fail
    refine ha.mono ?_
    rintro e w2 ⟨rfl,hb2⟩
    have HB2:=mk_ (st_ HB1.out hb2)
    have hv:=HV.out _ HB2.out
    have k3 : w2.cell? ⟨w.heap.size,3,none⟩ = some (.slice A0_3 l0_3.length c0_3):=(bc_ (blk_below HN0.out HB2.out) 3).trans rfl
    clear hb2 g2 g3 ha
    go_wp2_with fail
    refine hv.mono ?_
    rintro e w3 ⟨rfl,hb3⟩
    go_wp2_with fail
    go_ret
    exact ⟨by rw [HZ2.out];rfl,st_ HB0.out (st_ HB2.out hb3)⟩
  ·have e1 : ((l0_3.length : Int) == (l0_2.length : Int)) = false:=beq_eq_false_iff_ne.mpr (by omega)
   have e2 : (l0_3.length == l0_2.length) = false:=beq_eq_false_iff_ne.mpr heq
   have e3 : decide (l0_3.length = l0_2.length) = false:=decide_eq_false heq
   have HZ2 : Aside0 (z = false):=⟨by rw [HZ.out,e3];simp⟩
   clear heq
   go_enter Tryd.func15,Tryd.ntmps15
   go_wp2_with fail
   refine hcv.mono ?_
   rintro e w1 ⟨rfl,hb1⟩
   have g2 : w1.cell? ⟨w.heap.size,2,none⟩ = some (.slice A0_2 l0_2.length c0_2):=(bc_ (blk_below HN0.out hb1) 2).trans rfl
   have g3 : w1.cell? ⟨w.heap.size,3,none⟩ = some (.slice A0_3 l0_3.length c0_3):=(bc_ (blk_below HN0.out hb1) 3).trans rfl
   have HB1:=mk_ (st_ HB0.out hb1)
   clear hb1 hcv
   go_wp2_with fail
   go_ret
   exact ⟨by rw [HZ2.out];rfl,HB1.out⟩
 ·have HZ2 : Aside0 (z = false):=⟨by rw [HZ.out,decide_eq_false (show ¬ l0_2.length ≤ 15 by omega)];rfl⟩
  go_enter Tryd.func15,Tryd.ntmps15
  go_wp2_with fail
  refine hcv.mono ?_
  rintro e w1 ⟨rfl,hb1⟩
  have g2 : w1.cell? ⟨w.heap.size,2,none⟩ = some (.slice A0_2 l0_2.length c0_2):=(bc_ (blk_below HN0.out hb1) 2).trans rfl
  have HB1:=mk_ (st_ HB0.out hb1)
  clear hb1 hcv
  go_wp2_with fail
  go_ret
  exact ⟨by rw [HZ2.out];rfl,HB1.out⟩

-- LIB itoa
/-- The digits of a small number. -/
def digB (n : Int) : ByteArray:=⟨(Lib.decDigits n.toNat).toArray⟩
theorem x_format (n : Int) (h0 : 0 ≤ n) (h1 : n < 100) (w : World) : Calls Tryd.prog 39 #[.int .i64 n,.int .i64 10] w fun e w' => e = .returned (.string (digB n)) ∧ w' = w:=by
  obtain ⟨k,hk⟩ : ∃ k : Nat,n = (k : Int):=⟨n.toNat,by omega⟩
  subst hk
  have hc:=Any.internal_strconv_small Tryd.lays283 k (by omega) w
  have hd : (⟨(Lib.decDigits k).toArray⟩ : ByteArray) = digB k:=rfl
  rw [hd] at hc
  have p0 : ((0:Int) ≤ (k : Int)) = True:=eq_true h0
  have p1 : ((k : Int) < 100) = True:=eq_true h1
  generalize digB k = d at hc ⊢
  clear hd
  go_enter Tryd.func39,Tryd.ntmps39
  go_wp2_with (go_at_call 43;refine hc.mono ?_;rintro e w' ⟨rfl,rfl⟩)
  go_ret
  try exact ⟨rfl,rfl⟩
theorem x_itoa_in (n : Int) (h0 : 0 ≤ n) (h1 : n < 100) (w : World) : Calls Tryd.prog 32 #[.int .i64 n] w fun e w' => e = .returned (.string (digB n)) ∧ w' = w:=by
  have hc:=x_format n h0 h1 w
  generalize digB n = d at hc ⊢
  go_enter Tryd.func32,Tryd.ntmps32
  go_wp2_with (go_at_call 39;refine hc.mono ?_;rintro e w' ⟨rfl,rfl⟩)
  go_ret
  try exact ⟨rfl,rfl⟩
/-- strconv.Itoa of a number below 100: its digits; the world is as it was. -/
theorem x_itoa (n : Int) (h0 : 0 ≤ n) (h1 : n < 100) (w : World) : Calls Tryd.prog 17 #[.int .i64 n] w fun e w' => e = .returned (.string (digB n)) ∧ w' = w:=by
  have hc:=x_itoa_in n h0 h1 w
  generalize digB n = d at hc ⊢
  go_enter Tryd.func17,Tryd.ntmps17
  go_wp2_with (go_at_call 32;refine hc.mono ?_;rintro e w' ⟨rfl,rfl⟩)
  go_ret
  try exact ⟨rfl,rfl⟩
theorem dig_size (n : Int) (h0 : 0 ≤ n) (h1 : n < 100) : (digB n).size ≤ 2:=by
  obtain ⟨k,hk⟩ : ∃ k : Nat,n = (k : Int):=⟨n.toNat,by omega⟩
  subst hk
  unfold digB
  rw [Int.toNat_natCast]
  show (Lib.decDigits k).toArray.size ≤ 2
  rw [List.size_toArray]
  unfold Lib.decDigits
  split
  · simp
  · unfold Lib.decDigits
    rw [dif_pos (by omega)]
    simp

-- LIB nettext
/-- The lines of a network's text. -/
def headB (n : Int) : ByteArray:=((⟨#[98,114,105,100,103,101,115,32]⟩ : ByteArray) ++ digB n) ++ (⟨#[10]⟩ : ByteArray)
def cabLn (a b c : Int) : ByteArray:=((((((⟨#[99,97,98,108,101,32]⟩ : ByteArray) ++ digB a) ++ (⟨#[32]⟩ : ByteArray)) ++ digB b) ++ (⟨#[32]⟩ : ByteArray)) ++ digB c) ++ (⟨#[10]⟩ : ByteArray)
def staLn (h v : Int) : ByteArray:=((((⟨#[115,116,97,116,105,111,110,32]⟩ : ByteArray) ++ digB h) ++ (⟨#[32]⟩ : ByteArray)) ++ digB v) ++ (⟨#[10]⟩ : ByteArray)
def cabT (cs : List S39) : List UInt8:=cs.flatMap fun c => (cabLn c.f0 c.f1 c.f2).data.toList
def staT (hv : List (Int × Int)) : List UInt8:=hv.flatMap fun p => (staLn p.1 p.2).data.toList
def netT (n : Int) (cs : List S39) (hs vs : List Int) : List UInt8:=((headB n).data.toList ++ cabT cs) ++ staT (hs.zip vs)
theorem cabT_take (cs : List S39) (i : Nat) (h : i < cs.length) : cabT (cs.take (i + 1)) = cabT (cs.take i) ++ (cabLn cs[i].f0 cs[i].f1 cs[i].f2).data.toList:=by
  unfold cabT
  rw [List.take_succ_eq_append_getElem h,List.flatMap_append]
  simp
theorem staT_take (hs vs : List Int) (i : Nat) (h : i < hs.length) (h2 : vs.length = hs.length) : staT ((hs.zip vs).take (i + 1)) = staT ((hs.zip vs).take i) ++ (staLn hs[i] vs[i]).data.toList:=by
  have hz : i < (hs.zip vs).length:=by rw [List.length_zip];omega
  unfold staT
  rw [List.take_succ_eq_append_getElem hz,List.flatMap_append]
  simp
theorem flatMap_le {α : Type} (f : α → List UInt8) (m : Nat) (l : List α) (h : ∀ x ∈ l,(f x).length ≤ m) : (l.flatMap f).length ≤ m * l.length:=by
  induction l with
  | nil => simp
  | cons x xs ih =>
    rw [List.flatMap_cons,List.length_append,List.length_cons,Nat.mul_add]
    have h1:=h x List.mem_cons_self
    have h2:=ih fun y hy => h y (List.mem_cons_of_mem _ hy)
    omega
theorem head_size (n : Int) (h0 : 0 ≤ n) (h1 : n < 100) : (headB n).size ≤ 30:=by
  have:=dig_size n h0 h1
  unfold headB
  simp only [ByteArray.size_append]
  show 8 + (digB n).size + 1 ≤ 30
  omega
theorem cab_size (a b c : Int) (ha : 0 ≤ a) (ha1 : a < 100) (hb : 0 ≤ b) (hb1 : b < 100) (hc : 0 ≤ c) (hc1 : c < 100) : (cabLn a b c).size ≤ 30:=by
  have h1:=dig_size a ha ha1
  have h2:=dig_size b hb hb1
  have h3:=dig_size c hc hc1
  unfold cabLn
  simp only [ByteArray.size_append]
  show 6 + (digB a).size + 1 + (digB b).size + 1 + (digB c).size + 1 ≤ 30
  omega
theorem sta_size (a b : Int) (ha : 0 ≤ a) (ha1 : a < 100) (hb : 0 ≤ b) (hb1 : b < 100) : (staLn a b).size ≤ 30:=by
  have h1:=dig_size a ha ha1
  have h2:=dig_size b hb hb1
  unfold staLn
  simp only [ByteArray.size_append]
  show 8 + (digB a).size + 1 + (digB b).size + 1 ≤ 30
  omega
theorem fresh_build (w : World) : Lib.IsBuilderF 45 5 w.heap.size w.heap.size (Lib.byteCells []) (w.alloc (.cells #[.pointer none,.slice none 0 0] 45)) :=
  Lib.IsBuilderF.of (Lib.fresh_isBuilder _ _ w)
theorem x_write (B b : Nat) (l : List UInt8) (s : ByteArray) (w : World) (h : Lib.IsBuilderF 45 5 B b (Lib.byteCells l) w) (hlen : l.length + s.size ≤ 140737488355328) (hBw : B ≤ w.heap.size) :
    Calls Tryd.prog 16 #[.pointer (some ⟨b,0,none⟩),.string s] w fun e w' => e = .returned (.tuple #[.int .i64 s.size,.nilIface]) ∧ Lib.IsBuilderF 45 5 B b (Lib.byteCells (l ++ s.data.toList)) w' ∧ Below B w w' ∧ Lib.OthersKept 5 (some b) w w':=by
  refine (Any.Builder_WriteString_k Tryd.lays166 Tryd.x166 B b (Lib.byteCells l) s w h (by rw [Lib.byteCells_length];exact hlen) hBw).mono ?_
  rintro e w' ⟨rfl,h1,h2,h3⟩
  refine ⟨rfl,?_,h2,h3⟩
  rw [Lib.byteCells_append]
  exact .inr h1
theorem x_string (B b : Nat) (l : List UInt8) (w : World) (h : Lib.IsBuilderF 45 5 B b (Lib.byteCells l) w) (hBw : B ≤ w.heap.size) :
    Calls Tryd.prog 18 #[.pointer (some ⟨b,0,none⟩)] w fun e w' => e = .returned (.string ⟨l.toArray⟩) ∧ Below B w w' :=
  (Any.Builder_String_any_k Tryd.lays169 Tryd.x166 B b l w h hBw).mono fun e w' ⟨he,_,h2,_⟩ => ⟨he,h2⟩

-- LIB netwalk
theorem rdInt_nt (l : List Int) (i : Nat) (h : i < l.length) : rd l (i : Int) = l[i]:=by simp [rd,List.getD_eq_getElem?_getD,h]
theorem x_keptc {b gc : Nat} {w w' : World} {cs : Array Value} (hk : Lib.OthersKept 5 (some b) w.drew w') (h : w.heap[gc]? = some (.cells cs 39)) (hne : b < gc) : w'.heap[gc]? = some (.cells cs 39):=by
  refine hk gc _ h (fun e => ?_) (fun c fz e => ?_)
  · injection e with e
    omega
  · injection e with _ e2 _
    exact absurd e2 (by decide)
theorem below_drewt {B : Nat} {w w1 w2 : World} (h : Below B w w1) (h2 : Below B w1.drew w2) : Below B w w2:=(below_drew1 h).trans h2
set_option maxHeartbeats 8000000 in
set_option maxRecDepth 100000 in
theorem x_NetText (a0_0 : Int) (A0_1 : Option Addr) (c0_1 : Nat) (l0_1 : List (S39)) (A0_2 : Option Addr) (c0_2 : Nat) (l0_2 : List Int) (A0_3 : Option Addr) (c0_3 : Nat) (l0_3 : List Int) (w : World) (hr0_1 : Kd.C k39 w A0_1 l0_1.length l0_1) (hc0_1 : l0_1.length ≤ c0_1) (hr0_2 : Kd.C (Kd.int .i64) w A0_2 l0_2.length l0_2) (hc0_2 : l0_2.length ≤ c0_2) (hr0_3 : Kd.C (Kd.int .i64) w A0_3 l0_3.length l0_3) (hc0_3 : l0_3.length ≤ c0_3)
    (hN0 : 0 ≤ a0_0) (hN1 : a0_0 < 100) (hL : l0_1.length ≤ 20) (hcs : ∀ x ∈ l0_1,0 ≤ x.f0 ∧ x.f0 < 100 ∧ 0 ≤ x.f1 ∧ x.f1 < 100 ∧ 0 ≤ x.f2 ∧ x.f2 < 100) (hH : l0_2.length ≤ 15) (hV : l0_3.length = l0_2.length) (hhs : ∀ x ∈ l0_2,0 ≤ x ∧ x < 100) (hvs : ∀ x ∈ l0_3,0 ≤ x ∧ x < 100) (hv : impl_NetValid.f a0_0 l0_1 l0_2 l0_3 = some true) :
    Calls Tryd.prog 7 #[.agg #[.int .i64 a0_0,.slice A0_1 l0_1.length c0_1,.slice A0_2 l0_2.length c0_2,.slice A0_3 l0_3.length c0_3]] w fun e w' => e = .returned (.string ⟨(netT a0_0 l0_1 l0_2 l0_3).toArray⟩) ∧ Below w.heap.size w w':=by
  have hb0 : Below w.heap.size w (w.alloc (.cells #[.int .i64 a0_0,.slice A0_1 l0_1.length c0_1,.slice A0_2 l0_2.length c0_2,.slice A0_3 l0_3.length c0_3] 30)):=(Below.refl _ w).alloc (Nat.le_refl _) _
  have hn0:=blk_new w (.cells #[.int .i64 a0_0,.slice A0_1 l0_1.length c0_1,.slice A0_2 l0_2.length c0_2,.slice A0_3 l0_3.length c0_3] 30)
  have hnv:=impl_NetValid.calls a0_0 A0_1 c0_1 l0_1 A0_2 c0_2 l0_2 A0_3 c0_3 l0_3 true (w.alloc (.cells #[.int .i64 a0_0,.slice A0_1 l0_1.length c0_1,.slice A0_2 l0_2.length c0_2,.slice A0_3 l0_3.length c0_3] 30)) (Kd.C_below hr0_1 hb0) hc0_1 (Kd.C_below hr0_2 hb0) hc0_2 (Kd.C_below hr0_3 hb0) hc0_3 hv
  have HR1:=Aside0.mk hr0_1
  have HR2:=Aside0.mk hr0_2
  have HR3:=Aside0.mk hr0_3
  have HB0:=Aside0.mk hb0
  have HN:=Aside0.mk hn0
  have HC:=Aside0.mk hcs
  have HH:=Aside0.mk hhs
  have HV:=Aside0.mk hvs
  have HE:=Aside0.mk hV
  clear hr0_1 hc0_1 hr0_2 hc0_2 hr0_3 hc0_3 hb0 hn0 hcs hhs hvs hv hV
  have HZ0:=Aside0.mk (head_size a0_0 hN0 hN1)
  have hz0:=dig_size a0_0 hN0 hN1
  have hi0:=x_itoa a0_0 hN0 hN1
  have HD0 : Aside0 (headB a0_0 = ((⟨#[98,114,105,100,103,101,115,32]⟩ : ByteArray) ++ digB a0_0) ++ (⟨#[10]⟩ : ByteArray)):=⟨rfl⟩
  generalize digB a0_0 = d0 at *
  have hu:=Tryd.underlying30
  go_enter Tryd.func7,Tryd.ntmps7
  go_wp2_with fail
  refine hnv.mono ?_
  rintro e w1 ⟨rfl,hb1⟩
  have HN1:=Aside0.mk (blk_below HN.out hb1)
  have g0 : (w1.alloc (.cells #[.pointer none,.slice none 0 0] 45)).cell? ⟨w.heap.size,0,none⟩ = some (.int .i64 a0_0):=(blk_cell (blk_alloc HN1.out _) 0).trans rfl
  have HF1:=Aside0.mk (fresh_build w1)
  have HB1:=Aside0.mk (below_step HB0.out hb1)
  clear hb1 hnv
  have q1 : (9223372036854775807 < 8 + d0.size) = False:=eq_false (by omega)
  have q2 : (9223372036854775807 < 8 + d0.size + 1) = False:=eq_false (by omega)
  have hw0:=x_write w1.heap.size w1.heap.size [] (headB a0_0) _ HF1.out (by have:=HZ0.out;simp only [List.length_nil];omega) (by simp)
  rw [HD0.out] at hw0
  have HM : Aside0 (netT a0_0 l0_1 l0_2 l0_3 = (([] ++ (headB a0_0).data.toList) ++ cabT l0_1) ++ staT (l0_2.zip l0_3)):=⟨by rw [List.nil_append];rfl⟩
  rw [HD0.out] at HM
  have HT : Aside0 (([] ++ (((⟨#[98,114,105,100,103,101,115,32]⟩ : ByteArray) ++ d0) ++ (⟨#[10]⟩ : ByteArray)).data.toList).length ≤ 30):=⟨by have:=HZ0.out;rw [HD0.out] at this;rw [List.nil_append,Array.length_toList];exact this⟩
  generalize [] ++ (((⟨#[98,114,105,100,103,101,115,32]⟩ : ByteArray) ++ d0) ++ (⟨#[10]⟩ : ByteArray)).data.toList = T0 at hw0 HM HT
  clear HF1 HD0
  go_wp2_with (first | (go_at_call 17;refine (hi0 _).mono ?_;rintro e w' ⟨rfl,rfl⟩) | (go_at_call 16;refine hw0.mono ?_;rintro e w2 ⟨rfl,hI2,hb2,_⟩;have HB2:=Aside0.mk ((below_alloc (Below.refl w1.heap.size w1) _).trans hb2);have k1 : w2.cell? ⟨w.heap.size,1,none⟩ = some (.slice A0_1 l0_1.length c0_1):=(blk_cell (blk_below HN1.out HB2.out) 1).trans rfl;clear hb2;have HI2:=Aside0.mk hI2;clear hI2))
  have HSZ : Aside0 (w.heap.size ≤ w1.heap.size):=⟨HB1.out.size⟩
  clear hw0 hi0 hz0 g0 q1 q2 k1
  go_loopg [5,20] l0_1.length (fun gg _ s20 wr => ∃ jj : Nat,jj ≤ l0_1.length ∧ l0_1.length - jj ≤ gg ∧ s20 = .int .i64 jj ∧ Aside0 (Lib.IsBuilderF 45 5 w1.heap.size w1.heap.size (Lib.byteCells (T0 ++ cabT (l0_1.take jj))) wr) ∧ Aside0 (Below w1.heap.size w1 wr))
  case atStart => exact ⟨0,Nat.zero_le _,by omega,rfl,⟨by simpa [cabT] using HI2.out⟩,HB2⟩
  case round =>
    clear HI2 HB2
    obtain ⟨jj,hjj,hgg,rfl,HO,BW⟩:=hrel
    by_cases hlt : jj < l0_1.length
    · obtain ⟨ad,e,hx0,hx1,hx2⟩:=at_T39 (Kd.C_below HR1.out (below_step HB1.out BW.out)) (jj : Int) (by omega) (by omega)
      cases e
      rw [Int.toNat_natCast] at hx0 hx1 hx2
      rw [rdCab_get l0_1 jj hlt] at hx0 hx1 hx2
      obtain ⟨g1,g2,g3,g4,g5,g6⟩:=HC.out l0_1[jj] (List.getElem_mem hlt)
      have HX : Aside0 (cabT (l0_1.take (jj + 1)) = cabT (l0_1.take jj) ++ (cabLn l0_1[jj].f0 l0_1[jj].f1 l0_1[jj].f2).data.toList):=⟨cabT_take l0_1 jj hlt⟩
      have HL : Aside0 ((cabT (l0_1.take jj)).length ≤ 600):=⟨by
        have:=flatMap_le (fun c : S39 => (cabLn c.f0 c.f1 c.f2).data.toList) 30 (l0_1.take jj) (fun x hx => by
          obtain ⟨a1,a2,a3,a4,a5,a6⟩:=HC.out x (List.mem_of_mem_take hx)
          exact cab_size _ _ _ a1 a2 a3 a4 a5 a6)
        have hl : (l0_1.take jj).length ≤ 20:=by rw [List.length_take];omega
        unfold cabT
        omega⟩
      generalize l0_1[jj] = cc at hx0 hx1 hx2 g1 g2 g3 g4 g5 g6 HX
      obtain ⟨A,B,C⟩:=cc
      simp only [] at hx0 hx1 hx2 g1 g2 g3 g4 g5 g6 HX
      generalize cabT (l0_1.take jj) = T1 at HO HX HL
      have p1 : ((jj : Int) < (l0_1.length : Int)) = True:=eq_true (by omega)
      have hsz : w1.heap.size ≤ wr.heap.size:=BW.out.size
      have hgb : w1.heap.size < wr.heap.size:=HO.out.elim (fun h => h.lt) (fun h => h.lt)
      go_wp2_with fail
      have HIa:=Aside0.mk (Lib.IsBuilderF.alloc HO.out (.cells #[.int .i64 A,.int .i64 B,.int .i64 C] 39))
      have HBa:=Aside0.mk (below_alloc BW.out (.cells #[.int .i64 A,.int .i64 B,.int .i64 C] 39))
      have HNa:=blk_new wr (.cells #[.int .i64 A,.int .i64 B,.int .i64 C] 39)
      have HSW : Aside0 (w1.heap.size ≤ (wr.alloc (.cells #[.int .i64 A,.int .i64 B,.int .i64 C] 39)).heap.size):=⟨HBa.out.size⟩
      clear hx0 hx1 hx2 HO BW hsz
      generalize wr.alloc (.cells #[.int .i64 A,.int .i64 B,.int .i64 C] 39) = W1 at HIa HBa HNa HSW ⊢
      generalize wr.heap.size = gc at HNa hgb ⊢
      have k0 : W1.cell? ⟨gc,0,none⟩ = some (.int .i64 A):=(blk_cell HNa 0).trans rfl
      have k1 : W1.cell? ⟨gc,1,none⟩ = some (.int .i64 B):=(blk_cell HNa 1).trans rfl
      have k2 : W1.cell? ⟨gc,2,none⟩ = some (.int .i64 C):=(blk_cell HNa 2).trans rfl
      have hiA:=x_itoa A g1 g2
      have hiB:=x_itoa B g3 g4
      have hiC:=x_itoa C g5 g6
      have zA:=dig_size A g1 g2
      have zB:=dig_size B g3 g4
      have zC:=dig_size C g5 g6
      have HCL : Aside0 (cabLn A B C = ((((((⟨#[99,97,98,108,101,32]⟩ : ByteArray) ++ digB A) ++ (⟨#[32]⟩ : ByteArray)) ++ digB B) ++ (⟨#[32]⟩ : ByteArray)) ++ digB C) ++ (⟨#[10]⟩ : ByteArray)):=⟨rfl⟩
      have HZC:=Aside0.mk (cab_size A B C g1 g2 g3 g4 g5 g6)
      rw [HCL.out] at HX HZC
      clear HCL
      generalize digB A = dA at *
      generalize digB B = dB at *
      generalize digB C = dC at *
      have q1 : (9223372036854775807 < 6 + dA.size) = False:=eq_false (by omega)
      have q2 : (9223372036854775807 < 6 + dA.size + 1) = False:=eq_false (by omega)
      have q3 : (9223372036854775807 < 6 + dA.size + 1 + dB.size) = False:=eq_false (by omega)
      have q4 : (9223372036854775807 < 6 + dA.size + 1 + dB.size + 1) = False:=eq_false (by omega)
      have q5 : (9223372036854775807 < 6 + dA.size + 1 + dB.size + 1 + dC.size) = False:=eq_false (by omega)
      have q6 : (9223372036854775807 < 6 + dA.size + 1 + dB.size + 1 + dC.size + 1) = False:=eq_false (by omega)
      have HNA:=Aside0.mk HNa
      have hwr:=x_write w1.heap.size w1.heap.size (T0 ++ T1) (((((((⟨#[99,97,98,108,101,32]⟩ : ByteArray) ++ dA) ++ (⟨#[32]⟩ : ByteArray)) ++ dB) ++ (⟨#[32]⟩ : ByteArray)) ++ dC) ++ (⟨#[10]⟩ : ByteArray)) W1.drew HIa.out (by have:=HZC.out;have:=HT.out;have:=HL.out;rw [List.length_append];omega) HSW.out
      clear HNa g1 g2 g3 g4 g5 g6
      go_region_held3 (fun w' => w'.cell? ⟨gc,0,none⟩ = some (.int .i64 A) ∧ w'.cell? ⟨gc,1,none⟩ = some (.int .i64 B) ∧ w'.cell? ⟨gc,2,none⟩ = some (.int .i64 C)) (go_keep)
        (first
          | (go_at_call_of 17 (Value.int IntKind.i64 A);refine (hiA _).mono ?_;rintro e w' ⟨rfl,rfl⟩)
          | (go_at_call_of 17 (Value.int IntKind.i64 B);refine (hiB _).mono ?_;rintro e w' ⟨rfl,rfl⟩)
          | (go_at_call_of 17 (Value.int IntKind.i64 C);refine (hiC _).mono ?_;rintro e w' ⟨rfl,rfl⟩)
          | (go_at_call 16;refine hwr.mono ?_;rintro e w3 ⟨rfl,hI3,hb3,hk3⟩;have HI3:=Aside0.mk hI3;have HB3:=Aside0.mk (below_drewt HBa.out hb3);have hn3:=x_keptc hk3 HNA.out hgb;have m0 : w3.cell? ⟨gc,0,none⟩ = some (.int .i64 A):=(blk_cell hn3 0).trans rfl;have m1 : w3.cell? ⟨gc,1,none⟩ = some (.int .i64 B):=(blk_cell hn3 1).trans rfl;have m2 : w3.cell? ⟨gc,2,none⟩ = some (.int .i64 C):=(blk_cell hn3 2).trans rfl;clear hI3 hb3 hk3 hn3))
      rw [List.append_assoc,← HX.out] at HI3
      go_wp2
      go_roundg (l0_1.length - (jj + 1))
      case measure => omega
      case rel => exact ⟨jj + 1,by omega,by omega,by go_num,HI3,HB3⟩
    · have e : jj = l0_1.length:=by omega
      subst e
      rw [List.take_length] at HO
      have HL : Aside0 ((cabT l0_1).length ≤ 600):=⟨by
        have:=flatMap_le (fun c : S39 => (cabLn c.f0 c.f1 c.f2).data.toList) 30 l0_1 (fun x hx => by
          obtain ⟨a1,a2,a3,a4,a5,a6⟩:=HC.out x hx
          exact cab_size _ _ _ a1 a2 a3 a4 a5 a6)
        unfold cabT
        omega⟩
      have HT2 : Aside0 ((T0 ++ cabT l0_1).length ≤ 630):=⟨by have:=HL.out;have:=HT.out;rw [List.length_append];omega⟩
      generalize T0 ++ cabT l0_1 = T1 at HO HM HT2
      have k2 : wr.cell? ⟨w.heap.size,2,none⟩ = some (.slice A0_2 l0_2.length c0_2):=(blk_cell (blk_below HN1.out BW.out) 2).trans rfl
      clear HL HT hgg hjj hlt
      go_wp2_with fail
      obtain ⟨wo,HO9,HB9⟩ : ∃ wo : World,Aside0 (wo = wr) ∧ Aside0 (wo = wr):=⟨wr,⟨rfl⟩,⟨rfl⟩⟩
      clear HO9 HB9 k2
      go_loopg [6,7,44] l0_2.length (fun gg _ _ s44 wr => ∃ jj : Nat,jj ≤ l0_2.length ∧ l0_2.length - jj ≤ gg ∧ s44 = .int .i64 jj ∧ Aside0 (Lib.IsBuilderF 45 5 w1.heap.size w1.heap.size (Lib.byteCells (T1 ++ staT ((l0_2.zip l0_3).take jj))) wr) ∧ Aside0 (Below w1.heap.size w1 wr))
      case atStart => exact ⟨0,Nat.zero_le _,by omega,rfl,⟨by simpa [staT] using HO.out⟩,BW⟩
      case round =>
        clear HO BW
        obtain ⟨jj,hjj,hgg,rfl,HO,BW⟩:=hrel
        by_cases hlt : jj < l0_2.length
        · have hlt3 : jj < l0_3.length:=by have:=HE.out;omega
          obtain ⟨ad,e,hx⟩:=Kd.at_int (Kd.C_below HR2.out (below_step HB1.out BW.out)) (jj : Int) (by omega) (by omega)
          cases e
          obtain ⟨ad3,e,hy⟩:=Kd.at_int (Kd.C_below HR3.out HB1.out) (jj : Int) (by omega) (by omega)
          cases e
          rw [Int.toNat_natCast,rdInt_nt _ jj hlt] at hx
          rw [Int.toNat_natCast,rdInt_nt _ jj hlt3] at hy
          obtain ⟨g1,g2⟩:=HH.out l0_2[jj] (List.getElem_mem hlt)
          obtain ⟨g3,g4⟩:=HV.out l0_3[jj] (List.getElem_mem hlt3)
          have HX : Aside0 (staT ((l0_2.zip l0_3).take (jj + 1)) = staT ((l0_2.zip l0_3).take jj) ++ (staLn l0_2[jj] l0_3[jj]).data.toList):=⟨staT_take l0_2 l0_3 jj hlt HE.out⟩
          have HL : Aside0 ((staT ((l0_2.zip l0_3).take jj)).length ≤ 600):=⟨by
            have:=flatMap_le (fun p : Int × Int => (staLn p.1 p.2).data.toList) 30 ((l0_2.zip l0_3).take jj) (fun x hx => by
              have hm:=List.mem_of_mem_take hx
              obtain ⟨a1,a2⟩:=HH.out x.1 (List.of_mem_zip hm).1
              obtain ⟨a3,a4⟩:=HV.out x.2 (List.of_mem_zip hm).2
              exact sta_size _ _ a1 a2 a3 a4)
            have hl : ((l0_2.zip l0_3).take jj).length ≤ 15:=by rw [List.length_take];omega
            unfold staT
            omega⟩
          generalize l0_2[jj] = A at hx g1 g2 HX
          generalize l0_3[jj] = B at hy g3 g4 HX
          generalize staT ((l0_2.zip l0_3).take jj) = T2 at HO HX HL
          have p1 : ((jj : Int) < (l0_2.length : Int)) = True:=eq_true (by omega)
          have p2 : ((jj : Int) < (l0_3.length : Int)) = True:=eq_true (by omega)
          have p3 : (jj < l0_3.length) = True:=eq_true hlt3
          have k3 : wr.cell? ⟨w.heap.size,3,none⟩ = some (.slice (some ad3) l0_3.length c0_3):=(blk_cell (blk_below HN1.out BW.out) 3).trans rfl
          have hy2 : wr.cell? (ad3.add jj) = some (.int .i64 B):=(BW.out.cell (World.block_lt_of_cell? w1 _ hy)).trans hy
          have HY:=Aside0.mk hy
          have hiA:=x_itoa A g1 g2
          have hiB:=x_itoa B g3 g4
          have zA:=dig_size A g1 g2
          have zB:=dig_size B g3 g4
          have HCL : Aside0 (staLn A B = ((((⟨#[115,116,97,116,105,111,110,32]⟩ : ByteArray) ++ digB A) ++ (⟨#[32]⟩ : ByteArray)) ++ digB B) ++ (⟨#[10]⟩ : ByteArray)):=⟨rfl⟩
          have HZC:=Aside0.mk (sta_size A B g1 g2 g3 g4)
          rw [HCL.out] at HX HZC
          clear HCL
          generalize digB A = dA at *
          generalize digB B = dB at *
          have q1 : (9223372036854775807 < 8 + dA.size) = False:=eq_false (by omega)
          have q2 : (9223372036854775807 < 8 + dA.size + 1) = False:=eq_false (by omega)
          have q3 : (9223372036854775807 < 8 + dA.size + 1 + dB.size) = False:=eq_false (by omega)
          have q4 : (9223372036854775807 < 8 + dA.size + 1 + dB.size + 1) = False:=eq_false (by omega)
          have hwr:=x_write w1.heap.size w1.heap.size (T1 ++ T2) (((((⟨#[115,116,97,116,105,111,110,32]⟩ : ByteArray) ++ dA) ++ (⟨#[32]⟩ : ByteArray)) ++ dB) ++ (⟨#[10]⟩ : ByteArray)) wr.drew HO.out (by have:=HZC.out;have:=HT2.out;have:=HL.out;rw [List.length_append];omega) BW.out.size
          clear g1 g2 g3 g4 hy
          go_wp2_with fail
          go_region_held3 (fun w' => w'.cell? ⟨w.heap.size,3,none⟩ = some (.slice (some ad3) l0_3.length c0_3) ∧ w'.cell? (ad3.add jj) = some (.int .i64 B)) (go_keep)
            (first
              | (go_at_call_of 17 (Value.int IntKind.i64 A);refine (hiA _).mono ?_;rintro e w' ⟨rfl,rfl⟩)
              | (go_at_call_of 17 (Value.int IntKind.i64 B);refine (hiB _).mono ?_;rintro e w' ⟨rfl,rfl⟩)
              | (go_at_call 16;refine hwr.mono ?_;rintro e w3 ⟨rfl,hI3,hb3,_⟩;have HI3:=Aside0.mk hI3;have HB3:=Aside0.mk (below_drewt BW.out hb3);have m0 : w3.cell? ⟨w.heap.size,3,none⟩ = some (.slice (some ad3) l0_3.length c0_3):=(blk_cell (blk_below HN1.out HB3.out) 3).trans rfl;have m1 : w3.cell? (ad3.add jj) = some (.int .i64 B):=(HB3.out.cell (World.block_lt_of_cell? w1 _ HY.out)).trans HY.out;clear hI3 hb3))
          rw [List.append_assoc,← HX.out] at HI3
          go_wp2
          go_roundg (l0_2.length - (jj + 1))
          case measure => omega
          case rel => exact ⟨jj + 1,by omega,by omega,by go_num,HI3,HB3⟩
        · have e : jj = l0_2.length:=by omega
          subst e
          have hz : (l0_2.zip l0_3).take l0_2.length = l0_2.zip l0_3:=List.take_of_length_le (by rw [List.length_zip];omega)
          rw [hz,← HM.out] at HO
          have hs:=x_string w1.heap.size w1.heap.size _ wr HO.out BW.out.size
          go_wp2_with (go_at_call 18;refine hs.mono ?_;rintro e w4 ⟨rfl,hb4⟩)
          go_ret
          exact ⟨rfl,below_step HB1.out (BW.out.trans hb4)⟩
set_option maxHeartbeats 8000000 in
set_option maxRecDepth 100000 in
theorem x_NetText_no (a0_0 : Int) (A0_1 : Option Addr) (c0_1 : Nat) (l0_1 : List (S39)) (A0_2 : Option Addr) (c0_2 : Nat) (l0_2 : List Int) (A0_3 : Option Addr) (c0_3 : Nat) (l0_3 : List Int) (w : World) (hr0_1 : Kd.C k39 w A0_1 l0_1.length l0_1) (hc0_1 : l0_1.length ≤ c0_1) (hr0_2 : Kd.C (Kd.int .i64) w A0_2 l0_2.length l0_2) (hc0_2 : l0_2.length ≤ c0_2) (hr0_3 : Kd.C (Kd.int .i64) w A0_3 l0_3.length l0_3) (hc0_3 : l0_3.length ≤ c0_3)
    (hv : impl_NetValid.f a0_0 l0_1 l0_2 l0_3 = some false) :
    Calls Tryd.prog 7 #[.agg #[.int .i64 a0_0,.slice A0_1 l0_1.length c0_1,.slice A0_2 l0_2.length c0_2,.slice A0_3 l0_3.length c0_3]] w fun e w' => e = .returned (.string ⟨#[]⟩) ∧ Below w.heap.size w w':=by
  have hb0 : Below w.heap.size w (w.alloc (.cells #[.int .i64 a0_0,.slice A0_1 l0_1.length c0_1,.slice A0_2 l0_2.length c0_2,.slice A0_3 l0_3.length c0_3] 30)):=(Below.refl _ w).alloc (Nat.le_refl _) _
  have hnv:=impl_NetValid.calls a0_0 A0_1 c0_1 l0_1 A0_2 c0_2 l0_2 A0_3 c0_3 l0_3 false (w.alloc (.cells #[.int .i64 a0_0,.slice A0_1 l0_1.length c0_1,.slice A0_2 l0_2.length c0_2,.slice A0_3 l0_3.length c0_3] 30)) (Kd.C_below hr0_1 hb0) hc0_1 (Kd.C_below hr0_2 hb0) hc0_2 (Kd.C_below hr0_3 hb0) hc0_3 hv
  have HB0:=Aside0.mk hb0
  clear hr0_1 hc0_1 hr0_2 hc0_2 hr0_3 hc0_3 hb0 hv
  have hu:=Tryd.underlying30
  go_enter Tryd.func7,Tryd.ntmps7
  go_wp2_with fail
  refine hnv.mono ?_
  rintro e w1 ⟨rfl,hb1⟩
  have HB1:=Aside0.mk (below_step HB0.out hb1)
  clear hb1 hnv
  go_wp2_with fail
  go_ret
  exact ⟨rfl,HB1.out⟩

/-! ### impl_NetText: function 7 (by hand) -/
def impl_NetText.f (a0_0 : Int) (l0_1 : List (S39)) (l0_2 : List Int) (l0_3 : List Int) : Option (ByteArray) :=
 if netB a0_0 l0_1 l0_2 l0_3 = true then some ⟨(netT a0_0 l0_1 l0_2 l0_3).toArray⟩ else some ⟨#[]⟩
set_option maxHeartbeats 4000000 in
set_option maxRecDepth 100000 in
theorem impl_NetText.calls (a0_0 : Int) (A0_1 : Option Addr) (c0_1 : Nat) (l0_1 : List (S39)) (A0_2 : Option Addr) (c0_2 : Nat) (l0_2 : List Int) (A0_3 : Option Addr) (c0_3 : Nat) (l0_3 : List Int) (r : ByteArray) (w : World) (hr0_1 : Kd.C k39 w A0_1 l0_1.length l0_1) (hc0_1 : l0_1.length ≤ c0_1) (hr0_2 : Kd.C (Kd.int .i64) w A0_2 l0_2.length l0_2) (hc0_2 : l0_2.length ≤ c0_2) (hr0_3 : Kd.C (Kd.int .i64) w A0_3 l0_3.length l0_3) (hc0_3 : l0_3.length ≤ c0_3) (h : impl_NetText.f a0_0 l0_1 l0_2 l0_3 = some r) :
  Calls Tryd.prog 7 #[.agg #[.int .i64 a0_0,.slice A0_1 l0_1.length c0_1,.slice A0_2 l0_2.length c0_2,.slice A0_3 l0_3.length c0_3]] w fun e w' => e = .returned (.string r) ∧ Below w.heap.size w w':=by
 unfold impl_NetText.f at h
 cases hv : netB a0_0 l0_1 l0_2 l0_3 with
 | false => 
  rw [hv,if_neg (by decide)] at h
  obtain rfl:=Option.some.inj h
  exact x_NetText_no a0_0 A0_1 c0_1 l0_1 A0_2 c0_2 l0_2 A0_3 c0_3 l0_3 w hr0_1 hc0_1 hr0_2 hc0_2 hr0_3 hc0_3 (by show some _ = some _;rw [hv])
 | true =>
  rw [hv,if_pos rfl] at h
  obtain rfl:=Option.some.inj h
  have hb:=hv
  unfold netB at hb
  simp only [Bool.and_eq_true,decide_eq_true_eq,List.all_eq_true] at hb
  obtain ⟨hcv,hl2,hl3,hh,hw⟩:=hb
  obtain ⟨f1,f2,f3,f4⟩:=cabsB_facts hcv
  refine x_NetText a0_0 A0_1 c0_1 l0_1 A0_2 c0_2 l0_2 A0_3 c0_3 l0_3 w hr0_1 hc0_1 hr0_2 hc0_2 hr0_3 hc0_3 (by omega) (by omega) f3 (fun x hx => by have:=f4 x hx;omega) hl2 hl3 ?_ ?_ (by show some _ = some _;rw [hv])
  ·intro x hx
   have:=hh x hx
   unfold brB at this
   simp only [Bool.and_eq_true,decide_eq_true_eq] at this
   have e : wrap64 (a0_0 - 1) = a0_0 - 1:=by unfold wrap64;omega
   rw [e] at this
   omega
  ·intro x hx
   have:=hw x hx
   unfold vlB at this
   simp only [Bool.and_eq_true,decide_eq_true_eq] at this
   omega

/-! ### laws_eqCable: function 33 -/
def laws_eqCable.f (a0_0 : Int) (a0_1 : Int) (a0_2 : Int) (a1_0 : Int) (a1_1 : Int) (a1_2 : Int) : Option (Bool):=if a0_0 = a1_0 then (if a0_1 = a1_1 then (if a0_2 = a1_2 then (some true) else (some false)) else (some false)) else (some false)
set_option maxHeartbeats 8000000 in
set_option maxRecDepth 100000 in
theorem laws_eqCable.calls (a0_0 : Int) (a0_1 : Int) (a0_2 : Int) (a1_0 : Int) (a1_1 : Int) (a1_2 : Int) (r : Bool) (w : World) (h : laws_eqCable.f a0_0 a0_1 a0_2 a1_0 a1_1 a1_2 = some r) :
  Calls Tryd.prog 33 #[.agg #[.int .i64 a0_0,.int .i64 a0_1,.int .i64 a0_2],.agg #[.int .i64 a1_0,.int .i64 a1_1,.int .i64 a1_2]] w fun e w' => e = .returned (.bool r) ∧ Below w.heap.size w w':=by
 have hu39:=Tryd.underlying39
 have HB:=mk_ (Below.refl w.heap.size w)
 have H : (if a0_0 = a1_0 then (if a0_1 = a1_1 then (if a0_2 = a1_2 then (some true) else (some false)) else (some false)) else (some false)) = some r:=h
 clear h
 by_cases c3 : a0_0 = a1_0
 ·rw [if_pos c3] at H
  have c3b0 : (a0_0 == a1_0) = true:=beq_iff_eq.mpr c3
  have c3b1 : (a0_0 != a1_0) = false:=bne_eq_false_iff_eq.mpr c3
  clear c3
  by_cases c4 : a0_1 = a1_1
  ·rw [if_pos c4] at H
   have c4b0 : (a0_1 == a1_1) = true:=beq_iff_eq.mpr c4
   have c4b1 : (a0_1 != a1_1) = false:=bne_eq_false_iff_eq.mpr c4
   clear c4
   by_cases c5 : a0_2 = a1_2
   ·rw [if_pos c5] at H
    have c5b0 : (a0_2 == a1_2) = true:=beq_iff_eq.mpr c5
    have c5b1 : (a0_2 != a1_2) = false:=bne_eq_false_iff_eq.mpr c5
    clear c5
    obtain rfl:=Option.some.inj H
    go_enter Tryd.func33,Tryd.ntmps33
    go_wp2_with (first|((with_reducible refine gate_dst (N:=2) rfl ?_);refine box_event ?hg (N:=2) ?hd (cs:=#[.int .i64 a0_0,.int .i64 a0_1,.int .i64 a0_2]) (t:=39) ?hr ?_;(case hd => rfl);(case hg => rfl);(case hr => first|(go_simp;done)|(go_simp;rfl));intro gb193 hg w6 hbox hb;have n0_:=mk_ (st_ (qb_ HB) hb);have n1_:=mk_ (hbox);have n2_:=mk_ ((by rw [hg];exact (bz_ (qb_ HB)) : w.heap.size ≤ gb193));have n3_:=mk_ ((by rw [hg];exact (bz_ (qb_ HB)) : w.heap.size ≤ gb193));clear HB;have HB:=n0_;have BK193:=n1_;have GW193:=n2_;have GE193:=n3_;clear n0_ n1_ n2_ n3_ hb hbox hg)|((with_reducible refine gate_dst (N:=3) rfl ?_);refine box_event ?hg (N:=3) ?hd (cs:=#[.int .i64 a1_0,.int .i64 a1_1,.int .i64 a1_2]) (t:=39) ?hr ?_;(case hd => rfl);(case hg => rfl);(case hr => first|(go_simp;done)|(go_simp;rfl));intro gb194 hg w7 hbox hb;have n0_:=mk_ (blk_below (g:=gb193) (o:=.cells #[.int .i64 a0_0,.int .i64 a0_1,.int .i64 a0_2] 39 (0,0)) (qk_ BK193) hb);have n1_:=mk_ (st_ (qc_ HB GE193) hb);have n2_:=mk_ (hbox);have n3_:=mk_ ((by rw [hg];exact (bz_ (qc_ HB GE193)) : w.heap.size ≤ gb194));have n4_:=mk_ ((by rw [hg];exact (bz_ (qc_ HB GE193)) : w.heap.size ≤ gb194));have n5_:=mk_ ((by rw [hg];exact Nat.ne_of_lt (blk_lt (g:=gb193) (o:=.cells #[.int .i64 a0_0,.int .i64 a0_1,.int .i64 a0_2] 39 (0,0)) (qk_ BK193)) : gb193 ≠ gb194));have n6_:=mk_ ((by rw [hg];exact Nat.ne_of_gt (blk_lt (g:=gb193) (o:=.cells #[.int .i64 a0_0,.int .i64 a0_1,.int .i64 a0_2] 39 (0,0)) (qk_ BK193)) : gb194 ≠ gb193));clear BK193 HB;have BK193:=n0_;have HB:=n1_;have BK194:=n2_;have GW194:=n3_;have GE194:=n4_;have NB193_194:=n5_;have NB194_193:=n6_;clear n0_ n1_ n2_ n3_ n4_ n5_ n6_ hb hbox hg;have hnb8:=NB193_194.out;have hnc8:=NB194_193.out;have hcz9_0 : w7.cell? ⟨gb193,0,none⟩ = some (.int .i64 a0_0):=(bc_ BK193.out 0).trans rfl;have hcz9_1 : w7.cell? ⟨gb193,1,none⟩ = some (.int .i64 a0_1):=(bc_ BK193.out 1).trans rfl;have hcz9_2 : w7.cell? ⟨gb193,2,none⟩ = some (.int .i64 a0_2):=(bc_ BK193.out 2).trans rfl;have hfz9_0:=bf_ BK193.out 0;have hfz9_1:=bf_ BK193.out 1;have hfz9_2:=bf_ BK193.out 2;have hcz10_0 : w7.cell? ⟨gb194,0,none⟩ = some (.int .i64 a1_0):=(bc_ BK194.out 0).trans rfl;have hcz10_1 : w7.cell? ⟨gb194,1,none⟩ = some (.int .i64 a1_1):=(bc_ BK194.out 1).trans rfl;have hcz10_2 : w7.cell? ⟨gb194,2,none⟩ = some (.int .i64 a1_2):=(bc_ BK194.out 2).trans rfl;have hfz10_0:=bf_ BK194.out 0;have hfz10_1:=bf_ BK194.out 1;have hfz10_2:=bf_ BK194.out 2))
    go_ret
    exact ⟨qe_,u2_ HB GE193 GE194⟩
   ·rw [if_neg c5] at H
    have c5b0 : (a0_2 == a1_2) = false:=beq_eq_false_iff_ne.mpr c5
    have c5b1 : (a0_2 != a1_2) = true:=bne_iff_ne.mpr c5
    obtain rfl:=Option.some.inj H
    go_enter Tryd.func33,Tryd.ntmps33
    go_wp2_with (first|((with_reducible refine gate_dst (N:=2) rfl ?_);refine box_event ?hg (N:=2) ?hd (cs:=#[.int .i64 a0_0,.int .i64 a0_1,.int .i64 a0_2]) (t:=39) ?hr ?_;(case hd => rfl);(case hg => rfl);(case hr => first|(go_simp;done)|(go_simp;rfl));intro gb193 hg w11 hbox hb;have n0_:=mk_ (st_ (qb_ HB) hb);have n1_:=mk_ (hbox);have n2_:=mk_ ((by rw [hg];exact (bz_ (qb_ HB)) : w.heap.size ≤ gb193));have n3_:=mk_ ((by rw [hg];exact (bz_ (qb_ HB)) : w.heap.size ≤ gb193));clear HB;have HB:=n0_;have BK193:=n1_;have GW193:=n2_;have GE193:=n3_;clear n0_ n1_ n2_ n3_ hb hbox hg)|((with_reducible refine gate_dst (N:=3) rfl ?_);refine box_event ?hg (N:=3) ?hd (cs:=#[.int .i64 a1_0,.int .i64 a1_1,.int .i64 a1_2]) (t:=39) ?hr ?_;(case hd => rfl);(case hg => rfl);(case hr => first|(go_simp;done)|(go_simp;rfl));intro gb194 hg w12 hbox hb;have n0_:=mk_ (blk_below (g:=gb193) (o:=.cells #[.int .i64 a0_0,.int .i64 a0_1,.int .i64 a0_2] 39 (0,0)) (qk_ BK193) hb);have n1_:=mk_ (st_ (qc_ HB GE193) hb);have n2_:=mk_ (hbox);have n3_:=mk_ ((by rw [hg];exact (bz_ (qc_ HB GE193)) : w.heap.size ≤ gb194));have n4_:=mk_ ((by rw [hg];exact (bz_ (qc_ HB GE193)) : w.heap.size ≤ gb194));have n5_:=mk_ ((by rw [hg];exact Nat.ne_of_lt (blk_lt (g:=gb193) (o:=.cells #[.int .i64 a0_0,.int .i64 a0_1,.int .i64 a0_2] 39 (0,0)) (qk_ BK193)) : gb193 ≠ gb194));have n6_:=mk_ ((by rw [hg];exact Nat.ne_of_gt (blk_lt (g:=gb193) (o:=.cells #[.int .i64 a0_0,.int .i64 a0_1,.int .i64 a0_2] 39 (0,0)) (qk_ BK193)) : gb194 ≠ gb193));clear BK193 HB;have BK193:=n0_;have HB:=n1_;have BK194:=n2_;have GW194:=n3_;have GE194:=n4_;have NB193_194:=n5_;have NB194_193:=n6_;clear n0_ n1_ n2_ n3_ n4_ n5_ n6_ hb hbox hg;have hnb13:=NB193_194.out;have hnc13:=NB194_193.out;have hcz14_0 : w12.cell? ⟨gb193,0,none⟩ = some (.int .i64 a0_0):=(bc_ BK193.out 0).trans rfl;have hcz14_1 : w12.cell? ⟨gb193,1,none⟩ = some (.int .i64 a0_1):=(bc_ BK193.out 1).trans rfl;have hcz14_2 : w12.cell? ⟨gb193,2,none⟩ = some (.int .i64 a0_2):=(bc_ BK193.out 2).trans rfl;have hfz14_0:=bf_ BK193.out 0;have hfz14_1:=bf_ BK193.out 1;have hfz14_2:=bf_ BK193.out 2;have hcz15_0 : w12.cell? ⟨gb194,0,none⟩ = some (.int .i64 a1_0):=(bc_ BK194.out 0).trans rfl;have hcz15_1 : w12.cell? ⟨gb194,1,none⟩ = some (.int .i64 a1_1):=(bc_ BK194.out 1).trans rfl;have hcz15_2 : w12.cell? ⟨gb194,2,none⟩ = some (.int .i64 a1_2):=(bc_ BK194.out 2).trans rfl;have hfz15_0:=bf_ BK194.out 0;have hfz15_1:=bf_ BK194.out 1;have hfz15_2:=bf_ BK194.out 2))
    go_ret
    exact ⟨qe_,u2_ HB GE193 GE194⟩
  ·rw [if_neg c4] at H
   have c4b0 : (a0_1 == a1_1) = false:=beq_eq_false_iff_ne.mpr c4
   have c4b1 : (a0_1 != a1_1) = true:=bne_iff_ne.mpr c4
   obtain rfl:=Option.some.inj H
   go_enter Tryd.func33,Tryd.ntmps33
   go_wp2_with (first|((with_reducible refine gate_dst (N:=2) rfl ?_);refine box_event ?hg (N:=2) ?hd (cs:=#[.int .i64 a0_0,.int .i64 a0_1,.int .i64 a0_2]) (t:=39) ?hr ?_;(case hd => rfl);(case hg => rfl);(case hr => first|(go_simp;done)|(go_simp;rfl));intro gb193 hg w16 hbox hb;have n0_:=mk_ (st_ (qb_ HB) hb);have n1_:=mk_ (hbox);have n2_:=mk_ ((by rw [hg];exact (bz_ (qb_ HB)) : w.heap.size ≤ gb193));have n3_:=mk_ ((by rw [hg];exact (bz_ (qb_ HB)) : w.heap.size ≤ gb193));clear HB;have HB:=n0_;have BK193:=n1_;have GW193:=n2_;have GE193:=n3_;clear n0_ n1_ n2_ n3_ hb hbox hg)|((with_reducible refine gate_dst (N:=3) rfl ?_);refine box_event ?hg (N:=3) ?hd (cs:=#[.int .i64 a1_0,.int .i64 a1_1,.int .i64 a1_2]) (t:=39) ?hr ?_;(case hd => rfl);(case hg => rfl);(case hr => first|(go_simp;done)|(go_simp;rfl));intro gb194 hg w17 hbox hb;have n0_:=mk_ (blk_below (g:=gb193) (o:=.cells #[.int .i64 a0_0,.int .i64 a0_1,.int .i64 a0_2] 39 (0,0)) (qk_ BK193) hb);have n1_:=mk_ (st_ (qc_ HB GE193) hb);have n2_:=mk_ (hbox);have n3_:=mk_ ((by rw [hg];exact (bz_ (qc_ HB GE193)) : w.heap.size ≤ gb194));have n4_:=mk_ ((by rw [hg];exact (bz_ (qc_ HB GE193)) : w.heap.size ≤ gb194));have n5_:=mk_ ((by rw [hg];exact Nat.ne_of_lt (blk_lt (g:=gb193) (o:=.cells #[.int .i64 a0_0,.int .i64 a0_1,.int .i64 a0_2] 39 (0,0)) (qk_ BK193)) : gb193 ≠ gb194));have n6_:=mk_ ((by rw [hg];exact Nat.ne_of_gt (blk_lt (g:=gb193) (o:=.cells #[.int .i64 a0_0,.int .i64 a0_1,.int .i64 a0_2] 39 (0,0)) (qk_ BK193)) : gb194 ≠ gb193));clear BK193 HB;have BK193:=n0_;have HB:=n1_;have BK194:=n2_;have GW194:=n3_;have GE194:=n4_;have NB193_194:=n5_;have NB194_193:=n6_;clear n0_ n1_ n2_ n3_ n4_ n5_ n6_ hb hbox hg;have hnb18:=NB193_194.out;have hnc18:=NB194_193.out;have hcz19_0 : w17.cell? ⟨gb193,0,none⟩ = some (.int .i64 a0_0):=(bc_ BK193.out 0).trans rfl;have hcz19_1 : w17.cell? ⟨gb193,1,none⟩ = some (.int .i64 a0_1):=(bc_ BK193.out 1).trans rfl;have hcz19_2 : w17.cell? ⟨gb193,2,none⟩ = some (.int .i64 a0_2):=(bc_ BK193.out 2).trans rfl;have hfz19_0:=bf_ BK193.out 0;have hfz19_1:=bf_ BK193.out 1;have hfz19_2:=bf_ BK193.out 2;have hcz20_0 : w17.cell? ⟨gb194,0,none⟩ = some (.int .i64 a1_0):=(bc_ BK194.out 0).trans rfl;have hcz20_1 : w17.cell? ⟨gb194,1,none⟩ = some (.int .i64 a1_1):=(bc_ BK194.out 1).trans rfl;have hcz20_2 : w17.cell? ⟨gb194,2,none⟩ = some (.int .i64 a1_2):=(bc_ BK194.out 2).trans rfl;have hfz20_0:=bf_ BK194.out 0;have hfz20_1:=bf_ BK194.out 1;have hfz20_2:=bf_ BK194.out 2))
   go_ret
   exact ⟨qe_,u2_ HB GE193 GE194⟩
 ·rw [if_neg c3] at H
  have c3b0 : (a0_0 == a1_0) = false:=beq_eq_false_iff_ne.mpr c3
  have c3b1 : (a0_0 != a1_0) = true:=bne_iff_ne.mpr c3
  obtain rfl:=Option.some.inj H
  go_enter Tryd.func33,Tryd.ntmps33
  go_wp2_with (first|((with_reducible refine gate_dst (N:=2) rfl ?_);refine box_event ?hg (N:=2) ?hd (cs:=#[.int .i64 a0_0,.int .i64 a0_1,.int .i64 a0_2]) (t:=39) ?hr ?_;(case hd => rfl);(case hg => rfl);(case hr => first|(go_simp;done)|(go_simp;rfl));intro gb193 hg w21 hbox hb;have n0_:=mk_ (st_ (qb_ HB) hb);have n1_:=mk_ (hbox);have n2_:=mk_ ((by rw [hg];exact (bz_ (qb_ HB)) : w.heap.size ≤ gb193));have n3_:=mk_ ((by rw [hg];exact (bz_ (qb_ HB)) : w.heap.size ≤ gb193));clear HB;have HB:=n0_;have BK193:=n1_;have GW193:=n2_;have GE193:=n3_;clear n0_ n1_ n2_ n3_ hb hbox hg)|((with_reducible refine gate_dst (N:=3) rfl ?_);refine box_event ?hg (N:=3) ?hd (cs:=#[.int .i64 a1_0,.int .i64 a1_1,.int .i64 a1_2]) (t:=39) ?hr ?_;(case hd => rfl);(case hg => rfl);(case hr => first|(go_simp;done)|(go_simp;rfl));intro gb194 hg w22 hbox hb;have n0_:=mk_ (blk_below (g:=gb193) (o:=.cells #[.int .i64 a0_0,.int .i64 a0_1,.int .i64 a0_2] 39 (0,0)) (qk_ BK193) hb);have n1_:=mk_ (st_ (qc_ HB GE193) hb);have n2_:=mk_ (hbox);have n3_:=mk_ ((by rw [hg];exact (bz_ (qc_ HB GE193)) : w.heap.size ≤ gb194));have n4_:=mk_ ((by rw [hg];exact (bz_ (qc_ HB GE193)) : w.heap.size ≤ gb194));have n5_:=mk_ ((by rw [hg];exact Nat.ne_of_lt (blk_lt (g:=gb193) (o:=.cells #[.int .i64 a0_0,.int .i64 a0_1,.int .i64 a0_2] 39 (0,0)) (qk_ BK193)) : gb193 ≠ gb194));have n6_:=mk_ ((by rw [hg];exact Nat.ne_of_gt (blk_lt (g:=gb193) (o:=.cells #[.int .i64 a0_0,.int .i64 a0_1,.int .i64 a0_2] 39 (0,0)) (qk_ BK193)) : gb194 ≠ gb193));clear BK193 HB;have BK193:=n0_;have HB:=n1_;have BK194:=n2_;have GW194:=n3_;have GE194:=n4_;have NB193_194:=n5_;have NB194_193:=n6_;clear n0_ n1_ n2_ n3_ n4_ n5_ n6_ hb hbox hg;have hnb23:=NB193_194.out;have hnc23:=NB194_193.out;have hcz24_0 : w22.cell? ⟨gb193,0,none⟩ = some (.int .i64 a0_0):=(bc_ BK193.out 0).trans rfl;have hcz24_1 : w22.cell? ⟨gb193,1,none⟩ = some (.int .i64 a0_1):=(bc_ BK193.out 1).trans rfl;have hcz24_2 : w22.cell? ⟨gb193,2,none⟩ = some (.int .i64 a0_2):=(bc_ BK193.out 2).trans rfl;have hfz24_0:=bf_ BK193.out 0;have hfz24_1:=bf_ BK193.out 1;have hfz24_2:=bf_ BK193.out 2;have hcz25_0 : w22.cell? ⟨gb194,0,none⟩ = some (.int .i64 a1_0):=(bc_ BK194.out 0).trans rfl;have hcz25_1 : w22.cell? ⟨gb194,1,none⟩ = some (.int .i64 a1_1):=(bc_ BK194.out 1).trans rfl;have hcz25_2 : w22.cell? ⟨gb194,2,none⟩ = some (.int .i64 a1_2):=(bc_ BK194.out 2).trans rfl;have hfz25_0:=bf_ BK194.out 0;have hfz25_1:=bf_ BK194.out 1;have hfz25_2:=bf_ BK194.out 2))
  go_ret
  exact ⟨qe_,u2_ HB GE193 GE194⟩

/-! ### laws_eqCableS: function 19 -/
def laws_eqCableS.l0 : Nat → List (S39) → List (S39) → Int → Option (Bool)
 | 0,_,_,_ => none
 | k + 1,x0,x1,x5 => if x5 < (x0.length : Int) then (if 0 ≤ x5 then (if x5 < (x1.length : Int) then ((laws_eqCable.f ((rd_T39 x0 x5).f0) ((rd_T39 x0 x5).f1) ((rd_T39 x0 x5).f2) ((rd_T39 x1 x5).f0) ((rd_T39 x1 x5).f1) ((rd_T39 x1 x5).f2)).bind fun t197 => (if t197 = true then (laws_eqCableS.l0 k x0 x1 (wrap64 (x5 + 1))) else (some false))) else (none)) else (none)) else (some true)
def laws_eqCableS.f (k : Nat) (l0 : List (S39)) (l1 : List (S39)) : Option (Bool):=if (l0.length : Int) = (l1.length : Int) then (laws_eqCableS.l0 k l0 l1 0) else (some false)
theorem laws_eqCableS.mono_l : ∀ k,(∀ y0 y1 y2,LeO (laws_eqCableS.l0 k y0 y1 y2) (laws_eqCableS.l0 (k + 1) y0 y1 y2))
 | 0 => fun _ _ _ r h => by simp [laws_eqCableS.l0] at h
 | k + 1 => by
  have ih0:=laws_eqCableS.mono_l k
  ·intro y0 y1 y2
   unfold laws_eqCableS.l0
   repeat' first
   | (with_reducible exact ih0 _ _ _)
   | (with_reducible exact LeO.refl _)
   | (with_reducible exact LeO.none _)
   | (with_reducible refine LeO.ite ?_ ?_)
   | (with_reducible refine LeO.bind ?_ (fun _ => ?_))
   | exact ih0 _ _ _
   | exact LeO.none _
   | refine LeO.ite ?_ ?_
   | refine LeO.bind ?_ (fun _ => ?_)
theorem laws_eqCableS.mono : ∀ a0 a1 k,LeO (laws_eqCableS.f k a0 a1) (laws_eqCableS.f (k + 1) a0 a1):=by
 intro a0 a1 k
 have ih0:=laws_eqCableS.mono_l k
 unfold laws_eqCableS.f
 repeat' first
   | (with_reducible exact ih0 _ _ _)
   | (with_reducible exact LeO.refl _)
   | (with_reducible exact LeO.none _)
   | (with_reducible refine LeO.ite ?_ ?_)
   | (with_reducible refine LeO.bind ?_ (fun _ => ?_))
   | exact ih0 _ _ _
   | exact LeO.none _
   | refine LeO.ite ?_ ?_
   | refine LeO.bind ?_ (fun _ => ?_)
def laws_eqCableS.T6 : Bool × List (List Nat × List Nat):=(true,[([],[]),([],[]),([0,1],[0,1]),([2],[2]),([],[]),([],[]),([4,5],[4,5]),([6],[6]),([3,7],[3,7]),([8],[8])])
def laws_eqCableS.B6 : List Nat:=[0,0,3,7,0,0,48,112,255,511]
theorem laws_eqCableS.tab6 : rtab .any (opsOf Tryd.f19 6) = laws_eqCableS.T6:=by kernel_rfl
theorem laws_eqCableS.bits6 : waitsOk laws_eqCableS.T6.2 laws_eqCableS.B6 = true:=by kernel_rfl
set_option maxHeartbeats 8000000 in
set_option maxRecDepth 100000 in
theorem laws_eqCableS.calls (k : Nat) (A0 : Option Addr) (c0 : Nat) (l0 : List (S39)) (A1 : Option Addr) (c1 : Nat) (l1 : List (S39)) (r : Bool) (w : World) (hr0 : Kd.C k39 w A0 l0.length l0) (hc0 : l0.length ≤ c0) (hr1 : Kd.C k39 w A1 l1.length l1) (hc1 : l1.length ≤ c1) (h : laws_eqCableS.f k l0 l1 = some r) :
  Calls Tryd.prog 19 #[.slice A0 l0.length c0,.slice A1 l1.length c1] w fun e w' => e = .returned (.bool r) ∧ Below w.heap.size w w':=by
 have hu39:=Tryd.underlying39
 have HR0:=mk_ hr0
 have HC0:=mk_ hc0
 clear hr0 hc0
 have HR1:=mk_ hr1
 have HC1:=mk_ hc1
 clear hr1 hc1
 have HB:=mk_ (Below.refl w.heap.size w)
 have H : (if (l0.length : Int) = (l1.length : Int) then (laws_eqCableS.l0 k l0 l1 0) else (some false)) = some r:=h
 clear h
 by_cases c3 : (l0.length : Int) = (l1.length : Int)
 ·rw [if_pos c3] at H
  have c3b0 : ((l0.length : Int) == (l1.length : Int)) = true:=beq_iff_eq.mpr c3
  have c3b1 : ((l0.length : Int) != (l1.length : Int)) = false:=bne_eq_false_iff_eq.mpr c3
  have c3b2 : (l0.length == l1.length) = true:=by first|simpa using c3|(simp at c3 ⊢;omega)
  clear c3
  have H':=mk_ H
  clear H
  go_enter Tryd.func19,Tryd.ntmps19
  go_wp2
  go_loopg [5] k (fun kq v5 w' => ∃ (x5_1 : Int),v5 = .int .i64 x5_1 ∧ Aside0 (laws_eqCableS.l0 kq l0 l1 x5_1 = some r) ∧ Aside0 (kq ≤ k) ∧ Aside0 (Below w.heap.size w w'))
  case atStart => exact ⟨(0),qf_,H',⟨Nat.le_refl _⟩,⟨u1_ HB⟩⟩
  case round =>
   clear H'
   try clear c1
   try clear p2
   try clear c3
   try clear c3b0
   try clear c3b1
   try clear c3b2
   obtain ⟨x5_1,rfl,HA,HK1,HB⟩:=hrel
   cases gk with
   | zero => exact absurd HA.out (by simp [laws_eqCableS.l0])
   | succ k1 =>
    have H:=HA.out
    clear HA
    simp only [laws_eqCableS.l0] at H
    by_cases c4 : x5_1 < (l0.length : Int)
    ·rw [if_pos c4] at H
     have c4b0 : decide (x5_1 < (l0.length : Int)) = true:=decide_eq_true c4
     clear c4
     by_cases c5 : 0 ≤ x5_1
     ·rw [if_pos c5] at H
      have c5b0 : decide (0 ≤ x5_1) = true:=decide_eq_true c5
      clear c5
      by_cases c6 : x5_1 < (l1.length : Int)
      ·rw [if_pos c6] at H
       have c6b0 : decide (x5_1 < (l1.length : Int)) = true:=decide_eq_true c6
       clear c6
       replace H:=Option.bind_eq_some_iff.mp H
       obtain ⟨t197,A70,H⟩:=H
       replace H : (if t197 = true then (laws_eqCableS.l0 k1 l0 l1 (wrap64 (x5_1 + 1))) else (some false)) = some r:=H
       have A7:=mk_ A70
       clear A70
       by_cases c8 : t197 = true
       ·subst c8
        have H1 : (laws_eqCableS.l0 k1 l0 l1 (wrap64 (x5_1 + 1))) = some r:=by rw [if_pos rfl] at H;exact H
        clear H
        have H:=H1
        clear H1
        have H':=mk_ H
        clear H
        try go_wp2
        have n0_:=mk_ (bd_ HB.out)
        clear HB
        have HB:=n0_
        clear n0_
        have p195 : 0 ≤ (x5_1 : Int):=od_ qa_
        have q195 : x5_1 < (l0.length : Int):=od_ qa_
        obtain ⟨ad195,e195,hx195_0,hx195_1,hx195_2⟩:=at_T39 HR0.out x5_1 p195 q195
        have hw195_2:=hx195_2
        have hw195_1:=hx195_1
        have hw195_0:=hx195_0
        cases e195
        replace hx195_0:=(HB.out.cell (wl_ w _ hx195_0)).trans hx195_0
        replace hx195_1:=(HB.out.cell (wl_ w _ hx195_1)).trans hx195_1
        replace hx195_2:=(HB.out.cell (wl_ w _ hx195_2)).trans hx195_2
        replace p195:=eq_true p195
        replace q195:=eq_true q195
        have p196 : 0 ≤ (x5_1 : Int):=od_ qa_
        have q196 : x5_1 < (l1.length : Int):=od_ qa_
        obtain ⟨ad196,e196,hx196_0,hx196_1,hx196_2⟩:=at_T39 HR1.out x5_1 p196 q196
        have hw196_2:=hx196_2
        have hw196_1:=hx196_1
        have hw196_0:=hx196_0
        cases e196
        replace hx196_0:=(HB.out.cell (wl_ w _ hx196_0)).trans hx196_0
        replace hx196_1:=(HB.out.cell (wl_ w _ hx196_1)).trans hx196_1
        replace hx196_2:=(HB.out.cell (wl_ w _ hx196_2)).trans hx196_2
        replace p196:=eq_true p196
        replace q196:=eq_true q196
        refine start_ (n:=10) (S:=fun w' => w'.cell? (ad195.add ((x5_1).toNat * 3)) = some (.int .i64 ((rd_T39 l0 x5_1).f0)) ∧ w'.cell? ⟨(ad195.add ((x5_1).toNat * 3)).block,(ad195.add ((x5_1).toNat * 3)).off + 1,none⟩ = some (.int .i64 ((rd_T39 l0 x5_1).f1)) ∧ w'.cell? ⟨(ad195.add ((x5_1).toNat * 3)).block,(ad195.add ((x5_1).toNat * 3)).off + 2,none⟩ = some (.int .i64 ((rd_T39 l0 x5_1).f2)) ∧ w'.cell? (ad196.add ((x5_1).toNat * 3)) = some (.int .i64 ((rd_T39 l1 x5_1).f0)) ∧ w'.cell? ⟨(ad196.add ((x5_1).toNat * 3)).block,(ad196.add ((x5_1).toNat * 3)).off + 1,none⟩ = some (.int .i64 ((rd_T39 l1 x5_1).f1)) ∧ w'.cell? ⟨(ad196.add ((x5_1).toNat * 3)).block,(ad196.add ((x5_1).toNat * 3)).off + 2,none⟩ = some (.int .i64 ((rd_T39 l1 x5_1).f2))) (ds:=[]) #[false,false,false,false,false,false,false,false,false,false] (by kernel_rfl) rfl rfl ⟨((HB.out.cell (wl_ w _ hw195_0)).trans hw195_0),((HB.out.cell (wl_ w _ hw195_1)).trans hw195_1),((HB.out.cell (wl_ w _ hw195_2)).trans hw195_2),((HB.out.cell (wl_ w _ hw196_0)).trans hw196_0),((HB.out.cell (wl_ w _ hw196_1)).trans hw196_1),((HB.out.cell (wl_ w _ hw196_2)).trans hw196_2)⟩ (fun hHeld => ?_);refine with_tabW laws_eqCableS.tab6 laws_eqCableS.bits6 (fun HT_ HW_ => ?_)
        generalize wr.drew = w9 at HB hx195_0 hx195_1 hx195_2 hx196_0 hx196_1 hx196_2 hHeld ⊢
        refine pure_ (i:=0) (N:=some 17) (v:=?_) (a':=?_) #[true,false,false,false,false,false,false,false,false,false] rfl rfl (any_of HT_.out (by kernel_rfl)) (fun _ _ _ h => h) (Or.inl ⟨by rfl,?_⟩) ?_ ?_
        rotate_left
        ·intro w'
         go_simp
         with_reducible rfl
        rotate_left
        ·simp only [Act.put,sx_,sy_,sz_,i64_w,i32_w]
         rfl
        refine pure_ (i:=1) (N:=some 18) (v:=?_) (a':=?_) #[true,true,false,false,false,false,false,false,false,false] rfl rfl (any_of HT_.out (by kernel_rfl)) (fun _ _ _ h => h) (Or.inl ⟨by rfl,?_⟩) ?_ ?_
        rotate_left
        ·intro w'
         go_simp
         with_reducible rfl
        rotate_left
        ·simp only [Act.put,sx_,sy_,sz_,i64_w,i32_w]
         rfl
        refine pure_ (i:=2) (N:=some 19) (v:=?_) (a':=?_) #[true,true,true,false,false,false,false,false,false,false] rfl rfl (any_of HT_.out (by kernel_rfl)) (fun _ _ _ h => h) (Or.inl ⟨by rfl,?_⟩) ?_ ?_
        rotate_left
        ·intro w'
         go_simp
         with_reducible rfl
        rotate_left
        ·simp only [Act.put,sx_,sy_,sz_,i64_w,i32_w]
         rfl
        refine pure_ (i:=4) (N:=some 21) (v:=?_) (a':=?_) #[true,true,true,false,true,false,false,false,false,false] rfl rfl (any_of HT_.out (by kernel_rfl)) (fun _ _ _ h => h) (Or.inl ⟨by rfl,?_⟩) ?_ ?_
        rotate_left
        ·intro w'
         go_simp
         with_reducible rfl
        rotate_left
        ·simp only [Act.put,sx_,sy_,sz_,i64_w,i32_w]
         rfl
        refine pure_ (i:=5) (N:=some 22) (v:=?_) (a':=?_) #[true,true,true,false,true,true,false,false,false,false] rfl rfl (any_of HT_.out (by kernel_rfl)) (fun _ _ _ h => h) (Or.inl ⟨by rfl,?_⟩) ?_ ?_
        rotate_left
        ·intro w'
         go_simp
         with_reducible rfl
        rotate_left
        ·simp only [Act.put,sx_,sy_,sz_,i64_w,i32_w]
         rfl
        refine pure_ (i:=6) (N:=some 23) (v:=?_) (a':=?_) #[true,true,true,false,true,true,true,false,false,false] rfl rfl (any_of HT_.out (by kernel_rfl)) (fun _ _ _ h => h) (Or.inl ⟨by rfl,?_⟩) ?_ ?_
        rotate_left
        ·intro w'
         go_simp
         with_reducible rfl
        rotate_left
        ·simp only [Act.put,sx_,sy_,sz_,i64_w,i32_w]
         rfl
        refine take_ (i:=3) (N:=some 20) (v:=?_) (a':=?_) #[true,true,true,true,true,true,true,false,false,false] rfl rfl (take_ofW HT_.out HW_.out (by kernel_rfl)) (fun _ _ _ h => h) (Or.inl ⟨by rfl,?_⟩) hHeld ?_ ?_
        rotate_left
        ·rintro w' ⟨s0,s1,s2,s3,s4,s5⟩
         go_simp
         with_reducible rfl
        rotate_left
        ·simp only [Act.put,sx_,sy_,sz_,i64_w,i32_w]
         rfl
        refine take_ (i:=7) (N:=some 24) (v:=?_) (a':=?_) #[true,true,true,true,true,true,true,true,false,false] rfl rfl (take_ofW HT_.out HW_.out (by kernel_rfl)) (fun _ _ _ h => h) (Or.inl ⟨by rfl,?_⟩) hHeld ?_ ?_
        rotate_left
        ·rintro w' ⟨s0,s1,s2,s3,s4,s5⟩
         go_simp
         with_reducible rfl
        rotate_left
        ·simp only [Act.put,sx_,sy_,sz_,i64_w,i32_w]
         rfl
        refine one_ (i:=8) (N:=some 25) #[true,true,true,true,true,true,true,true,true,false] rfl rfl (one_of HT_.out (by kernel_rfl)) (by decide) (fun K hK => ?_)
        refine goes_ Tryd.func33 (by kernel_rfl) rfl #[.agg #[.int .i64 ((rd_T39 l0 x5_1).f0),.int .i64 ((rd_T39 l0 x5_1).f1),.int .i64 ((rd_T39 l0 x5_1).f2)],.agg #[.int .i64 ((rd_T39 l1 x5_1).f0),.int .i64 ((rd_T39 l1 x5_1).f1),.int .i64 ((rd_T39 l1 x5_1).f2)]] (by rfl) rfl rfl qm_ ?_
        with_reducible refine (laws_eqCable.calls ((rd_T39 l0 x5_1).f0) ((rd_T39 l0 x5_1).f1) ((rd_T39 l0 x5_1).f2) ((rd_T39 l1 x5_1).f0) ((rd_T39 l1 x5_1).f1) ((rd_T39 l1 x5_1).f2) true _ A7.out).mono ?_
        rintro e w10 ⟨rfl,hb⟩
        refine ⟨_,rfl,?_⟩
        have n0_:=mk_ (st_ (qb_ HB) hb)
        clear HB
        have HB:=n0_
        clear n0_
        (try clear hb)
        (try clear hb2)
        (try clear hk)
        (try clear hi)
        refine hK.out _ _ ⟨((HB.out.cell (wl_ w _ hw195_0)).trans hw195_0),((HB.out.cell (wl_ w _ hw195_1)).trans hw195_1),((HB.out.cell (wl_ w _ hw195_2)).trans hw195_2),((HB.out.cell (wl_ w _ hw196_0)).trans hw196_0),((HB.out.cell (wl_ w _ hw196_1)).trans hw196_1),((HB.out.cell (wl_ w _ hw196_2)).trans hw196_2)⟩ (fun hHeld => ?_)
        clear hK K
        refine norm_ (a':=?_) ?_ ?_
        rotate_left
        ·show Act.put _ (some 25) _ = _
         simp only [Act.put,sx_,sy_,sz_,i64_w,i32_w]
         rfl
        refine pure_ (i:=9) (N:=some 26) (v:=?_) (a':=?_) #[true,true,true,true,true,true,true,true,true,true] rfl rfl (any_of HT_.out (by kernel_rfl)) (fun _ _ _ h => h) (Or.inl ⟨by rfl,?_⟩) ?_ ?_
        rotate_left
        ·intro w'
         go_simp
         with_reducible rfl
        rotate_left
        ·simp only [Act.put,sx_,sy_,sz_,i64_w,i32_w]
         rfl
        refine done_ (done_of HT_.out (by kernel_rfl)) ?_
        try go_wp2
        go_roundg k1
        case measure => have:=HK1.out;omega
        case rel => exact ⟨(wrap64 (x5_1 + 1)),qf_,H',⟨by have:=HK1.out;omega⟩,⟨u1_ HB⟩⟩
       ·replace c8:=Bool.eq_false_iff.mpr c8
        subst c8
        have H1 : (some false) = some r:=by rw [if_neg (show ¬ (false = true) by decide)] at H;exact H
        clear H
        have H:=H1
        clear H1
        obtain rfl:=Option.some.inj H
        try go_wp2
        have n0_:=mk_ (bd_ HB.out)
        clear HB
        have HB:=n0_
        clear n0_
        have p195 : 0 ≤ (x5_1 : Int):=od_ qa_
        have q195 : x5_1 < (l0.length : Int):=od_ qa_
        obtain ⟨ad195,e195,hx195_0,hx195_1,hx195_2⟩:=at_T39 HR0.out x5_1 p195 q195
        have hw195_2:=hx195_2
        have hw195_1:=hx195_1
        have hw195_0:=hx195_0
        cases e195
        replace hx195_0:=(HB.out.cell (wl_ w _ hx195_0)).trans hx195_0
        replace hx195_1:=(HB.out.cell (wl_ w _ hx195_1)).trans hx195_1
        replace hx195_2:=(HB.out.cell (wl_ w _ hx195_2)).trans hx195_2
        replace p195:=eq_true p195
        replace q195:=eq_true q195
        have p196 : 0 ≤ (x5_1 : Int):=od_ qa_
        have q196 : x5_1 < (l1.length : Int):=od_ qa_
        obtain ⟨ad196,e196,hx196_0,hx196_1,hx196_2⟩:=at_T39 HR1.out x5_1 p196 q196
        have hw196_2:=hx196_2
        have hw196_1:=hx196_1
        have hw196_0:=hx196_0
        cases e196
        replace hx196_0:=(HB.out.cell (wl_ w _ hx196_0)).trans hx196_0
        replace hx196_1:=(HB.out.cell (wl_ w _ hx196_1)).trans hx196_1
        replace hx196_2:=(HB.out.cell (wl_ w _ hx196_2)).trans hx196_2
        replace p196:=eq_true p196
        replace q196:=eq_true q196
        refine start_ (n:=10) (S:=fun w' => w'.cell? (ad195.add ((x5_1).toNat * 3)) = some (.int .i64 ((rd_T39 l0 x5_1).f0)) ∧ w'.cell? ⟨(ad195.add ((x5_1).toNat * 3)).block,(ad195.add ((x5_1).toNat * 3)).off + 1,none⟩ = some (.int .i64 ((rd_T39 l0 x5_1).f1)) ∧ w'.cell? ⟨(ad195.add ((x5_1).toNat * 3)).block,(ad195.add ((x5_1).toNat * 3)).off + 2,none⟩ = some (.int .i64 ((rd_T39 l0 x5_1).f2)) ∧ w'.cell? (ad196.add ((x5_1).toNat * 3)) = some (.int .i64 ((rd_T39 l1 x5_1).f0)) ∧ w'.cell? ⟨(ad196.add ((x5_1).toNat * 3)).block,(ad196.add ((x5_1).toNat * 3)).off + 1,none⟩ = some (.int .i64 ((rd_T39 l1 x5_1).f1)) ∧ w'.cell? ⟨(ad196.add ((x5_1).toNat * 3)).block,(ad196.add ((x5_1).toNat * 3)).off + 2,none⟩ = some (.int .i64 ((rd_T39 l1 x5_1).f2))) (ds:=[]) #[false,false,false,false,false,false,false,false,false,false] (by kernel_rfl) rfl rfl ⟨((HB.out.cell (wl_ w _ hw195_0)).trans hw195_0),((HB.out.cell (wl_ w _ hw195_1)).trans hw195_1),((HB.out.cell (wl_ w _ hw195_2)).trans hw195_2),((HB.out.cell (wl_ w _ hw196_0)).trans hw196_0),((HB.out.cell (wl_ w _ hw196_1)).trans hw196_1),((HB.out.cell (wl_ w _ hw196_2)).trans hw196_2)⟩ (fun hHeld => ?_);refine with_tabW laws_eqCableS.tab6 laws_eqCableS.bits6 (fun HT_ HW_ => ?_)
        generalize wr.drew = w11 at HB hx195_0 hx195_1 hx195_2 hx196_0 hx196_1 hx196_2 hHeld ⊢
        refine pure_ (i:=0) (N:=some 17) (v:=?_) (a':=?_) #[true,false,false,false,false,false,false,false,false,false] rfl rfl (any_of HT_.out (by kernel_rfl)) (fun _ _ _ h => h) (Or.inl ⟨by rfl,?_⟩) ?_ ?_
        rotate_left
        ·intro w'
         go_simp
         with_reducible rfl
        rotate_left
        ·simp only [Act.put,sx_,sy_,sz_,i64_w,i32_w]
         rfl
        refine pure_ (i:=1) (N:=some 18) (v:=?_) (a':=?_) #[true,true,false,false,false,false,false,false,false,false] rfl rfl (any_of HT_.out (by kernel_rfl)) (fun _ _ _ h => h) (Or.inl ⟨by rfl,?_⟩) ?_ ?_
        rotate_left
        ·intro w'
         go_simp
         with_reducible rfl
        rotate_left
        ·simp only [Act.put,sx_,sy_,sz_,i64_w,i32_w]
         rfl
        refine pure_ (i:=2) (N:=some 19) (v:=?_) (a':=?_) #[true,true,true,false,false,false,false,false,false,false] rfl rfl (any_of HT_.out (by kernel_rfl)) (fun _ _ _ h => h) (Or.inl ⟨by rfl,?_⟩) ?_ ?_
        rotate_left
        ·intro w'
         go_simp
         with_reducible rfl
        rotate_left
        ·simp only [Act.put,sx_,sy_,sz_,i64_w,i32_w]
         rfl
        refine pure_ (i:=4) (N:=some 21) (v:=?_) (a':=?_) #[true,true,true,false,true,false,false,false,false,false] rfl rfl (any_of HT_.out (by kernel_rfl)) (fun _ _ _ h => h) (Or.inl ⟨by rfl,?_⟩) ?_ ?_
        rotate_left
        ·intro w'
         go_simp
         with_reducible rfl
        rotate_left
        ·simp only [Act.put,sx_,sy_,sz_,i64_w,i32_w]
         rfl
        refine pure_ (i:=5) (N:=some 22) (v:=?_) (a':=?_) #[true,true,true,false,true,true,false,false,false,false] rfl rfl (any_of HT_.out (by kernel_rfl)) (fun _ _ _ h => h) (Or.inl ⟨by rfl,?_⟩) ?_ ?_
        rotate_left
        ·intro w'
         go_simp
         with_reducible rfl
        rotate_left
        ·simp only [Act.put,sx_,sy_,sz_,i64_w,i32_w]
         rfl
        refine pure_ (i:=6) (N:=some 23) (v:=?_) (a':=?_) #[true,true,true,false,true,true,true,false,false,false] rfl rfl (any_of HT_.out (by kernel_rfl)) (fun _ _ _ h => h) (Or.inl ⟨by rfl,?_⟩) ?_ ?_
        rotate_left
        ·intro w'
         go_simp
         with_reducible rfl
        rotate_left
        ·simp only [Act.put,sx_,sy_,sz_,i64_w,i32_w]
         rfl
        refine take_ (i:=3) (N:=some 20) (v:=?_) (a':=?_) #[true,true,true,true,true,true,true,false,false,false] rfl rfl (take_ofW HT_.out HW_.out (by kernel_rfl)) (fun _ _ _ h => h) (Or.inl ⟨by rfl,?_⟩) hHeld ?_ ?_
        rotate_left
        ·rintro w' ⟨s0,s1,s2,s3,s4,s5⟩
         go_simp
         with_reducible rfl
        rotate_left
        ·simp only [Act.put,sx_,sy_,sz_,i64_w,i32_w]
         rfl
        refine take_ (i:=7) (N:=some 24) (v:=?_) (a':=?_) #[true,true,true,true,true,true,true,true,false,false] rfl rfl (take_ofW HT_.out HW_.out (by kernel_rfl)) (fun _ _ _ h => h) (Or.inl ⟨by rfl,?_⟩) hHeld ?_ ?_
        rotate_left
        ·rintro w' ⟨s0,s1,s2,s3,s4,s5⟩
         go_simp
         with_reducible rfl
        rotate_left
        ·simp only [Act.put,sx_,sy_,sz_,i64_w,i32_w]
         rfl
        refine one_ (i:=8) (N:=some 25) #[true,true,true,true,true,true,true,true,true,false] rfl rfl (one_of HT_.out (by kernel_rfl)) (by decide) (fun K hK => ?_)
        refine goes_ Tryd.func33 (by kernel_rfl) rfl #[.agg #[.int .i64 ((rd_T39 l0 x5_1).f0),.int .i64 ((rd_T39 l0 x5_1).f1),.int .i64 ((rd_T39 l0 x5_1).f2)],.agg #[.int .i64 ((rd_T39 l1 x5_1).f0),.int .i64 ((rd_T39 l1 x5_1).f1),.int .i64 ((rd_T39 l1 x5_1).f2)]] (by rfl) rfl rfl qm_ ?_
        with_reducible refine (laws_eqCable.calls ((rd_T39 l0 x5_1).f0) ((rd_T39 l0 x5_1).f1) ((rd_T39 l0 x5_1).f2) ((rd_T39 l1 x5_1).f0) ((rd_T39 l1 x5_1).f1) ((rd_T39 l1 x5_1).f2) false _ A7.out).mono ?_
        rintro e w12 ⟨rfl,hb⟩
        refine ⟨_,rfl,?_⟩
        have n0_:=mk_ (st_ (qb_ HB) hb)
        clear HB
        have HB:=n0_
        clear n0_
        (try clear hb)
        (try clear hb2)
        (try clear hk)
        (try clear hi)
        refine hK.out _ _ ⟨((HB.out.cell (wl_ w _ hw195_0)).trans hw195_0),((HB.out.cell (wl_ w _ hw195_1)).trans hw195_1),((HB.out.cell (wl_ w _ hw195_2)).trans hw195_2),((HB.out.cell (wl_ w _ hw196_0)).trans hw196_0),((HB.out.cell (wl_ w _ hw196_1)).trans hw196_1),((HB.out.cell (wl_ w _ hw196_2)).trans hw196_2)⟩ (fun hHeld => ?_)
        clear hK K
        refine norm_ (a':=?_) ?_ ?_
        rotate_left
        ·show Act.put _ (some 25) _ = _
         simp only [Act.put,sx_,sy_,sz_,i64_w,i32_w]
         rfl
        refine pure_ (i:=9) (N:=some 26) (v:=?_) (a':=?_) #[true,true,true,true,true,true,true,true,true,true] rfl rfl (any_of HT_.out (by kernel_rfl)) (fun _ _ _ h => h) (Or.inl ⟨by rfl,?_⟩) ?_ ?_
        rotate_left
        ·intro w'
         go_simp
         with_reducible rfl
        rotate_left
        ·simp only [Act.put,sx_,sy_,sz_,i64_w,i32_w]
         rfl
        refine done_ (done_of HT_.out (by kernel_rfl)) ?_
        try go_wp2
        go_ret
        exact ⟨qe_,u1_ HB⟩
      ·rw [if_neg c6] at H
       exact absurd H (by simp)
     ·rw [if_neg c5] at H
      exact absurd H (by simp)
    ·rw [if_neg c4] at H
     have c4b0 : decide (x5_1 < (l0.length : Int)) = false:=decide_eq_false c4
     clear c4
     obtain rfl:=Option.some.inj H
     go_wp2
     go_ret
     exact ⟨qe_,u1_ HB⟩
 ·rw [if_neg c3] at H
  have c3b0 : ((l0.length : Int) == (l1.length : Int)) = false:=beq_eq_false_iff_ne.mpr c3
  have c3b1 : ((l0.length : Int) != (l1.length : Int)) = true:=bne_iff_ne.mpr c3
  have c3b2 : (l0.length == l1.length) = false:=by first|simpa using c3|(simp at c3 ⊢;omega)
  obtain rfl:=Option.some.inj H
  go_enter Tryd.func19,Tryd.ntmps19
  go_wp2
  go_ret
  exact ⟨qe_,u1_ HB⟩

end Go.Proofs.YtdamdcdjodmemaaDoor.PAll
