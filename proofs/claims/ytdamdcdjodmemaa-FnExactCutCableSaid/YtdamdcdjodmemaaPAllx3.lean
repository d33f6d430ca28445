/- Proved here: contracts of functions of the given program, or lemmas on them, for the laws of this seat. Written by xprint.py, a program of this session, on the ground of the kit's print; parts by hand: wip/x/ext. -/
import Derived.Test.YtdamdcdjodmemaaPAllx0
import Derived.Test.YtdamdcdjodmemaaPAllx1
import Derived.Test.YtdamdcdjodmemaaPAllx2
import Derived.Test.YtdamdcdjodmemaaPAllx4
namespace Go.Proofs.Ytdamdcdjodmemaa.PAll
open Go.RowKit Go.Proofs.YtdamdcdjodmemaaW.PrintWords Go.Proofs.YtdamdcdjodmemaaW.PrintLast Go.Proofs.YtdamdcdjodmemaaW.PrintMore
attribute [local go_sem] max2_int min2_int max_two min_two max_three min_three max_four min_four   -- for this text's walks alone
set_option linter.unusedVariables false
set_option linter.unusedSimpArgs false

/-! ### spec_CutCable: function 26 -/
mutual
def spec_CutCable.j0 : Nat → Int → Bool → Int → List (S51) → List Int → List Int → Option (Int × (List (S51)) × List Int × List Int × Bool)
 | 0,_,_,_,_,_,_ => none
 | k + 1,x1,x19,z3_,z4_,z5_,z6_ => if x19 = true then (some (0,([] : List (S51)),([] : List Int),([] : List Int),false)) else ((some (([] : List Int) : List Int)).bind fun y173 => (if y173.length + z5_.length < 17592186044416 then ((some (([] : List Int) : List Int)).bind fun y179 => (if y179.length + z6_.length < 17592186044416 then (spec_CutCable.l0 k x1 0 z3_ z4_ z5_ z6_ z3_ ([] : List (S51)) (y173 ++ z5_) (y179 ++ z6_)) else (none))) else (none)))
def spec_CutCable.l0 : Nat → Int → Int → Int → List (S51) → List Int → List Int → Int → List (S51) → List Int → List Int → Option (Int × (List (S51)) × List Int × List Int × Bool)
 | 0,_,_,_,_,_,_,_,_,_,_ => none
 | k + 1,x1,x7,z3_,z4_,z5_,z6_,z7_,z8_,z10_,z11_ => if x7 < (z4_.length : Int) then (if x7 = x1 then (spec_CutCable.l0 k x1 (wrap64 (x7 + 1)) z3_ z4_ z5_ z6_ z7_ z8_ z10_ z11_) else (if 0 ≤ x7 then (if z8_.length < 5864062014805 then (spec_CutCable.l0 k x1 (wrap64 (x7 + 1)) z3_ z4_ z5_ z6_ z7_ (z8_ ++ [(⟨(rd_T51 z4_ x7).f0,(rd_T51 z4_ x7).f1,(rd_T51 z4_ x7).f2⟩ : S51)]) z10_ z11_) else (none)) else (none))) else (some (z7_,z8_,z10_,z11_,true))
end
def spec_CutCable.f (k : Nat) (a0_0 : Int) (l0_1 : List (S51)) (l0_2 : List Int) (l0_3 : List Int) (a1 : Int) : Option (Int × (List (S51)) × List Int × List Int × Bool):=(spec_NetValid.f k a0_0 l0_1 l0_2 l0_3).bind fun t171 => (if t171 = true then ((spec_l1In.f a1 0 (wrap64 ((l0_1.length : Int) - 1))).bind fun t172 => (spec_CutCable.j0 k a1 (!t172) a0_0 l0_1 l0_2 l0_3)) else (spec_CutCable.j0 k a1 true a0_0 l0_1 l0_2 l0_3))
theorem spec_CutCable.mono_l : ∀ k,(∀ y0 y1 y2 y3 y4 y5,LeO (spec_CutCable.j0 k y0 y1 y2 y3 y4 y5) (spec_CutCable.j0 (k + 1) y0 y1 y2 y3 y4 y5)) ∧ (∀ y0 y1 y2 y3 y4 y5 y6 y7 y8 y9,LeO (spec_CutCable.l0 k y0 y1 y2 y3 y4 y5 y6 y7 y8 y9) (spec_CutCable.l0 (k + 1) y0 y1 y2 y3 y4 y5 y6 y7 y8 y9))
 | 0 => ⟨fun _ _ _ _ _ _ r h => by simp [spec_CutCable.j0] at h,fun _ _ _ _ _ _ _ _ _ _ r h => by simp [spec_CutCable.l0] at h⟩
 | k + 1 => by
  obtain ⟨ih0,ih1⟩:=spec_CutCable.mono_l k
  refine ⟨?_,?_⟩
  ·intro y0 y1 y2 y3 y4 y5
   unfold spec_CutCable.j0
   repeat' first
   | (with_reducible exact ih0 _ _ _ _ _ _)
   | (with_reducible exact ih1 _ _ _ _ _ _ _ _ _ _)
   | (with_reducible exact spec_NetValid.mono _ _ _ _ _)
   | (with_reducible exact LeO.refl _)
   | (with_reducible exact LeO.none _)
   | (with_reducible refine LeO.ite ?_ ?_)
   | (with_reducible refine LeO.bind ?_ (fun _ => ?_))
   | exact ih0 _ _ _ _ _ _
   | exact ih1 _ _ _ _ _ _ _ _ _ _
   | exact spec_NetValid.mono _ _ _ _ _
   | exact LeO.none _
   | refine LeO.ite ?_ ?_
   | refine LeO.bind ?_ (fun _ => ?_)
  ·intro y0 y1 y2 y3 y4 y5 y6 y7 y8 y9
   unfold spec_CutCable.l0
   repeat' first
   | (with_reducible exact ih0 _ _ _ _ _ _)
   | (with_reducible exact ih1 _ _ _ _ _ _ _ _ _ _)
   | (with_reducible exact spec_NetValid.mono _ _ _ _ _)
   | (with_reducible exact LeO.refl _)
   | (with_reducible exact LeO.none _)
   | (with_reducible refine LeO.ite ?_ ?_)
   | (with_reducible refine LeO.bind ?_ (fun _ => ?_))
   | exact ih0 _ _ _ _ _ _
   | exact ih1 _ _ _ _ _ _ _ _ _ _
   | exact spec_NetValid.mono _ _ _ _ _
   | exact LeO.none _
   | refine LeO.ite ?_ ?_
   | refine LeO.bind ?_ (fun _ => ?_)
theorem spec_CutCable.mono : ∀ a0 a1 a2 a3 a4 k,LeO (spec_CutCable.f k a0 a1 a2 a3 a4) (spec_CutCable.f (k + 1) a0 a1 a2 a3 a4):=by
 intro a0 a1 a2 a3 a4 k
 obtain ⟨ih0,ih1⟩:=spec_CutCable.mono_l k
 unfold spec_CutCable.f
 repeat' first
   | (with_reducible exact ih0 _ _ _ _ _ _)
   | (with_reducible exact ih1 _ _ _ _ _ _ _ _ _ _)
   | (with_reducible exact spec_NetValid.mono _ _ _ _ _)
   | (with_reducible exact LeO.refl _)
   | (with_reducible exact LeO.none _)
   | (with_reducible refine LeO.ite ?_ ?_)
   | (with_reducible refine LeO.bind ?_ (fun _ => ?_))
   | exact ih0 _ _ _ _ _ _
   | exact ih1 _ _ _ _ _ _ _ _ _ _
   | exact spec_NetValid.mono _ _ _ _ _
   | exact LeO.none _
   | refine LeO.ite ?_ ?_
   | refine LeO.bind ?_ (fun _ => ?_)
def spec_CutCable.T3 : Bool × List (List Nat × List Nat):=(true,[([],[]),([0],[0]),([],[]),([],[]),([3],[3]),([2,4],[2,4]),([],[]),([],[]),([7],[7]),([6,8,5],[6,8]),([1,5,9],[1,5,9]),([],[]),([11,10,9,0,1,2,3,4,5,6,7,8,9,10,11],[10,11])])
def spec_CutCable.B3 : List Nat:=[0,1,0,0,8,28,0,0,128,508,1023,0,4095]
theorem spec_CutCable.tab3 : rtab .any (opsOf Try.f26 3) = spec_CutCable.T3:=by kernel_rfl
theorem spec_CutCable.bits3 : waitsOk spec_CutCable.T3.2 spec_CutCable.B3 = true:=by kernel_rfl
def spec_CutCable.T8 : Bool × List (List Nat × List Nat):=(true,[([],[]),([0],[0]),([],[]),([2],[2]),([],[]),([3,4],[3,4]),([5],[5]),([6],[6]),([1,7],[1,7]),([0,1,2,3,4,5,6,7,8],[]),([9,8,8,0,1,2,3,4,5,6,7,8],[8,9])])
def spec_CutCable.B8 : List Nat:=[0,1,0,4,0,28,60,124,255,511,1023]
theorem spec_CutCable.tab8 : rtab .any (opsOf Try.f26 8) = spec_CutCable.T8:=by kernel_rfl
theorem spec_CutCable.bits8 : waitsOk spec_CutCable.T8.2 spec_CutCable.B8 = true:=by kernel_rfl
set_option maxHeartbeats 8000000 in
set_option maxRecDepth 100000 in
theorem spec_CutCable.calls (k : Nat) (a0_0 : Int) (A0_1 : Option Addr) (c0_1 : Nat) (l0_1 : List (S51)) (A0_2 : Option Addr) (c0_2 : Nat) (l0_2 : List Int) (A0_3 : Option Addr) (c0_3 : Nat) (l0_3 : List Int) (a1 : Int) (r1 : Int) (r2 : List (S51)) (r3 : List Int) (r4 : List Int) (r5 : Bool) (w : World) (hr0_1 : Kd.C k51 w A0_1 l0_1.length l0_1) (hc0_1 : l0_1.length ≤ c0_1) (hr0_2 : Kd.C (Kd.int .i64) w A0_2 l0_2.length l0_2) (hc0_2 : l0_2.length ≤ c0_2) (hr0_3 : Kd.C (Kd.int .i64) w A0_3 l0_3.length l0_3) (hc0_3 : l0_3.length ≤ c0_3) (h : spec_CutCable.f k a0_0 l0_1 l0_2 l0_3 a1 = some (r1,r2,r3,r4,r5)) :
  Calls Try.prog 26 #[.agg #[.int .i64 a0_0,.slice A0_1 l0_1.length c0_1,.slice A0_2 l0_2.length c0_2,.slice A0_3 l0_3.length c0_3],.int .i64 a1] w fun e w' => ∃ v1_ v2_ v3_ : Value,e = .returned (.tuple #[.agg #[.int .i64 r1,v1_,v2_,v3_],.bool r5]) ∧ Kd.R k51 51 w' w.heap.size (fun _ => True) v1_ r2 ∧ Kd.R (Kd.int .i64) 3 w' w.heap.size (fun k_ => some k_ ≠ (v3_ : Value).ownBlock) v2_ r3 ∧ Kd.R (Kd.int .i64) 3 w' w.heap.size (fun k_ => some k_ ≠ (v2_ : Value).ownBlock) v3_ r4 ∧ Below w.heap.size w w':=by
 have hu30:=Try.underlying30
 have hu51:=Try.underlying51
 have HR0_1:=mk_ hr0_1
 have HC0_1:=mk_ hc0_1
 clear hr0_1 hc0_1
 have HR0_2:=mk_ hr0_2
 have HC0_2:=mk_ hc0_2
 clear hr0_2 hc0_2
 have HR0_3:=mk_ hr0_3
 have HC0_3:=mk_ hc0_3
 clear hr0_3 hc0_3
 have HB:=mk_ (Below.refl w.heap.size w)
 have H : ((spec_NetValid.f k a0_0 l0_1 l0_2 l0_3).bind fun t171 => (if t171 = true then ((spec_l1In.f a1 0 (wrap64 ((l0_1.length : Int) - 1))).bind fun t172 => (spec_CutCable.j0 k a1 (!t172) a0_0 l0_1 l0_2 l0_3)) else (spec_CutCable.j0 k a1 true a0_0 l0_1 l0_2 l0_3))) = some (r1,r2,r3,r4,r5):=h
 clear h
 have HC3:=mk_ H
 clear H
 go_enter Try.func26,Try.ntmps26
 go_upto_region 1 with (first|((with_reducible refine gate_dst (N:=2) rfl ?_);(try (refine gate_guard (by rfl) ?_;dsimp only));refine box_event ?hg (N:=2) ?hd (cs:=#[.int .i64 a0_0,.slice A0_1 l0_1.length c0_1,.slice A0_2 l0_2.length c0_2,.slice A0_3 l0_3.length c0_3]) (t:=30) ?hr ?_;(case hd => rfl);(case hg => rfl);(case hr => first|(go_simp;done)|(go_simp;rfl));intro gb169 hg w4 hbox hb;have n0_:=mk_ (st_ (qb_ HB) hb);have n1_:=mk_ (hbox);have n2_:=mk_ ((by rw [hg];exact (bz_ (qb_ HB)) : w.heap.size ≤ gb169));have n3_:=mk_ ((by rw [hg];exact (bz_ (qb_ HB)) : w.heap.size ≤ gb169));clear HB;have HB:=n0_;have BK169:=n1_;have GW169:=n2_;have GE169:=n3_;clear n0_ n1_ n2_ n3_ hb hbox hg)|((with_reducible refine gate_dst (N:=4) rfl ?_);(try (refine gate_guard (by rfl) ?_;dsimp only));refine box_event ?hg (N:=4) ?hd (cs:=#[.int .i64 0,.slice none 0 0,.slice none 0 0,.slice none 0 0]) (t:=30) ?hr ?_;(case hd => rfl);(case hg => rfl);(case hr => first|(go_simp;done)|(go_simp;rfl));intro gb170 hg w5 hbox hb;have n0_:=mk_ (blk_below (g:=gb169) (o:=.cells #[.int .i64 a0_0,.slice A0_1 l0_1.length c0_1,.slice A0_2 l0_2.length c0_2,.slice A0_3 l0_3.length c0_3] 30 (0,0)) (qk_ BK169) hb);have n1_:=mk_ (st_ (qc_ HB GE169) hb);have n2_:=mk_ (hbox);have n3_:=mk_ ((by rw [hg];exact (bz_ (qc_ HB GE169)) : w.heap.size ≤ gb170));have n4_:=mk_ ((by rw [hg];exact (bz_ (qc_ HB GE169)) : w.heap.size ≤ gb170));have n5_:=mk_ ((by rw [hg];exact Nat.ne_of_lt (blk_lt (g:=gb169) (o:=.cells #[.int .i64 a0_0,.slice A0_1 l0_1.length c0_1,.slice A0_2 l0_2.length c0_2,.slice A0_3 l0_3.length c0_3] 30 (0,0)) (qk_ BK169)) : gb169 ≠ gb170));have n6_:=mk_ ((by rw [hg];exact Nat.ne_of_gt (blk_lt (g:=gb169) (o:=.cells #[.int .i64 a0_0,.slice A0_1 l0_1.length c0_1,.slice A0_2 l0_2.length c0_2,.slice A0_3 l0_3.length c0_3] 30 (0,0)) (qk_ BK169)) : gb170 ≠ gb169));clear BK169 HB;have BK169:=n0_;have HB:=n1_;have BK170:=n2_;have GW170:=n3_;have GE170:=n4_;have NB169_170:=n5_;have NB170_169:=n6_;clear n0_ n1_ n2_ n3_ n4_ n5_ n6_ hb hbox hg))
 (try simp only [Act.put,sx_,sy_,sz_])
 go_cut [19] (fun v19 wc => ∃ (kq : Nat) (x19_2 : Bool),v19 = .bool x19_2 ∧ Aside0 (spec_CutCable.j0 kq a1 x19_2 a0_0 l0_1 l0_2 l0_3 = some (r1,r2,r3,r4,r5)) ∧ Aside0 (kq ≤ k) ∧ Aside0 (wc.heap[gb169]? = some (.cells #[.int .i64 a0_0,(.slice A0_1 l0_1.length c0_1),(.slice A0_2 l0_2.length c0_2),(.slice A0_3 l0_3.length c0_3)] 30 (0,0))) ∧ Aside0 (wc.heap[gb170]? = some (.cells #[.int .i64 0,(.slice none 0 0),(.slice none 0 0),(.slice none 0 0)] 30 (0,0))) ∧ Aside0 (Below w.heap.size w wc))
 case first =>
  have H:=HC3.out
  clear HC3
  replace H:=Option.bind_eq_some_iff.mp H
  obtain ⟨t171,A60,H⟩:=H
  replace H : (if t171 = true then ((spec_l1In.f a1 0 (wrap64 ((l0_1.length : Int) - 1))).bind fun t172 => (spec_CutCable.j0 k a1 (!t172) a0_0 l0_1 l0_2 l0_3)) else (spec_CutCable.j0 k a1 true a0_0 l0_1 l0_2 l0_3)) = some (r1,r2,r3,r4,r5):=H
  have A6:=mk_ A60
  clear A60
  by_cases c7 : t171 = true
  ·subst c7
   have H1 : ((spec_l1In.f a1 0 (wrap64 ((l0_1.length : Int) - 1))).bind fun t172 => (spec_CutCable.j0 k a1 (!t172) a0_0 l0_1 l0_2 l0_3)) = some (r1,r2,r3,r4,r5):=by rw [if_pos rfl] at H;exact H
   clear H
   have H:=H1
   clear H1
   replace H:=Option.bind_eq_some_iff.mp H
   obtain ⟨t172,A80,H⟩:=H
   replace H : (spec_CutCable.j0 k a1 (!t172) a0_0 l0_1 l0_2 l0_3) = some (r1,r2,r3,r4,r5):=H
   have A8:=mk_ A80
   clear A80
   have H':=mk_ H
   clear H
   have hnb9:=NB169_170.out
   have hnc9:=NB170_169.out
   have hcz10_0 : w5.cell? ⟨gb169,0,none⟩ = some (.int .i64 a0_0):=(bc_ BK169.out 0).trans rfl
   have hcz10_1 : w5.cell? ⟨gb169,1,none⟩ = some (.slice A0_1 l0_1.length c0_1):=(bc_ BK169.out 1).trans rfl
   have hcz10_2 : w5.cell? ⟨gb169,2,none⟩ = some (.slice A0_2 l0_2.length c0_2):=(bc_ BK169.out 2).trans rfl
   have hcz10_3 : w5.cell? ⟨gb169,3,none⟩ = some (.slice A0_3 l0_3.length c0_3):=(bc_ BK169.out 3).trans rfl
   have hfz10_0:=bf_ BK169.out 0
   have hfz10_1:=bf_ BK169.out 1
   have hfz10_2:=bf_ BK169.out 2
   have hfz10_3:=bf_ BK169.out 3
   go_wp2_with (first|((with_reducible refine gate_callee (f:=13) rfl ?_);refine goesL_ (some 9) rfl rfl Try.func13 (by kernel_rfl) rfl #[.agg #[.int .i64 a0_0,.slice A0_1 l0_1.length c0_1,.slice A0_2 l0_2.length c0_2,.slice A0_3 l0_3.length c0_3]] rfl qm_ ?_;(with_reducible refine (spec_NetValid.calls k a0_0 _ _ l0_1 _ _ l0_2 _ _ l0_3 true _ ?side1 ?side2 ?side3 ?side4 ?side5 ?side6 A6.out).mono ?_);(case side1 => exact qn_ HR0_1 HB);(case side2 => exact HC0_1.out);(case side3 => exact qn_ HR0_2 HB);(case side4 => exact HC0_2.out);(case side5 => exact qn_ HR0_3 HB);(case side6 => exact HC0_3.out);rintro e w11 ⟨rfl,hb⟩;refine ⟨_,rfl,?_⟩;have n0_:=mk_ (blk_below (g:=gb169) (o:=.cells #[.int .i64 a0_0,.slice A0_1 l0_1.length c0_1,.slice A0_2 l0_2.length c0_2,.slice A0_3 l0_3.length c0_3] 30 (0,0)) (qk_ BK169) hb);have n1_:=mk_ (blk_below (g:=gb170) (o:=.cells #[.int .i64 0,.slice none 0 0,.slice none 0 0,.slice none 0 0] 30 (0,0)) (qk_ BK170) hb);have n2_:=mk_ (st_ (qd_ HB GE169 GE170) hb);clear BK169 BK170 HB;have BK169:=n0_;have BK170:=n1_;have HB:=n2_;clear n0_ n1_ n2_;(try clear hb);(try clear hb2);(try clear hk);(try clear hi);have hcz12_0 : w11.cell? ⟨gb169,0,none⟩ = some (.int .i64 a0_0):=(bc_ BK169.out 0).trans rfl;have hcz12_1 : w11.cell? ⟨gb169,1,none⟩ = some (.slice A0_1 l0_1.length c0_1):=(bc_ BK169.out 1).trans rfl;have hcz12_2 : w11.cell? ⟨gb169,2,none⟩ = some (.slice A0_2 l0_2.length c0_2):=(bc_ BK169.out 2).trans rfl;have hcz12_3 : w11.cell? ⟨gb169,3,none⟩ = some (.slice A0_3 l0_3.length c0_3):=(bc_ BK169.out 3).trans rfl;have hfz12_0:=bf_ BK169.out 0;have hfz12_1:=bf_ BK169.out 1;have hfz12_2:=bf_ BK169.out 2;have hfz12_3:=bf_ BK169.out 3)|(go_at_call 40;(with_reducible refine (spec_l1In.calls a1 0 (wrap64 ((l0_1.length : Int) - 1)) t172 _ A8.out).mono ?_);rintro e w' ⟨rfl,⟨nd,rfl⟩⟩))
   go_meet
   case rel => exact ⟨_,(!t172),qf_,H',⟨by first|omega|exact Nat.le_refl _⟩,⟨qk_ BK169⟩,⟨qk_ BK170⟩,⟨u3_ HB GE169 GE170⟩⟩
  ·replace c7:=Bool.eq_false_iff.mpr c7
   subst c7
   have H1 : (spec_CutCable.j0 k a1 true a0_0 l0_1 l0_2 l0_3) = some (r1,r2,r3,r4,r5):=by rw [if_neg (show ¬ (false = true) by decide)] at H;exact H
   clear H
   have H:=H1
   clear H1
   have H':=mk_ H
   clear H
   have hnb13:=NB169_170.out
   have hnc13:=NB170_169.out
   have hcz14_0 : w5.cell? ⟨gb169,0,none⟩ = some (.int .i64 a0_0):=(bc_ BK169.out 0).trans rfl
   have hcz14_1 : w5.cell? ⟨gb169,1,none⟩ = some (.slice A0_1 l0_1.length c0_1):=(bc_ BK169.out 1).trans rfl
   have hcz14_2 : w5.cell? ⟨gb169,2,none⟩ = some (.slice A0_2 l0_2.length c0_2):=(bc_ BK169.out 2).trans rfl
   have hcz14_3 : w5.cell? ⟨gb169,3,none⟩ = some (.slice A0_3 l0_3.length c0_3):=(bc_ BK169.out 3).trans rfl
   have hfz14_0:=bf_ BK169.out 0
   have hfz14_1:=bf_ BK169.out 1
   have hfz14_2:=bf_ BK169.out 2
   have hfz14_3:=bf_ BK169.out 3
   go_wp2_with (first|((with_reducible refine gate_callee (f:=13) rfl ?_);refine goesL_ (some 9) rfl rfl Try.func13 (by kernel_rfl) rfl #[.agg #[.int .i64 a0_0,.slice A0_1 l0_1.length c0_1,.slice A0_2 l0_2.length c0_2,.slice A0_3 l0_3.length c0_3]] rfl qm_ ?_;(with_reducible refine (spec_NetValid.calls k a0_0 _ _ l0_1 _ _ l0_2 _ _ l0_3 false _ ?side1 ?side2 ?side3 ?side4 ?side5 ?side6 A6.out).mono ?_);(case side1 => exact qn_ HR0_1 HB);(case side2 => exact HC0_1.out);(case side3 => exact qn_ HR0_2 HB);(case side4 => exact HC0_2.out);(case side5 => exact qn_ HR0_3 HB);(case side6 => exact HC0_3.out);rintro e w15 ⟨rfl,hb⟩;refine ⟨_,rfl,?_⟩;have n0_:=mk_ (blk_below (g:=gb169) (o:=.cells #[.int .i64 a0_0,.slice A0_1 l0_1.length c0_1,.slice A0_2 l0_2.length c0_2,.slice A0_3 l0_3.length c0_3] 30 (0,0)) (qk_ BK169) hb);have n1_:=mk_ (blk_below (g:=gb170) (o:=.cells #[.int .i64 0,.slice none 0 0,.slice none 0 0,.slice none 0 0] 30 (0,0)) (qk_ BK170) hb);have n2_:=mk_ (st_ (qd_ HB GE169 GE170) hb);clear BK169 BK170 HB;have BK169:=n0_;have BK170:=n1_;have HB:=n2_;clear n0_ n1_ n2_;(try clear hb);(try clear hb2);(try clear hk);(try clear hi)))
   go_meet
   case rel => exact ⟨_,(true),qf_,H',⟨by first|omega|exact Nat.le_refl _⟩,⟨qk_ BK169⟩,⟨qk_ BK170⟩,⟨u3_ HB GE169 GE170⟩⟩
 case rest =>
  clear HC3
  try clear c1
  try clear c2
  try clear p2
  try clear p6
  try clear c7
  try clear c9
  try clear c13
  try clear hcz10_0
  try clear hcz10_1
  try clear hcz10_2
  try clear hcz10_3
  try clear hcz12_0
  try clear hcz12_1
  try clear hcz12_2
  try clear hcz12_3
  try clear hcz14_0
  try clear hcz14_1
  try clear hcz14_2
  try clear hcz14_3
  try clear hfz10_0
  try clear hfz10_1
  try clear hfz10_2
  try clear hfz10_3
  try clear hfz12_0
  try clear hfz12_1
  try clear hfz12_2
  try clear hfz12_3
  try clear hfz14_0
  try clear hfz14_1
  try clear hfz14_2
  try clear hfz14_3
  obtain ⟨kq,x19_2,rfl,HA,HJ2,BK169,BK170,HB⟩:=hcut
  cases kq with
  | zero => exact absurd HA.out (by simp [spec_CutCable.j0])
  | succ kj2 =>
   have H:=HA.out
   clear HA
   simp only [spec_CutCable.j0] at H
   by_cases c16 : x19_2 = true
   ·subst c16
    have H1 : (some (0,([] : List (S51)),([] : List Int),([] : List Int),false)) = some (r1,r2,r3,r4,r5):=by rw [if_pos rfl] at H;exact H
    clear H
    have H:=H1
    clear H1
    simp only [Option.some.injEq,Prod.mk.injEq] at H
    obtain ⟨rfl,rfl,rfl,rfl,rfl⟩:=H
    have hnb17:=NB170_169.out
    have hnc17:=NB169_170.out
    have hcz18_0 : wc.cell? ⟨gb170,0,none⟩ = some (.int .i64 0):=(bc_ BK170.out 0).trans rfl
    have hcz18_1 : wc.cell? ⟨gb170,1,none⟩ = some (.slice none 0 0):=(bc_ BK170.out 1).trans rfl
    have hcz18_2 : wc.cell? ⟨gb170,2,none⟩ = some (.slice none 0 0):=(bc_ BK170.out 2).trans rfl
    have hcz18_3 : wc.cell? ⟨gb170,3,none⟩ = some (.slice none 0 0):=(bc_ BK170.out 3).trans rfl
    have hfz18_0:=bf_ BK170.out 0
    have hfz18_1:=bf_ BK170.out 1
    have hfz18_2:=bf_ BK170.out 2
    have hfz18_3:=bf_ BK170.out 3
    go_wp2
    refine bodyPost_ret (results_ct rfl _ _ gb170 30 #[.int .i64 0,.slice none 0 0,.slice none 0 0,.slice none 0 0] (0,0) _ rfl (by (with_reducible repeat (first|apply kn_|apply kd_|apply ka_));refine blk_put (cs:=#[.int .i64 0,.slice none 0 0,.slice none 0 0,.slice none 0 0]) ?_ 3 _ rfl;(with_reducible repeat (first|apply kn_|apply kd_|apply ka_));refine blk_put (cs:=#[.int .i64 0,.slice none 0 0,.slice none 0 0,.slice none 0 0]) ?_ 2 _ rfl;(with_reducible repeat (first|apply kn_|apply kd_|apply ka_));refine blk_put (cs:=#[.int .i64 0,.slice none 0 0,.slice none 0 0,.slice none 0 0]) ?_ 1 _ rfl;(with_reducible repeat (first|apply kn_|apply kd_|apply ka_));refine blk_put (cs:=#[.int .i64 0,.slice none 0 0,.slice none 0 0,.slice none 0 0]) ?_ 0 _ rfl;(with_reducible repeat (first|apply kn_|apply kd_|apply ka_));exact BK170.out) Try.underlying30 rfl (by kernel_rfl)) rfl ?_
    exact ⟨_,_,_,qe_,by first|exact Kd.R_nil _ _ _ _ _|exact Kd.N_nil _ _ _ _ _|exact Kd.V_nil _ _ _ _ _|exact Kd.Q_nil _ _ _ _ _|exact Kd.S_nil _ _ _ _ _,by first|exact Kd.R_nil _ _ _ _ _|exact Kd.N_nil _ _ _ _ _|exact Kd.V_nil _ _ _ _ _|exact Kd.Q_nil _ _ _ _ _|exact Kd.S_nil _ _ _ _ _,by first|exact Kd.R_nil _ _ _ _ _|exact Kd.N_nil _ _ _ _ _|exact Kd.V_nil _ _ _ _ _|exact Kd.Q_nil _ _ _ _ _|exact Kd.S_nil _ _ _ _ _,u3_ HB GE169 GE170⟩
   ·replace c16:=Bool.eq_false_iff.mpr c16
    subst c16
    have H1 : ((some (([] : List Int) : List Int)).bind fun y173 => (if y173.length + l0_2.length < 17592186044416 then ((some (([] : List Int) : List Int)).bind fun y179 => (if y179.length + l0_3.length < 17592186044416 then (spec_CutCable.l0 kj2 a1 0 a0_0 l0_1 l0_2 l0_3 a0_0 ([] : List (S51)) (y173 ++ l0_2) (y179 ++ l0_3)) else (none))) else (none))) = some (r1,r2,r3,r4,r5):=by rw [if_neg (show ¬ (false = true) by decide)] at H;exact H
    clear H
    have H:=H1
    clear H1
    obtain ⟨y173,hy173⟩ : ∃ y_ : List Int,y_ = (([] : List Int)):=⟨_,rfl⟩
    replace H : (if y173.length + l0_2.length < 17592186044416 then ((some (([] : List Int) : List Int)).bind fun y179 => (if y179.length + l0_3.length < 17592186044416 then (spec_CutCable.l0 kj2 a1 0 a0_0 l0_1 l0_2 l0_3 a0_0 ([] : List (S51)) (y173 ++ l0_2) (y179 ++ l0_3)) else (none))) else (none)) = some (r1,r2,r3,r4,r5):=by first|(rw [hy173];with_reducible exact H)|(have H2_:=(Option.bind_some _ _).symm.trans H;rw [hy173];with_reducible exact H2_)|(have H2_:=(Option.bind_some _ _).symm.trans H;with_reducible exact H2_)|with_reducible exact H|(rw [hy173];exact H)|exact H
    have Ny173:=mk_ hy173
    clear hy173
    by_cases c19 : y173.length + l0_2.length < 17592186044416
    ·rw [if_pos c19] at H
     have LMc19:=mk_ c19
     clear c19
     obtain ⟨y176,hy176⟩ : ∃ y_ : List Int,y_ = (y173 ++ l0_2):=⟨_,rfl⟩
     replace H : ((some (([] : List Int) : List Int)).bind fun y179 => (if y179.length + l0_3.length < 17592186044416 then (spec_CutCable.l0 kj2 a1 0 a0_0 l0_1 l0_2 l0_3 a0_0 ([] : List (S51)) y176 (y179 ++ l0_3)) else (none))) = some (r1,r2,r3,r4,r5):=by first|(rw [hy176];with_reducible exact H)|(have H2_:=(Option.bind_some _ _).symm.trans H;rw [hy176];with_reducible exact H2_)|(have H2_:=(Option.bind_some _ _).symm.trans H;with_reducible exact H2_)|with_reducible exact H|(rw [hy176];exact H)|exact H
     have Ny176:=mk_ hy176
     clear hy176
     obtain ⟨y179,hy179⟩ : ∃ y_ : List Int,y_ = (([] : List Int)):=⟨_,rfl⟩
     replace H : (if y179.length + l0_3.length < 17592186044416 then (spec_CutCable.l0 kj2 a1 0 a0_0 l0_1 l0_2 l0_3 a0_0 ([] : List (S51)) y176 (y179 ++ l0_3)) else (none)) = some (r1,r2,r3,r4,r5):=by first|(rw [hy179];with_reducible exact H)|(have H2_:=(Option.bind_some _ _).symm.trans H;rw [hy179];with_reducible exact H2_)|(have H2_:=(Option.bind_some _ _).symm.trans H;with_reducible exact H2_)|with_reducible exact H|(rw [hy179];exact H)|exact H
     have Ny179:=mk_ hy179
     clear hy179
     by_cases c20 : y179.length + l0_3.length < 17592186044416
     ·rw [if_pos c20] at H
      have LMc20:=mk_ c20
      clear c20
      obtain ⟨y182,hy182⟩ : ∃ y_ : List Int,y_ = (y179 ++ l0_3):=⟨_,rfl⟩
      replace H : (spec_CutCable.l0 kj2 a1 0 a0_0 l0_1 l0_2 l0_3 a0_0 ([] : List (S51)) y176 y182) = some (r1,r2,r3,r4,r5):=by first|(rw [hy182];with_reducible exact H)|(have H2_:=(Option.bind_some _ _).symm.trans H;rw [hy182];with_reducible exact H2_)|(have H2_:=(Option.bind_some _ _).symm.trans H;with_reducible exact H2_)|with_reducible exact H|(rw [hy182];exact H)|exact H
      have Ny182:=mk_ hy182
      clear hy182
      have H':=mk_ H
      clear H
      try go_wp2
      have n0_:=mk_ (kd_ BK169.out)
      have n1_:=mk_ (kd_ BK170.out)
      have n2_:=mk_ (bd_ HB.out)
      clear BK169
      clear BK170
      clear HB
      have BK169:=n0_
      have BK170:=n1_
      have HB:=n2_
      clear n0_ n1_ n2_
      refine start_ (n:=13) (S:=fun w' => w'.cell? ⟨gb169,0,none⟩ = some (.int .i64 a0_0) ∧ w'.cell? ⟨gb169,1,none⟩ = some (.slice A0_1 l0_1.length c0_1) ∧ w'.cell? ⟨gb169,2,none⟩ = some (.slice A0_2 l0_2.length c0_2) ∧ w'.cell? ⟨gb169,3,none⟩ = some (.slice A0_3 l0_3.length c0_3)) (ds:=[]) #[false,false,false,false,false,false,false,false,false,false,false,false,false] (by kernel_rfl) rfl rfl ⟨(bc_ BK169.out 0).trans rfl,(bc_ BK169.out 1).trans rfl,(bc_ BK169.out 2).trans rfl,(bc_ BK169.out 3).trans rfl⟩ (fun hHeld => ?_);refine with_tabW spec_CutCable.tab3 spec_CutCable.bits3 (fun HT_ HW_ => ?_)
      generalize wc.drew = w21 at BK169 BK170 HB hHeld ⊢
      refine pure_ (i:=0) (N:=some 21) (v:=?_) (a':=?_) #[true,false,false,false,false,false,false,false,false,false,false,false,false] rfl rfl (any_of HT_.out (by kernel_rfl)) (fun _ _ _ h => h) (Or.inl ⟨by rfl,?_⟩) ?_ ?_
      rotate_left
      ·intro w'
       go_simp
       with_reducible rfl
      rotate_left
      ·simp only [Act.put,sx_,sy_,sz_,i64_w,i32_w]
       rfl
      refine pure_ (i:=3) (N:=some 24) (v:=?_) (a':=?_) #[true,false,false,true,false,false,false,false,false,false,false,false,false] rfl rfl (any_of HT_.out (by kernel_rfl)) (fun _ _ _ h => h) (Or.inl ⟨by rfl,?_⟩) ?_ ?_
      rotate_left
      ·intro w'
       go_simp
       with_reducible rfl
      rotate_left
      ·simp only [Act.put,sx_,sy_,sz_,i64_w,i32_w]
       rfl
      refine pure_ (i:=7) (N:=some 28) (v:=?_) (a':=?_) #[true,false,false,true,false,false,false,true,false,false,false,false,false] rfl rfl (any_of HT_.out (by kernel_rfl)) (fun _ _ _ h => h) (Or.inl ⟨by rfl,?_⟩) ?_ ?_
      rotate_left
      ·intro w'
       go_simp
       with_reducible rfl
      rotate_left
      ·simp only [Act.put,sx_,sy_,sz_,i64_w,i32_w]
       rfl
      refine take_ (i:=1) (N:=some 22) (v:=?_) (a':=?_) #[true,true,false,true,false,false,false,true,false,false,false,false,false] rfl rfl (take_ofW HT_.out HW_.out (by kernel_rfl)) (fun _ _ _ h => h) (Or.inl ⟨by rfl,?_⟩) hHeld ?_ ?_
      rotate_left
      ·rintro w' ⟨s0,s1,s2,s3⟩
       go_simp
       with_reducible rfl
      rotate_left
      ·simp only [Act.put,sx_,sy_,sz_,i64_w,i32_w]
       rfl
      refine take_ (i:=4) (N:=some 25) (v:=?_) (a':=?_) #[true,true,false,true,true,false,false,true,false,false,false,false,false] rfl rfl (take_ofW HT_.out HW_.out (by kernel_rfl)) (fun _ _ _ h => h) (Or.inl ⟨by rfl,?_⟩) hHeld ?_ ?_
      rotate_left
      ·rintro w' ⟨s0,s1,s2,s3⟩
       go_simp
       with_reducible rfl
      rotate_left
      ·simp only [Act.put,sx_,sy_,sz_,i64_w,i32_w]
       rfl
      refine take_ (i:=8) (N:=some 29) (v:=?_) (a':=?_) #[true,true,false,true,true,false,false,true,true,false,false,false,false] rfl rfl (take_ofW HT_.out HW_.out (by kernel_rfl)) (fun _ _ _ h => h) (Or.inl ⟨by rfl,?_⟩) hHeld ?_ ?_
      rotate_left
      ·rintro w' ⟨s0,s1,s2,s3⟩
       go_simp
       with_reducible rfl
      rotate_left
      ·simp only [Act.put,sx_,sy_,sz_,i64_w,i32_w]
       rfl
      refine join_ (σ:=Value × Value × Value × Value × Nat) 1 #[true,true,true,true,true,true,true,true,true,true,true,true,false] (fun s_ => [(23,s_.1),(26,s_.2.1),(27,s_.2.2.1),(30,s_.2.2.2.1),(6,.pointer (some ⟨s_.2.2.2.2,0,none⟩)),(31,.agg #[.int .i64 a0_0,.slice none 0 0,s_.2.1,s_.2.2.2.1])]) (fun s_ w' => (w'.cell? ⟨gb169,0,none⟩ = some (.int .i64 a0_0) ∧ w'.cell? ⟨gb169,1,none⟩ = some (.slice A0_1 l0_1.length c0_1) ∧ w'.cell? ⟨gb169,2,none⟩ = some (.slice A0_2 l0_2.length c0_2) ∧ w'.cell? ⟨gb169,3,none⟩ = some (.slice A0_3 l0_3.length c0_3)) ∧ (Kd.R (Kd.int .i64) 3 w' w.heap.size (fun k_ => some k_ ≠ (s_.2.2.2.1 : Value).ownBlock) s_.2.1 y176) ∧ (Kd.R (Kd.int .i64) 3 w' w.heap.size (fun k_ => some k_ ≠ (s_.2.1 : Value).ownBlock) s_.2.2.2.1 y182) ∧ (w'.heap[gb169]? = some (.cells #[.int .i64 a0_0,.slice A0_1 l0_1.length c0_1,.slice A0_2 l0_2.length c0_2,.slice A0_3 l0_3.length c0_3] 30 (0,0))) ∧ (w'.heap[gb170]? = some (.cells #[.int .i64 0,.slice none 0 0,.slice none 0 0,.slice none 0 0] 30 (0,0))) ∧ (w'.heap[s_.2.2.2.2]? = some (.cells #[.int .i64 0,.slice none 0 0,.slice none 0 0,.slice none 0 0] 30 (0,0))) ∧ (w.heap.size ≤ s_.2.2.2.2) ∧ (w.heap.size ≤ s_.2.2.2.2) ∧ (gb169 ≠ s_.2.2.2.2) ∧ (s_.2.2.2.2 ≠ gb169) ∧ (gb170 ≠ s_.2.2.2.2) ∧ (s_.2.2.2.2 ≠ gb170) ∧ (Below w.heap.size w w')) ?_ ?_
      rotate_left
      ·intro hJ2_5_6_9_11
       refine join_ (σ:=Value × Value × Value × Value) 2 #[true,true,true,true,true,true,true,true,true,true,true,false,false] (fun s_ => [(23,s_.1),(26,s_.2.1),(27,s_.2.2.1),(30,s_.2.2.2),(31,.agg #[.int .i64 a0_0,.slice none 0 0,s_.2.1,s_.2.2.2])]) (fun s_ w' => (w'.cell? ⟨gb169,0,none⟩ = some (.int .i64 a0_0) ∧ w'.cell? ⟨gb169,1,none⟩ = some (.slice A0_1 l0_1.length c0_1) ∧ w'.cell? ⟨gb169,2,none⟩ = some (.slice A0_2 l0_2.length c0_2) ∧ w'.cell? ⟨gb169,3,none⟩ = some (.slice A0_3 l0_3.length c0_3)) ∧ (Kd.R (Kd.int .i64) 3 w' w.heap.size (fun k_ => some k_ ≠ (s_.2.2.2 : Value).ownBlock) s_.2.1 y176) ∧ (Kd.R (Kd.int .i64) 3 w' w.heap.size (fun k_ => some k_ ≠ (s_.2.1 : Value).ownBlock) s_.2.2.2 y182) ∧ (w'.heap[gb169]? = some (.cells #[.int .i64 a0_0,.slice A0_1 l0_1.length c0_1,.slice A0_2 l0_2.length c0_2,.slice A0_3 l0_3.length c0_3] 30 (0,0))) ∧ (w'.heap[gb170]? = some (.cells #[.int .i64 0,.slice none 0 0,.slice none 0 0,.slice none 0 0] 30 (0,0))) ∧ (Below w.heap.size w w')) ?_ ?_
       rotate_left
       ·intro hJ2_5_6_9
        refine join_ (σ:=Value × Value × Value × Nat) 3 #[true,true,true,true,true,true,true,true,true,false,false,true,false] (fun s_ => [(23,s_.1),(26,s_.2.1),(27,s_.2.2.1),(6,.pointer (some ⟨s_.2.2.2,0,none⟩))]) (fun s_ w' => (w'.cell? ⟨gb169,0,none⟩ = some (.int .i64 a0_0) ∧ w'.cell? ⟨gb169,1,none⟩ = some (.slice A0_1 l0_1.length c0_1) ∧ w'.cell? ⟨gb169,2,none⟩ = some (.slice A0_2 l0_2.length c0_2) ∧ w'.cell? ⟨gb169,3,none⟩ = some (.slice A0_3 l0_3.length c0_3)) ∧ (Kd.R (Kd.int .i64) 3 w' w.heap.size (fun k_ => some k_ ≠ (s_.2.2.1 : Value).ownBlock) s_.2.1 y176) ∧ (Kd.R (Kd.int .i64) 3 w' w.heap.size (fun k_ => some k_ ≠ (s_.2.1 : Value).ownBlock) s_.2.2.1 y179) ∧ (w'.heap[gb169]? = some (.cells #[.int .i64 a0_0,.slice A0_1 l0_1.length c0_1,.slice A0_2 l0_2.length c0_2,.slice A0_3 l0_3.length c0_3] 30 (0,0))) ∧ (w'.heap[gb170]? = some (.cells #[.int .i64 0,.slice none 0 0,.slice none 0 0,.slice none 0 0] 30 (0,0))) ∧ (w'.heap[s_.2.2.2]? = some (.cells #[.int .i64 0,.slice none 0 0,.slice none 0 0,.slice none 0 0] 30 (0,0))) ∧ (w.heap.size ≤ s_.2.2.2) ∧ (w.heap.size ≤ s_.2.2.2) ∧ (gb169 ≠ s_.2.2.2) ∧ (s_.2.2.2 ≠ gb169) ∧ (gb170 ≠ s_.2.2.2) ∧ (s_.2.2.2 ≠ gb170) ∧ (Below w.heap.size w w')) ?_ ?_
        rotate_left
        ·intro hJ2_5_6_11
         refine join_ (σ:=Value × Value × Value) 4 #[true,true,true,true,true,true,true,true,true,false,false,false,false] (fun s_ => [(23,s_.1),(26,s_.2.1),(27,s_.2.2)]) (fun s_ w' => (w'.cell? ⟨gb169,0,none⟩ = some (.int .i64 a0_0) ∧ w'.cell? ⟨gb169,1,none⟩ = some (.slice A0_1 l0_1.length c0_1) ∧ w'.cell? ⟨gb169,2,none⟩ = some (.slice A0_2 l0_2.length c0_2) ∧ w'.cell? ⟨gb169,3,none⟩ = some (.slice A0_3 l0_3.length c0_3)) ∧ (Kd.R (Kd.int .i64) 3 w' w.heap.size (fun k_ => some k_ ≠ (s_.2.2 : Value).ownBlock) s_.2.1 y176) ∧ (Kd.R (Kd.int .i64) 3 w' w.heap.size (fun k_ => some k_ ≠ (s_.2.1 : Value).ownBlock) s_.2.2 y179) ∧ (w'.heap[gb169]? = some (.cells #[.int .i64 a0_0,.slice A0_1 l0_1.length c0_1,.slice A0_2 l0_2.length c0_2,.slice A0_3 l0_3.length c0_3] 30 (0,0))) ∧ (w'.heap[gb170]? = some (.cells #[.int .i64 0,.slice none 0 0,.slice none 0 0,.slice none 0 0] 30 (0,0))) ∧ (Below w.heap.size w w')) ?_ ?_
         rotate_left
         ·intro hJ2_5_6
          refine join_ (σ:=Value × Value × Nat) 4 #[true,true,true,true,true,true,false,true,true,false,false,true,false] (fun s_ => [(23,s_.1),(26,s_.2.1),(6,.pointer (some ⟨s_.2.2,0,none⟩))]) (fun s_ w' => (w'.cell? ⟨gb169,0,none⟩ = some (.int .i64 a0_0) ∧ w'.cell? ⟨gb169,1,none⟩ = some (.slice A0_1 l0_1.length c0_1) ∧ w'.cell? ⟨gb169,2,none⟩ = some (.slice A0_2 l0_2.length c0_2) ∧ w'.cell? ⟨gb169,3,none⟩ = some (.slice A0_3 l0_3.length c0_3)) ∧ (Kd.R (Kd.int .i64) 3 w' w.heap.size (fun _ => True) s_.2.1 y176) ∧ (w'.heap[gb169]? = some (.cells #[.int .i64 a0_0,.slice A0_1 l0_1.length c0_1,.slice A0_2 l0_2.length c0_2,.slice A0_3 l0_3.length c0_3] 30 (0,0))) ∧ (w'.heap[gb170]? = some (.cells #[.int .i64 0,.slice none 0 0,.slice none 0 0,.slice none 0 0] 30 (0,0))) ∧ (w'.heap[s_.2.2]? = some (.cells #[.int .i64 0,.slice none 0 0,.slice none 0 0,.slice none 0 0] 30 (0,0))) ∧ (w.heap.size ≤ s_.2.2) ∧ (w.heap.size ≤ s_.2.2) ∧ (gb169 ≠ s_.2.2) ∧ (s_.2.2 ≠ gb169) ∧ (gb170 ≠ s_.2.2) ∧ (s_.2.2 ≠ gb170) ∧ (Below w.heap.size w w')) ?_ ?_
          rotate_left
          ·intro hJ2_5_11
           refine join_ (σ:=Value × Value × Nat) 4 #[true,true,true,true,true,false,true,true,true,false,false,true,false] (fun s_ => [(23,s_.1),(27,s_.2.1),(6,.pointer (some ⟨s_.2.2,0,none⟩))]) (fun s_ w' => (w'.cell? ⟨gb169,0,none⟩ = some (.int .i64 a0_0) ∧ w'.cell? ⟨gb169,1,none⟩ = some (.slice A0_1 l0_1.length c0_1) ∧ w'.cell? ⟨gb169,2,none⟩ = some (.slice A0_2 l0_2.length c0_2) ∧ w'.cell? ⟨gb169,3,none⟩ = some (.slice A0_3 l0_3.length c0_3)) ∧ (Kd.R (Kd.int .i64) 3 w' w.heap.size (fun k_ => some k_ ≠ (s_.2.1 : Value).ownBlock) s_.1 y173) ∧ (Kd.R (Kd.int .i64) 3 w' w.heap.size (fun k_ => some k_ ≠ (s_.1 : Value).ownBlock) s_.2.1 y179) ∧ (w'.heap[gb169]? = some (.cells #[.int .i64 a0_0,.slice A0_1 l0_1.length c0_1,.slice A0_2 l0_2.length c0_2,.slice A0_3 l0_3.length c0_3] 30 (0,0))) ∧ (w'.heap[gb170]? = some (.cells #[.int .i64 0,.slice none 0 0,.slice none 0 0,.slice none 0 0] 30 (0,0))) ∧ (w'.heap[s_.2.2]? = some (.cells #[.int .i64 0,.slice none 0 0,.slice none 0 0,.slice none 0 0] 30 (0,0))) ∧ (w.heap.size ≤ s_.2.2) ∧ (w.heap.size ≤ s_.2.2) ∧ (gb169 ≠ s_.2.2) ∧ (s_.2.2 ≠ gb169) ∧ (gb170 ≠ s_.2.2) ∧ (s_.2.2 ≠ gb170) ∧ (Below w.heap.size w w')) ?_ ?_
           rotate_left
           ·intro hJ2_6_11
            refine join_ (σ:=Value × Value) 5 #[true,true,true,true,true,true,false,true,true,false,false,false,false] (fun s_ => [(23,s_.1),(26,s_.2)]) (fun s_ w' => (w'.cell? ⟨gb169,0,none⟩ = some (.int .i64 a0_0) ∧ w'.cell? ⟨gb169,1,none⟩ = some (.slice A0_1 l0_1.length c0_1) ∧ w'.cell? ⟨gb169,2,none⟩ = some (.slice A0_2 l0_2.length c0_2) ∧ w'.cell? ⟨gb169,3,none⟩ = some (.slice A0_3 l0_3.length c0_3)) ∧ (Kd.R (Kd.int .i64) 3 w' w.heap.size (fun _ => True) s_.2 y176) ∧ (w'.heap[gb169]? = some (.cells #[.int .i64 a0_0,.slice A0_1 l0_1.length c0_1,.slice A0_2 l0_2.length c0_2,.slice A0_3 l0_3.length c0_3] 30 (0,0))) ∧ (w'.heap[gb170]? = some (.cells #[.int .i64 0,.slice none 0 0,.slice none 0 0,.slice none 0 0] 30 (0,0))) ∧ (Below w.heap.size w w')) ?_ ?_
            rotate_left
            ·intro hJ2_5
             refine join_ (σ:=Value × Value) 5 #[true,true,true,true,true,false,true,true,true,false,false,false,false] (fun s_ => [(23,s_.1),(27,s_.2)]) (fun s_ w' => (w'.cell? ⟨gb169,0,none⟩ = some (.int .i64 a0_0) ∧ w'.cell? ⟨gb169,1,none⟩ = some (.slice A0_1 l0_1.length c0_1) ∧ w'.cell? ⟨gb169,2,none⟩ = some (.slice A0_2 l0_2.length c0_2) ∧ w'.cell? ⟨gb169,3,none⟩ = some (.slice A0_3 l0_3.length c0_3)) ∧ (Kd.R (Kd.int .i64) 3 w' w.heap.size (fun k_ => some k_ ≠ (s_.2 : Value).ownBlock) s_.1 y173) ∧ (Kd.R (Kd.int .i64) 3 w' w.heap.size (fun k_ => some k_ ≠ (s_.1 : Value).ownBlock) s_.2 y179) ∧ (w'.heap[gb169]? = some (.cells #[.int .i64 a0_0,.slice A0_1 l0_1.length c0_1,.slice A0_2 l0_2.length c0_2,.slice A0_3 l0_3.length c0_3] 30 (0,0))) ∧ (w'.heap[gb170]? = some (.cells #[.int .i64 0,.slice none 0 0,.slice none 0 0,.slice none 0 0] 30 (0,0))) ∧ (Below w.heap.size w w')) ?_ ?_
             rotate_left
             ·intro hJ2_6
              refine join_ (σ:=Value × Nat) 5 #[true,true,true,true,true,false,false,true,true,false,false,true,false] (fun s_ => [(23,s_.1),(6,.pointer (some ⟨s_.2,0,none⟩))]) (fun s_ w' => (w'.cell? ⟨gb169,0,none⟩ = some (.int .i64 a0_0) ∧ w'.cell? ⟨gb169,1,none⟩ = some (.slice A0_1 l0_1.length c0_1) ∧ w'.cell? ⟨gb169,2,none⟩ = some (.slice A0_2 l0_2.length c0_2) ∧ w'.cell? ⟨gb169,3,none⟩ = some (.slice A0_3 l0_3.length c0_3)) ∧ (Kd.R (Kd.int .i64) 3 w' w.heap.size (fun _ => True) s_.1 y173) ∧ (w'.heap[gb169]? = some (.cells #[.int .i64 a0_0,.slice A0_1 l0_1.length c0_1,.slice A0_2 l0_2.length c0_2,.slice A0_3 l0_3.length c0_3] 30 (0,0))) ∧ (w'.heap[gb170]? = some (.cells #[.int .i64 0,.slice none 0 0,.slice none 0 0,.slice none 0 0] 30 (0,0))) ∧ (w'.heap[s_.2]? = some (.cells #[.int .i64 0,.slice none 0 0,.slice none 0 0,.slice none 0 0] 30 (0,0))) ∧ (w.heap.size ≤ s_.2) ∧ (w.heap.size ≤ s_.2) ∧ (gb169 ≠ s_.2) ∧ (s_.2 ≠ gb169) ∧ (gb170 ≠ s_.2) ∧ (s_.2 ≠ gb170) ∧ (Below w.heap.size w w')) ?_ ?_
              rotate_left
              ·intro hJ2_11
               refine join_ (σ:=Value × Nat) 5 #[true,true,false,true,true,false,true,true,true,false,false,true,false] (fun s_ => [(27,s_.1),(6,.pointer (some ⟨s_.2,0,none⟩))]) (fun s_ w' => (w'.cell? ⟨gb169,0,none⟩ = some (.int .i64 a0_0) ∧ w'.cell? ⟨gb169,1,none⟩ = some (.slice A0_1 l0_1.length c0_1) ∧ w'.cell? ⟨gb169,2,none⟩ = some (.slice A0_2 l0_2.length c0_2) ∧ w'.cell? ⟨gb169,3,none⟩ = some (.slice A0_3 l0_3.length c0_3)) ∧ (Kd.R (Kd.int .i64) 3 w' w.heap.size (fun _ => True) s_.1 y179) ∧ (w'.heap[gb169]? = some (.cells #[.int .i64 a0_0,.slice A0_1 l0_1.length c0_1,.slice A0_2 l0_2.length c0_2,.slice A0_3 l0_3.length c0_3] 30 (0,0))) ∧ (w'.heap[gb170]? = some (.cells #[.int .i64 0,.slice none 0 0,.slice none 0 0,.slice none 0 0] 30 (0,0))) ∧ (w'.heap[s_.2]? = some (.cells #[.int .i64 0,.slice none 0 0,.slice none 0 0,.slice none 0 0] 30 (0,0))) ∧ (w.heap.size ≤ s_.2) ∧ (w.heap.size ≤ s_.2) ∧ (gb169 ≠ s_.2) ∧ (s_.2 ≠ gb169) ∧ (gb170 ≠ s_.2) ∧ (s_.2 ≠ gb170) ∧ (Below w.heap.size w w')) ?_ ?_
               rotate_left
               ·intro hJ6_11
                refine join_ (σ:=Value) 6 #[true,true,true,true,true,false,false,true,true,false,false,false,false] (fun s_ => [(23,s_)]) (fun s_ w' => (w'.cell? ⟨gb169,0,none⟩ = some (.int .i64 a0_0) ∧ w'.cell? ⟨gb169,1,none⟩ = some (.slice A0_1 l0_1.length c0_1) ∧ w'.cell? ⟨gb169,2,none⟩ = some (.slice A0_2 l0_2.length c0_2) ∧ w'.cell? ⟨gb169,3,none⟩ = some (.slice A0_3 l0_3.length c0_3)) ∧ (Kd.R (Kd.int .i64) 3 w' w.heap.size (fun _ => True) s_ y173) ∧ (w'.heap[gb169]? = some (.cells #[.int .i64 a0_0,.slice A0_1 l0_1.length c0_1,.slice A0_2 l0_2.length c0_2,.slice A0_3 l0_3.length c0_3] 30 (0,0))) ∧ (w'.heap[gb170]? = some (.cells #[.int .i64 0,.slice none 0 0,.slice none 0 0,.slice none 0 0] 30 (0,0))) ∧ (Below w.heap.size w w')) ?_ ?_
                rotate_left
                ·intro hJ2
                 refine join_ (σ:=Value) 6 #[true,true,false,true,true,false,true,true,true,false,false,false,false] (fun s_ => [(27,s_)]) (fun s_ w' => (w'.cell? ⟨gb169,0,none⟩ = some (.int .i64 a0_0) ∧ w'.cell? ⟨gb169,1,none⟩ = some (.slice A0_1 l0_1.length c0_1) ∧ w'.cell? ⟨gb169,2,none⟩ = some (.slice A0_2 l0_2.length c0_2) ∧ w'.cell? ⟨gb169,3,none⟩ = some (.slice A0_3 l0_3.length c0_3)) ∧ (Kd.R (Kd.int .i64) 3 w' w.heap.size (fun _ => True) s_ y179) ∧ (w'.heap[gb169]? = some (.cells #[.int .i64 a0_0,.slice A0_1 l0_1.length c0_1,.slice A0_2 l0_2.length c0_2,.slice A0_3 l0_3.length c0_3] 30 (0,0))) ∧ (w'.heap[gb170]? = some (.cells #[.int .i64 0,.slice none 0 0,.slice none 0 0,.slice none 0 0] 30 (0,0))) ∧ (Below w.heap.size w w')) ?_ ?_
                 rotate_left
                 ·intro hJ6
                  refine join_ (σ:=Nat) 6 #[true,true,false,true,true,false,false,true,true,false,false,true,false] (fun s_ => [(6,.pointer (some ⟨s_,0,none⟩))]) (fun s_ w' => (w'.cell? ⟨gb169,0,none⟩ = some (.int .i64 a0_0) ∧ w'.cell? ⟨gb169,1,none⟩ = some (.slice A0_1 l0_1.length c0_1) ∧ w'.cell? ⟨gb169,2,none⟩ = some (.slice A0_2 l0_2.length c0_2) ∧ w'.cell? ⟨gb169,3,none⟩ = some (.slice A0_3 l0_3.length c0_3)) ∧ (w'.heap[gb169]? = some (.cells #[.int .i64 a0_0,.slice A0_1 l0_1.length c0_1,.slice A0_2 l0_2.length c0_2,.slice A0_3 l0_3.length c0_3] 30 (0,0))) ∧ (w'.heap[gb170]? = some (.cells #[.int .i64 0,.slice none 0 0,.slice none 0 0,.slice none 0 0] 30 (0,0))) ∧ (w'.heap[s_]? = some (.cells #[.int .i64 0,.slice none 0 0,.slice none 0 0,.slice none 0 0] 30 (0,0))) ∧ (w.heap.size ≤ s_) ∧ (w.heap.size ≤ s_) ∧ (gb169 ≠ s_) ∧ (s_ ≠ gb169) ∧ (gb170 ≠ s_) ∧ (s_ ≠ gb170) ∧ (Below w.heap.size w w')) ?_ ?_
                  rotate_left
                  ·intro hJ11
                   refine three_ (i:=2) (j:=6) (k:=11) (Ni:=some 23) (Nj:=some 27) (Nk:=some 6) #[true,true,true,true,true,false,false,true,true,false,false,false,false] #[true,true,false,true,true,false,true,true,true,false,false,false,false] #[true,true,false,true,true,false,false,true,true,false,false,true,false] rfl rfl rfl rfl rfl rfl (three_of HT_.out (by kernel_rfl)) (by decide) (by decide) (by decide) (fun K hK => ?_) (fun K hK => ?_) (fun K hK => ?_)
                   ·skip
                    refine Kd.R_lit_step (Kd.int .i64) _ 3 ?hg (N:=23) ?hd (xs:=([] : List Int)) (inner:=[]) (ok:=fun _ => True) (okp:=fun _ => True) ?hr ?hp (fun _ hk => hk) trivial (Below.refl _ _) (Nat.le_refl _) (by simp) ?_;(case hd => rfl);(case hg => rfl);(case hr => first|(go_simp;done)|(go_simp;rfl));(case hp => exact (Reps.none _ _))
                    intro v174 w22 ho23 hb hg_ hnew_
                    clear hg_ hnew_
                    (first|rw [← Ny173.out] at ho23|(simp only [Int.reduceToNat] at ho23;rw [← Ny173.out] at ho23))
                    have n0_:=mk_ (Kd.R_lower ho23 (bz_ (qd_ HB GE169 GE170)))
                    have n1_:=mk_ (blk_below (g:=gb169) (o:=.cells #[.int .i64 a0_0,.slice A0_1 l0_1.length c0_1,.slice A0_2 l0_2.length c0_2,.slice A0_3 l0_3.length c0_3] 30 (0,0)) (qk_ BK169) hb)
                    have n2_:=mk_ (blk_below (g:=gb170) (o:=.cells #[.int .i64 0,.slice none 0 0,.slice none 0 0,.slice none 0 0] 30 (0,0)) (qk_ BK170) hb)
                    have n3_:=mk_ (st_ (qd_ HB GE169 GE170) hb)
                    clear BK169
                    clear BK170
                    clear HB
                    have HO175:=n0_
                    have BK169:=n1_
                    have BK170:=n2_
                    have HB:=n3_
                    clear n0_ n1_ n2_ n3_
                    clear hb ho23
                    refine hK.out _ _ ⟨(bc_ BK169.out 0).trans rfl,(bc_ BK169.out 1).trans rfl,(bc_ BK169.out 2).trans rfl,(bc_ BK169.out 3).trans rfl⟩ (fun hHeld => ?_)
                    clear hK K
                    refine norm_ (a':=?_) ?_ ?_
                    rotate_left
                    ·show Act.put _ (some 23) _ = _
                     simp only [Act.put,sx_,sy_,sz_,i64_w,i32_w]
                     rfl
                    exact norm_ (by first|(simp only [putAll,Act.put,sx_,sy_,sz_];done)|(simp only [putAll,Act.put,sx_,sy_,sz_];rfl)) (hJ2 (v174) _ ⟨hHeld,(qr_ HO175),(qk_ BK169),(qk_ BK170),(qd_ HB GE169 GE170)⟩)
                   ·skip
                    refine Kd.R_lit_step (Kd.int .i64) _ 3 ?hg (N:=27) ?hd (xs:=([] : List Int)) (inner:=[]) (ok:=fun _ => True) (okp:=fun _ => True) ?hr ?hp (fun _ hk => hk) trivial (Below.refl _ _) (Nat.le_refl _) (by simp) ?_;(case hd => rfl);(case hg => rfl);(case hr => first|(go_simp;done)|(go_simp;rfl));(case hp => exact (Reps.none _ _))
                    intro v180 w22 ho23 hb hg_ hnew_
                    clear hg_ hnew_
                    (first|rw [← Ny179.out] at ho23|(simp only [Int.reduceToNat] at ho23;rw [← Ny179.out] at ho23))
                    have n0_:=mk_ (Kd.R_lower ho23 (bz_ (qd_ HB GE169 GE170)))
                    have n1_:=mk_ (blk_below (g:=gb169) (o:=.cells #[.int .i64 a0_0,.slice A0_1 l0_1.length c0_1,.slice A0_2 l0_2.length c0_2,.slice A0_3 l0_3.length c0_3] 30 (0,0)) (qk_ BK169) hb)
                    have n2_:=mk_ (blk_below (g:=gb170) (o:=.cells #[.int .i64 0,.slice none 0 0,.slice none 0 0,.slice none 0 0] 30 (0,0)) (qk_ BK170) hb)
                    have n3_:=mk_ (st_ (qd_ HB GE169 GE170) hb)
                    clear BK169
                    clear BK170
                    clear HB
                    have HO181:=n0_
                    have BK169:=n1_
                    have BK170:=n2_
                    have HB:=n3_
                    clear n0_ n1_ n2_ n3_
                    clear hb ho23
                    refine hK.out _ _ ⟨(bc_ BK169.out 0).trans rfl,(bc_ BK169.out 1).trans rfl,(bc_ BK169.out 2).trans rfl,(bc_ BK169.out 3).trans rfl⟩ (fun hHeld => ?_)
                    clear hK K
                    refine norm_ (a':=?_) ?_ ?_
                    rotate_left
                    ·show Act.put _ (some 27) _ = _
                     simp only [Act.put,sx_,sy_,sz_,i64_w,i32_w]
                     rfl
                    exact norm_ (by first|(simp only [putAll,Act.put,sx_,sy_,sz_];done)|(simp only [putAll,Act.put,sx_,sy_,sz_];rfl)) (hJ6 (v180) _ ⟨hHeld,(qr_ HO181),(qk_ BK169),(qk_ BK170),(qd_ HB GE169 GE170)⟩)
                   ·skip
                    refine box_step ?hg (N:=6) ?hd (cs:=#[.int .i64 0,.slice none 0 0,.slice none 0 0,.slice none 0 0]) (t:=30) ?hr ?_;(case hd => rfl);(case hg => rfl);(case hr => first|(go_simp;done)|(go_simp;rfl))
                    intro gb185 hg w22 hbox hb
                    have n0_:=mk_ (blk_below (g:=gb169) (o:=.cells #[.int .i64 a0_0,.slice A0_1 l0_1.length c0_1,.slice A0_2 l0_2.length c0_2,.slice A0_3 l0_3.length c0_3] 30 (0,0)) (qk_ BK169) hb)
                    have n1_:=mk_ (blk_below (g:=gb170) (o:=.cells #[.int .i64 0,.slice none 0 0,.slice none 0 0,.slice none 0 0] 30 (0,0)) (qk_ BK170) hb)
                    have n2_:=mk_ (st_ (qd_ HB GE169 GE170) hb)
                    have n3_:=mk_ (hbox)
                    have n4_:=mk_ ((by rw [hg];exact (bz_ (qd_ HB GE169 GE170)) : w.heap.size ≤ gb185))
                    have n5_:=mk_ ((by rw [hg];exact (bz_ (qd_ HB GE169 GE170)) : w.heap.size ≤ gb185))
                    have n6_:=mk_ ((by rw [hg];exact Nat.ne_of_lt (blk_lt (g:=gb169) (o:=.cells #[.int .i64 a0_0,.slice A0_1 l0_1.length c0_1,.slice A0_2 l0_2.length c0_2,.slice A0_3 l0_3.length c0_3] 30 (0,0)) (qk_ BK169)) : gb169 ≠ gb185))
                    have n7_:=mk_ ((by rw [hg];exact Nat.ne_of_gt (blk_lt (g:=gb169) (o:=.cells #[.int .i64 a0_0,.slice A0_1 l0_1.length c0_1,.slice A0_2 l0_2.length c0_2,.slice A0_3 l0_3.length c0_3] 30 (0,0)) (qk_ BK169)) : gb185 ≠ gb169))
                    have n8_:=mk_ ((by rw [hg];exact Nat.ne_of_lt (blk_lt (g:=gb170) (o:=.cells #[.int .i64 0,.slice none 0 0,.slice none 0 0,.slice none 0 0] 30 (0,0)) (qk_ BK170)) : gb170 ≠ gb185))
                    have n9_:=mk_ ((by rw [hg];exact Nat.ne_of_gt (blk_lt (g:=gb170) (o:=.cells #[.int .i64 0,.slice none 0 0,.slice none 0 0,.slice none 0 0] 30 (0,0)) (qk_ BK170)) : gb185 ≠ gb170))
                    clear BK169
                    clear BK170
                    clear HB
                    have BK169:=n0_
                    have BK170:=n1_
                    have HB:=n2_
                    have BK185:=n3_
                    have GW185:=n4_
                    have GE185:=n5_
                    have NB169_185:=n6_
                    have NB185_169:=n7_
                    have NB170_185:=n8_
                    have NB185_170:=n9_
                    clear n0_ n1_ n2_ n3_ n4_ n5_ n6_ n7_ n8_ n9_
                    clear hb hbox hg
                    refine hK.out _ _ ⟨(bc_ BK169.out 0).trans rfl,(bc_ BK169.out 1).trans rfl,(bc_ BK169.out 2).trans rfl,(bc_ BK169.out 3).trans rfl⟩ (fun hHeld => ?_)
                    clear hK K
                    refine norm_ (a':=?_) ?_ ?_
                    rotate_left
                    ·show Act.put _ (some 6) _ = _
                     simp only [Act.put,sx_,sy_,sz_,i64_w,i32_w]
                     rfl
                    exact norm_ (by first|(simp only [putAll,Act.put,sx_,sy_,sz_];done)|(simp only [putAll,Act.put,sx_,sy_,sz_];rfl)) (hJ11 (gb185) _ ⟨hHeld,(qk_ BK169),(qk_ BK170),(qk_ BK185),GW185.out,GE185.out,NB169_185.out,NB185_169.out,NB170_185.out,NB185_170.out,(u1_ HB GE169 GE170 GE185)⟩)
                  ·skip
                   rintro gb185 w23 ⟨hS_,h0_,h1_,h2_,h3_,h4_,h5_,h6_,h7_,h8_,h9_⟩
                   have n0_ : Aside0 (w23.heap[gb169]? = some (.cells #[.int .i64 a0_0,.slice A0_1 l0_1.length c0_1,.slice A0_2 l0_2.length c0_2,.slice A0_3 l0_3.length c0_3] 30 (0,0))):=⟨h0_⟩
                   have n1_ : Aside0 (w23.heap[gb170]? = some (.cells #[.int .i64 0,.slice none 0 0,.slice none 0 0,.slice none 0 0] 30 (0,0))):=⟨h1_⟩
                   have n2_ : Aside0 (w23.heap[gb185]? = some (.cells #[.int .i64 0,.slice none 0 0,.slice none 0 0,.slice none 0 0] 30 (0,0))):=⟨h2_⟩
                   have n3_ : Aside0 (w.heap.size ≤ gb185):=⟨h3_⟩
                   have n4_ : Aside0 (w.heap.size ≤ gb185):=⟨h4_⟩
                   have n5_ : Aside0 (gb169 ≠ gb185):=⟨h5_⟩
                   have n6_ : Aside0 (gb185 ≠ gb169):=⟨h6_⟩
                   have n7_ : Aside0 (gb170 ≠ gb185):=⟨h7_⟩
                   have n8_ : Aside0 (gb185 ≠ gb170):=⟨h8_⟩
                   have n9_ : Aside0 (Below w.heap.size w w23):=⟨h9_⟩
                   clear BK169
                   clear BK170
                   clear HB
                   clear h0_ h1_ h2_ h3_ h4_ h5_ h6_ h7_ h8_ h9_
                   have BK169:=n0_
                   have BK170:=n1_
                   have BK185:=n2_
                   have GW185:=n3_
                   have GE185:=n4_
                   have NB169_185:=n5_
                   have NB185_169:=n6_
                   have NB170_185:=n7_
                   have NB185_170:=n8_
                   have HB:=n9_
                   clear n0_ n1_ n2_ n3_ n4_ n5_ n6_ n7_ n8_ n9_
                   have hHeld : w23.cell? ⟨gb169,0,none⟩ = some (.int .i64 a0_0) ∧ w23.cell? ⟨gb169,1,none⟩ = some (.slice A0_1 l0_1.length c0_1) ∧ w23.cell? ⟨gb169,2,none⟩ = some (.slice A0_2 l0_2.length c0_2) ∧ w23.cell? ⟨gb169,3,none⟩ = some (.slice A0_3 l0_3.length c0_3):=hS_
                   refine norm_ (a':=?_) ?_ ?_
                   rotate_left
                   ·simp only [putAll,Act.put,sx_,sy_,sz_]
                    rfl
                   refine two_ (i:=2) (j:=6) (Ni:=some 23) (Nj:=some 27) #[true,true,true,true,true,false,false,true,true,false,false,true,false] #[true,true,false,true,true,false,true,true,true,false,false,true,false] rfl rfl rfl rfl (two_of HT_.out (by kernel_rfl)) (by decide) (by decide) (fun K hK => ?_) (fun K hK => ?_)
                   ·skip
                    refine Kd.R_lit_step (Kd.int .i64) _ 3 ?hg (N:=23) ?hd (xs:=([] : List Int)) (inner:=[]) (ok:=fun _ => True) (okp:=fun _ => True) ?hr ?hp (fun _ hk => hk) trivial (Below.refl _ _) (Nat.le_refl _) (by simp) ?_;(case hd => rfl);(case hg => rfl);(case hr => first|(go_simp;done)|(go_simp;rfl));(case hp => exact (Reps.none _ _))
                    intro v174 w24 ho25 hb hg_ hnew_
                    clear hg_ hnew_
                    (first|rw [← Ny173.out] at ho25|(simp only [Int.reduceToNat] at ho25;rw [← Ny173.out] at ho25))
                    have n0_:=mk_ (Kd.R_lower ho25 (bz_ (u1_ HB GE169 GE170 GE185)))
                    have n1_:=mk_ (blk_below (g:=gb169) (o:=.cells #[.int .i64 a0_0,.slice A0_1 l0_1.length c0_1,.slice A0_2 l0_2.length c0_2,.slice A0_3 l0_3.length c0_3] 30 (0,0)) (qk_ BK169) hb)
                    have n2_:=mk_ (blk_below (g:=gb170) (o:=.cells #[.int .i64 0,.slice none 0 0,.slice none 0 0,.slice none 0 0] 30 (0,0)) (qk_ BK170) hb)
                    have n3_:=mk_ (blk_below (g:=gb185) (o:=.cells #[.int .i64 0,.slice none 0 0,.slice none 0 0,.slice none 0 0] 30 (0,0)) (qk_ BK185) hb)
                    have n4_:=mk_ (st_ (u1_ HB GE169 GE170 GE185) hb)
                    clear BK169
                    clear BK170
                    clear BK185
                    clear HB
                    have HO175:=n0_
                    have BK169:=n1_
                    have BK170:=n2_
                    have BK185:=n3_
                    have HB:=n4_
                    clear n0_ n1_ n2_ n3_ n4_
                    clear hb ho25
                    refine hK.out _ _ ⟨(bc_ BK169.out 0).trans rfl,(bc_ BK169.out 1).trans rfl,(bc_ BK169.out 2).trans rfl,(bc_ BK169.out 3).trans rfl⟩ (fun hHeld => ?_)
                    clear hK K
                    refine norm_ (a':=?_) ?_ ?_
                    rotate_left
                    ·show Act.put _ (some 23) _ = _
                     simp only [Act.put,sx_,sy_,sz_,i64_w,i32_w]
                     rfl
                    exact norm_ (by first|(simp only [putAll,Act.put,sx_,sy_,sz_];done)|(simp only [putAll,Act.put,sx_,sy_,sz_];rfl)) (hJ2_11 (v174,gb185) _ ⟨hHeld,(qr_ HO175),(qk_ BK169),(qk_ BK170),(qk_ BK185),GW185.out,GE185.out,NB169_185.out,NB185_169.out,NB170_185.out,NB185_170.out,(u1_ HB GE169 GE170 GE185)⟩)
                   ·skip
                    refine Kd.R_lit_step (Kd.int .i64) _ 3 ?hg (N:=27) ?hd (xs:=([] : List Int)) (inner:=[]) (ok:=fun _ => True) (okp:=fun _ => True) ?hr ?hp (fun _ hk => hk) trivial (Below.refl _ _) (Nat.le_refl _) (by simp) ?_;(case hd => rfl);(case hg => rfl);(case hr => first|(go_simp;done)|(go_simp;rfl));(case hp => exact (Reps.none _ _))
                    intro v180 w24 ho25 hb hg_ hnew_
                    clear hg_ hnew_
                    (first|rw [← Ny179.out] at ho25|(simp only [Int.reduceToNat] at ho25;rw [← Ny179.out] at ho25))
                    have n0_:=mk_ (Kd.R_lower ho25 (bz_ (u1_ HB GE169 GE170 GE185)))
                    have n1_:=mk_ (blk_below (g:=gb169) (o:=.cells #[.int .i64 a0_0,.slice A0_1 l0_1.length c0_1,.slice A0_2 l0_2.length c0_2,.slice A0_3 l0_3.length c0_3] 30 (0,0)) (qk_ BK169) hb)
                    have n2_:=mk_ (blk_below (g:=gb170) (o:=.cells #[.int .i64 0,.slice none 0 0,.slice none 0 0,.slice none 0 0] 30 (0,0)) (qk_ BK170) hb)
                    have n3_:=mk_ (blk_below (g:=gb185) (o:=.cells #[.int .i64 0,.slice none 0 0,.slice none 0 0,.slice none 0 0] 30 (0,0)) (qk_ BK185) hb)
                    have n4_:=mk_ (st_ (u1_ HB GE169 GE170 GE185) hb)
                    clear BK169
                    clear BK170
                    clear BK185
                    clear HB
                    have HO181:=n0_
                    have BK169:=n1_
                    have BK170:=n2_
                    have BK185:=n3_
                    have HB:=n4_
                    clear n0_ n1_ n2_ n3_ n4_
                    clear hb ho25
                    refine hK.out _ _ ⟨(bc_ BK169.out 0).trans rfl,(bc_ BK169.out 1).trans rfl,(bc_ BK169.out 2).trans rfl,(bc_ BK169.out 3).trans rfl⟩ (fun hHeld => ?_)
                    clear hK K
                    refine norm_ (a':=?_) ?_ ?_
                    rotate_left
                    ·show Act.put _ (some 27) _ = _
                     simp only [Act.put,sx_,sy_,sz_,i64_w,i32_w]
                     rfl
                    exact norm_ (by first|(simp only [putAll,Act.put,sx_,sy_,sz_];done)|(simp only [putAll,Act.put,sx_,sy_,sz_];rfl)) (hJ6_11 (v180,gb185) _ ⟨hHeld,(qr_ HO181),(qk_ BK169),(qk_ BK170),(qk_ BK185),GW185.out,GE185.out,NB169_185.out,NB185_169.out,NB170_185.out,NB185_170.out,(u1_ HB GE169 GE170 GE185)⟩)
                 ·skip
                  rintro v180 w24 ⟨hS_,h0_,h1_,h2_,h3_⟩
                  have n0_ : Aside0 (Kd.R (Kd.int .i64) 3 w24 w.heap.size (fun _ => True) v180 y179):=⟨h0_⟩
                  have n1_ : Aside0 (w24.heap[gb169]? = some (.cells #[.int .i64 a0_0,.slice A0_1 l0_1.length c0_1,.slice A0_2 l0_2.length c0_2,.slice A0_3 l0_3.length c0_3] 30 (0,0))):=⟨h1_⟩
                  have n2_ : Aside0 (w24.heap[gb170]? = some (.cells #[.int .i64 0,.slice none 0 0,.slice none 0 0,.slice none 0 0] 30 (0,0))):=⟨h2_⟩
                  have n3_ : Aside0 (Below w.heap.size w w24):=⟨h3_⟩
                  clear BK169
                  clear BK170
                  clear HB
                  clear h0_ h1_ h2_ h3_
                  have HO181:=n0_
                  have BK169:=n1_
                  have BK170:=n2_
                  have HB:=n3_
                  clear n0_ n1_ n2_ n3_
                  have hHeld : w24.cell? ⟨gb169,0,none⟩ = some (.int .i64 a0_0) ∧ w24.cell? ⟨gb169,1,none⟩ = some (.slice A0_1 l0_1.length c0_1) ∧ w24.cell? ⟨gb169,2,none⟩ = some (.slice A0_2 l0_2.length c0_2) ∧ w24.cell? ⟨gb169,3,none⟩ = some (.slice A0_3 l0_3.length c0_3):=hS_
                  refine norm_ (a':=?_) ?_ ?_
                  rotate_left
                  ·simp only [putAll,Act.put,sx_,sy_,sz_]
                   rfl
                  refine two_ (i:=2) (j:=11) (Ni:=some 23) (Nj:=some 6) #[true,true,true,true,true,false,true,true,true,false,false,false,false] #[true,true,false,true,true,false,true,true,true,false,false,true,false] rfl rfl rfl rfl (two_of HT_.out (by kernel_rfl)) (by decide) (by decide) (fun K hK => ?_) (fun K hK => ?_)
                  ·skip
                   refine Kd.R_lit_step (Kd.int .i64) _ 3 ?hg (N:=23) ?hd (xs:=([] : List Int)) (inner:=[]) (ok:=fun _ => True) (okp:=fun _ => True) ?hr ?hp (fun _ hk => hk) trivial (Below.refl _ _) (Nat.le_refl _) (by simp) ?_;(case hd => rfl);(case hg => rfl);(case hr => first|(go_simp;done)|(go_simp;rfl));(case hp => exact (Reps.none _ _))
                   intro v174 w25 ho26 hb hg_ hnew_
                   clear hg_ hnew_
                   (first|rw [← Ny173.out] at ho26|(simp only [Int.reduceToNat] at ho26;rw [← Ny173.out] at ho26))
                   have n0_:=mk_ (re_ (qr_ HO181) (Kd.R_base ho26) hb)
                   have n1_:=mk_ (Kd.R_lower (Kd.R_new' ho26 (Kd.R_lt (qr_ HO181))) (bz_ (qd_ HB GE169 GE170)))
                   have n2_:=mk_ (blk_below (g:=gb169) (o:=.cells #[.int .i64 a0_0,.slice A0_1 l0_1.length c0_1,.slice A0_2 l0_2.length c0_2,.slice A0_3 l0_3.length c0_3] 30 (0,0)) (qk_ BK169) hb)
                   have n3_:=mk_ (blk_below (g:=gb170) (o:=.cells #[.int .i64 0,.slice none 0 0,.slice none 0 0,.slice none 0 0] 30 (0,0)) (qk_ BK170) hb)
                   have n4_:=mk_ (st_ (qd_ HB GE169 GE170) hb)
                   clear HO181
                   clear BK169
                   clear BK170
                   clear HB
                   have HO181:=n0_
                   have HO175:=n1_
                   have BK169:=n2_
                   have BK170:=n3_
                   have HB:=n4_
                   clear n0_ n1_ n2_ n3_ n4_
                   clear hb ho26
                   refine hK.out _ _ ⟨(bc_ BK169.out 0).trans rfl,(bc_ BK169.out 1).trans rfl,(bc_ BK169.out 2).trans rfl,(bc_ BK169.out 3).trans rfl⟩ (fun hHeld => ?_)
                   clear hK K
                   refine norm_ (a':=?_) ?_ ?_
                   rotate_left
                   ·show Act.put _ (some 23) _ = _
                    simp only [Act.put,sx_,sy_,sz_,i64_w,i32_w]
                    rfl
                   exact norm_ (by first|(simp only [putAll,Act.put,sx_,sy_,sz_];done)|(simp only [putAll,Act.put,sx_,sy_,sz_];rfl)) (hJ2_6 (v174,v180) _ ⟨hHeld,(by (with_reducible repeat (first|apply ra_|apply rn_|apply rd_));exact rm_ HO175.out (λ_ h=>h.2)),(by (with_reducible repeat (first|apply ra_|apply rn_|apply rd_));exact rm_ HO181.out (λ_ h=>h.2)),(qk_ BK169),(qk_ BK170),(qd_ HB GE169 GE170)⟩)
                  ·skip
                   refine box_step ?hg (N:=6) ?hd (cs:=#[.int .i64 0,.slice none 0 0,.slice none 0 0,.slice none 0 0]) (t:=30) ?hr ?_;(case hd => rfl);(case hg => rfl);(case hr => first|(go_simp;done)|(go_simp;rfl))
                   intro gb185 hg w25 hbox hb
                   have n0_:=mk_ (rb_ (qr_ HO181) hb)
                   have n1_:=mk_ (blk_below (g:=gb169) (o:=.cells #[.int .i64 a0_0,.slice A0_1 l0_1.length c0_1,.slice A0_2 l0_2.length c0_2,.slice A0_3 l0_3.length c0_3] 30 (0,0)) (qk_ BK169) hb)
                   have n2_:=mk_ (blk_below (g:=gb170) (o:=.cells #[.int .i64 0,.slice none 0 0,.slice none 0 0,.slice none 0 0] 30 (0,0)) (qk_ BK170) hb)
                   have n3_:=mk_ (st_ (qd_ HB GE169 GE170) hb)
                   have n4_:=mk_ (hbox)
                   have n5_:=mk_ ((by rw [hg];exact (bz_ (qd_ HB GE169 GE170)) : w.heap.size ≤ gb185))
                   have n6_:=mk_ ((by rw [hg];exact (bz_ (qd_ HB GE169 GE170)) : w.heap.size ≤ gb185))
                   have n7_:=mk_ ((by rw [hg];exact Nat.ne_of_lt (blk_lt (g:=gb169) (o:=.cells #[.int .i64 a0_0,.slice A0_1 l0_1.length c0_1,.slice A0_2 l0_2.length c0_2,.slice A0_3 l0_3.length c0_3] 30 (0,0)) (qk_ BK169)) : gb169 ≠ gb185))
                   have n8_:=mk_ ((by rw [hg];exact Nat.ne_of_gt (blk_lt (g:=gb169) (o:=.cells #[.int .i64 a0_0,.slice A0_1 l0_1.length c0_1,.slice A0_2 l0_2.length c0_2,.slice A0_3 l0_3.length c0_3] 30 (0,0)) (qk_ BK169)) : gb185 ≠ gb169))
                   have n9_:=mk_ ((by rw [hg];exact Nat.ne_of_lt (blk_lt (g:=gb170) (o:=.cells #[.int .i64 0,.slice none 0 0,.slice none 0 0,.slice none 0 0] 30 (0,0)) (qk_ BK170)) : gb170 ≠ gb185))
                   have n10_:=mk_ ((by rw [hg];exact Nat.ne_of_gt (blk_lt (g:=gb170) (o:=.cells #[.int .i64 0,.slice none 0 0,.slice none 0 0,.slice none 0 0] 30 (0,0)) (qk_ BK170)) : gb185 ≠ gb170))
                   clear HO181
                   clear BK169
                   clear BK170
                   clear HB
                   have HO181:=n0_
                   have BK169:=n1_
                   have BK170:=n2_
                   have HB:=n3_
                   have BK185:=n4_
                   have GW185:=n5_
                   have GE185:=n6_
                   have NB169_185:=n7_
                   have NB185_169:=n8_
                   have NB170_185:=n9_
                   have NB185_170:=n10_
                   clear n0_ n1_ n2_ n3_ n4_ n5_ n6_ n7_ n8_ n9_ n10_
                   clear hb hbox hg
                   refine hK.out _ _ ⟨(bc_ BK169.out 0).trans rfl,(bc_ BK169.out 1).trans rfl,(bc_ BK169.out 2).trans rfl,(bc_ BK169.out 3).trans rfl⟩ (fun hHeld => ?_)
                   clear hK K
                   refine norm_ (a':=?_) ?_ ?_
                   rotate_left
                   ·show Act.put _ (some 6) _ = _
                    simp only [Act.put,sx_,sy_,sz_,i64_w,i32_w]
                    rfl
                   exact norm_ (by first|(simp only [putAll,Act.put,sx_,sy_,sz_];done)|(simp only [putAll,Act.put,sx_,sy_,sz_];rfl)) (hJ6_11 (v180,gb185) _ ⟨hHeld,(qr_ HO181),(qk_ BK169),(qk_ BK170),(qk_ BK185),GW185.out,GE185.out,NB169_185.out,NB185_169.out,NB170_185.out,NB185_170.out,(u1_ HB GE169 GE170 GE185)⟩)
                ·skip
                 rintro v174 w24 ⟨hS_,h0_,h1_,h2_,h3_⟩
                 have n0_ : Aside0 (Kd.R (Kd.int .i64) 3 w24 w.heap.size (fun _ => True) v174 y173):=⟨h0_⟩
                 have n1_ : Aside0 (w24.heap[gb169]? = some (.cells #[.int .i64 a0_0,.slice A0_1 l0_1.length c0_1,.slice A0_2 l0_2.length c0_2,.slice A0_3 l0_3.length c0_3] 30 (0,0))):=⟨h1_⟩
                 have n2_ : Aside0 (w24.heap[gb170]? = some (.cells #[.int .i64 0,.slice none 0 0,.slice none 0 0,.slice none 0 0] 30 (0,0))):=⟨h2_⟩
                 have n3_ : Aside0 (Below w.heap.size w w24):=⟨h3_⟩
                 clear BK169
                 clear BK170
                 clear HB
                 clear h0_ h1_ h2_ h3_
                 have HO175:=n0_
                 have BK169:=n1_
                 have BK170:=n2_
                 have HB:=n3_
                 clear n0_ n1_ n2_ n3_
                 have hHeld : w24.cell? ⟨gb169,0,none⟩ = some (.int .i64 a0_0) ∧ w24.cell? ⟨gb169,1,none⟩ = some (.slice A0_1 l0_1.length c0_1) ∧ w24.cell? ⟨gb169,2,none⟩ = some (.slice A0_2 l0_2.length c0_2) ∧ w24.cell? ⟨gb169,3,none⟩ = some (.slice A0_3 l0_3.length c0_3):=hS_
                 refine norm_ (a':=?_) ?_ ?_
                 rotate_left
                 ·simp only [putAll,Act.put,sx_,sy_,sz_]
                  rfl
                 refine three_ (i:=5) (j:=6) (k:=11) (Ni:=some 26) (Nj:=some 27) (Nk:=some 6) #[true,true,true,true,true,true,false,true,true,false,false,false,false] #[true,true,true,true,true,false,true,true,true,false,false,false,false] #[true,true,true,true,true,false,false,true,true,false,false,true,false] rfl rfl rfl rfl rfl rfl (three_of HT_.out (by kernel_rfl)) (by decide) (by decide) (by decide) (fun K hK => ?_) (fun K hK => ?_) (fun K hK => ?_)
                 ·skip
                  refine Kd.R_append_rows_step (Kd.int .i64) (w0:=w) w.heap.size (by rfl) (.tmp 23) (.tmp 25) 23 3 (.int .i64 0) 8 rfl Try.underlying23 info3 rfl (by decide) (by omega) v174 y173 l0_2 _ _ _ (fun _ => True) (fun _ => False) rfl rfl ?aO ?aR (fun _ _ h => h) (fun _ h => h.elim) ?aF ?aB ?aS ?aL ?_
                  (case aR => exact qn_ HR0_2 HB)
                  (case aB => exact (qd_ HB GE169 GE170))
                  (case aF => exact (fun _ _ => trivial))
                  (case aO => exact (qr_ HO175))
                  (case aS => exact (bz_ (qd_ HB GE169 GE170)))
                  (case aL => have:=LMc19.out;omega)
                  intro v177 w25 ho hb hg hat
                  rw [← Ny176.out] at ho
                  have n0_:=mk_ (blk_grown (g:=gb169) (o:=.cells #[.int .i64 a0_0,.slice A0_1 l0_1.length c0_1,.slice A0_2 l0_2.length c0_2,.slice A0_3 l0_3.length c0_3] 30 (0,0)) (qk_ BK169) hg (Kd.R_ne HO175.out BK169.out (by decide)))
                  have n1_:=mk_ (blk_grown (g:=gb170) (o:=.cells #[.int .i64 0,.slice none 0 0,.slice none 0 0,.slice none 0 0] 30 (0,0)) (qk_ BK170) hg (Kd.R_ne HO175.out BK170.out (by decide)))
                  have n2_:=mk_ (hb)
                  have n3_:=mk_ (ho)
                  clear BK169
                  clear BK170
                  clear HB
                  clear HO175
                  have BK169:=n0_
                  have BK170:=n1_
                  have HB:=n2_
                  have HO178:=n3_
                  clear n0_ n1_ n2_ n3_
                  clear ho hb hg hat
                  refine hK.out _ _ ⟨(bc_ BK169.out 0).trans rfl,(bc_ BK169.out 1).trans rfl,(bc_ BK169.out 2).trans rfl,(bc_ BK169.out 3).trans rfl⟩ (fun hHeld => ?_)
                  clear hK K
                  refine norm_ (a':=?_) ?_ ?_
                  rotate_left
                  ·show Act.put _ (some 26) _ = _
                   simp only [Act.put,sx_,sy_,sz_,i64_w,i32_w]
                   rfl
                  exact norm_ (by first|(simp only [putAll,Act.put,sx_,sy_,sz_];done)|(simp only [putAll,Act.put,sx_,sy_,sz_];rfl)) (hJ2_5 (v174,v177) _ ⟨hHeld,(qr_ HO178),(qk_ BK169),(qk_ BK170),(qd_ HB GE169 GE170)⟩)
                 ·skip
                  refine Kd.R_lit_step (Kd.int .i64) _ 3 ?hg (N:=27) ?hd (xs:=([] : List Int)) (inner:=[]) (ok:=fun _ => True) (okp:=fun _ => True) ?hr ?hp (fun _ hk => hk) trivial (Below.refl _ _) (Nat.le_refl _) (by simp) ?_;(case hd => rfl);(case hg => rfl);(case hr => first|(go_simp;done)|(go_simp;rfl));(case hp => exact (Reps.none _ _))
                  intro v180 w25 ho26 hb hg_ hnew_
                  clear hg_ hnew_
                  (first|rw [← Ny179.out] at ho26|(simp only [Int.reduceToNat] at ho26;rw [← Ny179.out] at ho26))
                  have n0_:=mk_ (re_ (qr_ HO175) (Kd.R_base ho26) hb)
                  have n1_:=mk_ (Kd.R_lower (Kd.R_new' ho26 (Kd.R_lt (qr_ HO175))) (bz_ (qd_ HB GE169 GE170)))
                  have n2_:=mk_ (blk_below (g:=gb169) (o:=.cells #[.int .i64 a0_0,.slice A0_1 l0_1.length c0_1,.slice A0_2 l0_2.length c0_2,.slice A0_3 l0_3.length c0_3] 30 (0,0)) (qk_ BK169) hb)
                  have n3_:=mk_ (blk_below (g:=gb170) (o:=.cells #[.int .i64 0,.slice none 0 0,.slice none 0 0,.slice none 0 0] 30 (0,0)) (qk_ BK170) hb)
                  have n4_:=mk_ (st_ (qd_ HB GE169 GE170) hb)
                  clear HO175
                  clear BK169
                  clear BK170
                  clear HB
                  have HO175:=n0_
                  have HO181:=n1_
                  have BK169:=n2_
                  have BK170:=n3_
                  have HB:=n4_
                  clear n0_ n1_ n2_ n3_ n4_
                  clear hb ho26
                  refine hK.out _ _ ⟨(bc_ BK169.out 0).trans rfl,(bc_ BK169.out 1).trans rfl,(bc_ BK169.out 2).trans rfl,(bc_ BK169.out 3).trans rfl⟩ (fun hHeld => ?_)
                  clear hK K
                  refine norm_ (a':=?_) ?_ ?_
                  rotate_left
                  ·show Act.put _ (some 27) _ = _
                   simp only [Act.put,sx_,sy_,sz_,i64_w,i32_w]
                   rfl
                  exact norm_ (by first|(simp only [putAll,Act.put,sx_,sy_,sz_];done)|(simp only [putAll,Act.put,sx_,sy_,sz_];rfl)) (hJ2_6 (v174,v180) _ ⟨hHeld,(by (with_reducible repeat (first|apply ra_|apply rn_|apply rd_));exact rm_ HO175.out (λ_ h=>h.2)),(by (with_reducible repeat (first|apply ra_|apply rn_|apply rd_));exact rm_ HO181.out (λ_ h=>h.2)),(qk_ BK169),(qk_ BK170),(qd_ HB GE169 GE170)⟩)
                 ·skip
                  refine box_step ?hg (N:=6) ?hd (cs:=#[.int .i64 0,.slice none 0 0,.slice none 0 0,.slice none 0 0]) (t:=30) ?hr ?_;(case hd => rfl);(case hg => rfl);(case hr => first|(go_simp;done)|(go_simp;rfl))
                  intro gb185 hg w25 hbox hb
                  have n0_:=mk_ (rb_ (qr_ HO175) hb)
                  have n1_:=mk_ (blk_below (g:=gb169) (o:=.cells #[.int .i64 a0_0,.slice A0_1 l0_1.length c0_1,.slice A0_2 l0_2.length c0_2,.slice A0_3 l0_3.length c0_3] 30 (0,0)) (qk_ BK169) hb)
                  have n2_:=mk_ (blk_below (g:=gb170) (o:=.cells #[.int .i64 0,.slice none 0 0,.slice none 0 0,.slice none 0 0] 30 (0,0)) (qk_ BK170) hb)
                  have n3_:=mk_ (st_ (qd_ HB GE169 GE170) hb)
                  have n4_:=mk_ (hbox)
                  have n5_:=mk_ ((by rw [hg];exact (bz_ (qd_ HB GE169 GE170)) : w.heap.size ≤ gb185))
                  have n6_:=mk_ ((by rw [hg];exact (bz_ (qd_ HB GE169 GE170)) : w.heap.size ≤ gb185))
                  have n7_:=mk_ ((by rw [hg];exact Nat.ne_of_lt (blk_lt (g:=gb169) (o:=.cells #[.int .i64 a0_0,.slice A0_1 l0_1.length c0_1,.slice A0_2 l0_2.length c0_2,.slice A0_3 l0_3.length c0_3] 30 (0,0)) (qk_ BK169)) : gb169 ≠ gb185))
                  have n8_:=mk_ ((by rw [hg];exact Nat.ne_of_gt (blk_lt (g:=gb169) (o:=.cells #[.int .i64 a0_0,.slice A0_1 l0_1.length c0_1,.slice A0_2 l0_2.length c0_2,.slice A0_3 l0_3.length c0_3] 30 (0,0)) (qk_ BK169)) : gb185 ≠ gb169))
                  have n9_:=mk_ ((by rw [hg];exact Nat.ne_of_lt (blk_lt (g:=gb170) (o:=.cells #[.int .i64 0,.slice none 0 0,.slice none 0 0,.slice none 0 0] 30 (0,0)) (qk_ BK170)) : gb170 ≠ gb185))
                  have n10_:=mk_ ((by rw [hg];exact Nat.ne_of_gt (blk_lt (g:=gb170) (o:=.cells #[.int .i64 0,.slice none 0 0,.slice none 0 0,.slice none 0 0] 30 (0,0)) (qk_ BK170)) : gb185 ≠ gb170))
                  clear HO175
                  clear BK169
                  clear BK170
                  clear HB
                  have HO175:=n0_
                  have BK169:=n1_
                  have BK170:=n2_
                  have HB:=n3_
                  have BK185:=n4_
                  have GW185:=n5_
                  have GE185:=n6_
                  have NB169_185:=n7_
                  have NB185_169:=n8_
                  have NB170_185:=n9_
                  have NB185_170:=n10_
                  clear n0_ n1_ n2_ n3_ n4_ n5_ n6_ n7_ n8_ n9_ n10_
                  clear hb hbox hg
                  refine hK.out _ _ ⟨(bc_ BK169.out 0).trans rfl,(bc_ BK169.out 1).trans rfl,(bc_ BK169.out 2).trans rfl,(bc_ BK169.out 3).trans rfl⟩ (fun hHeld => ?_)
                  clear hK K
                  refine norm_ (a':=?_) ?_ ?_
                  rotate_left
                  ·show Act.put _ (some 6) _ = _
                   simp only [Act.put,sx_,sy_,sz_,i64_w,i32_w]
                   rfl
                  exact norm_ (by first|(simp only [putAll,Act.put,sx_,sy_,sz_];done)|(simp only [putAll,Act.put,sx_,sy_,sz_];rfl)) (hJ2_11 (v174,gb185) _ ⟨hHeld,(qr_ HO175),(qk_ BK169),(qk_ BK170),(qk_ BK185),GW185.out,GE185.out,NB169_185.out,NB185_169.out,NB170_185.out,NB185_170.out,(u1_ HB GE169 GE170 GE185)⟩)
               ·skip
                rintro ⟨v180,gb185⟩ w25 ⟨hS_,h0_,h1_,h2_,h3_,h4_,h5_,h6_,h7_,h8_,h9_,h10_⟩
                have n0_ : Aside0 (Kd.R (Kd.int .i64) 3 w25 w.heap.size (fun _ => True) v180 y179):=⟨h0_⟩
                have n1_ : Aside0 (w25.heap[gb169]? = some (.cells #[.int .i64 a0_0,.slice A0_1 l0_1.length c0_1,.slice A0_2 l0_2.length c0_2,.slice A0_3 l0_3.length c0_3] 30 (0,0))):=⟨h1_⟩
                have n2_ : Aside0 (w25.heap[gb170]? = some (.cells #[.int .i64 0,.slice none 0 0,.slice none 0 0,.slice none 0 0] 30 (0,0))):=⟨h2_⟩
                have n3_ : Aside0 (w25.heap[gb185]? = some (.cells #[.int .i64 0,.slice none 0 0,.slice none 0 0,.slice none 0 0] 30 (0,0))):=⟨h3_⟩
                have n4_ : Aside0 (w.heap.size ≤ gb185):=⟨h4_⟩
                have n5_ : Aside0 (w.heap.size ≤ gb185):=⟨h5_⟩
                have n6_ : Aside0 (gb169 ≠ gb185):=⟨h6_⟩
                have n7_ : Aside0 (gb185 ≠ gb169):=⟨h7_⟩
                have n8_ : Aside0 (gb170 ≠ gb185):=⟨h8_⟩
                have n9_ : Aside0 (gb185 ≠ gb170):=⟨h9_⟩
                have n10_ : Aside0 (Below w.heap.size w w25):=⟨h10_⟩
                clear BK169
                clear BK170
                clear HB
                clear h0_ h1_ h2_ h3_ h4_ h5_ h6_ h7_ h8_ h9_ h10_
                have HO181:=n0_
                have BK169:=n1_
                have BK170:=n2_
                have BK185:=n3_
                have GW185:=n4_
                have GE185:=n5_
                have NB169_185:=n6_
                have NB185_169:=n7_
                have NB170_185:=n8_
                have NB185_170:=n9_
                have HB:=n10_
                clear n0_ n1_ n2_ n3_ n4_ n5_ n6_ n7_ n8_ n9_ n10_
                have hHeld : w25.cell? ⟨gb169,0,none⟩ = some (.int .i64 a0_0) ∧ w25.cell? ⟨gb169,1,none⟩ = some (.slice A0_1 l0_1.length c0_1) ∧ w25.cell? ⟨gb169,2,none⟩ = some (.slice A0_2 l0_2.length c0_2) ∧ w25.cell? ⟨gb169,3,none⟩ = some (.slice A0_3 l0_3.length c0_3):=hS_
                refine norm_ (a':=?_) ?_ ?_
                rotate_left
                ·simp only [putAll,Act.put,sx_,sy_,sz_]
                 rfl
                refine one_ (i:=2) (N:=some 23) #[true,true,true,true,true,false,true,true,true,false,false,true,false] rfl rfl (one_of HT_.out (by kernel_rfl)) (by decide) (fun K hK => ?_)
                refine Kd.R_lit_step (Kd.int .i64) _ 3 ?hg (N:=23) ?hd (xs:=([] : List Int)) (inner:=[]) (ok:=fun _ => True) (okp:=fun _ => True) ?hr ?hp (fun _ hk => hk) trivial (Below.refl _ _) (Nat.le_refl _) (by simp) ?_;(case hd => rfl);(case hg => rfl);(case hr => first|(go_simp;done)|(go_simp;rfl));(case hp => exact (Reps.none _ _))
                intro v174 w26 ho27 hb hg_ hnew_
                clear hg_ hnew_
                (first|rw [← Ny173.out] at ho27|(simp only [Int.reduceToNat] at ho27;rw [← Ny173.out] at ho27))
                have n0_:=mk_ (re_ (qr_ HO181) (Kd.R_base ho27) hb)
                have n1_:=mk_ (Kd.R_lower (Kd.R_new' ho27 (Kd.R_lt (qr_ HO181))) (bz_ (u1_ HB GE169 GE170 GE185)))
                have n2_:=mk_ (blk_below (g:=gb169) (o:=.cells #[.int .i64 a0_0,.slice A0_1 l0_1.length c0_1,.slice A0_2 l0_2.length c0_2,.slice A0_3 l0_3.length c0_3] 30 (0,0)) (qk_ BK169) hb)
                have n3_:=mk_ (blk_below (g:=gb170) (o:=.cells #[.int .i64 0,.slice none 0 0,.slice none 0 0,.slice none 0 0] 30 (0,0)) (qk_ BK170) hb)
                have n4_:=mk_ (blk_below (g:=gb185) (o:=.cells #[.int .i64 0,.slice none 0 0,.slice none 0 0,.slice none 0 0] 30 (0,0)) (qk_ BK185) hb)
                have n5_:=mk_ (st_ (u1_ HB GE169 GE170 GE185) hb)
                clear HO181
                clear BK169
                clear BK170
                clear BK185
                clear HB
                have HO181:=n0_
                have HO175:=n1_
                have BK169:=n2_
                have BK170:=n3_
                have BK185:=n4_
                have HB:=n5_
                clear n0_ n1_ n2_ n3_ n4_ n5_
                clear hb ho27
                refine hK.out _ _ ⟨(bc_ BK169.out 0).trans rfl,(bc_ BK169.out 1).trans rfl,(bc_ BK169.out 2).trans rfl,(bc_ BK169.out 3).trans rfl⟩ (fun hHeld => ?_)
                clear hK K
                refine norm_ (a':=?_) ?_ ?_
                rotate_left
                ·show Act.put _ (some 23) _ = _
                 simp only [Act.put,sx_,sy_,sz_,i64_w,i32_w]
                 rfl
                exact norm_ (by first|(simp only [putAll,Act.put,sx_,sy_,sz_];done)|(simp only [putAll,Act.put,sx_,sy_,sz_];rfl)) (hJ2_6_11 (v174,v180,gb185) _ ⟨hHeld,(by (with_reducible repeat (first|apply ra_|apply rn_|apply rd_));exact rm_ HO175.out (λ_ h=>h.2)),(by (with_reducible repeat (first|apply ra_|apply rn_|apply rd_));exact rm_ HO181.out (λ_ h=>h.2)),(qk_ BK169),(qk_ BK170),(qk_ BK185),GW185.out,GE185.out,NB169_185.out,NB185_169.out,NB170_185.out,NB185_170.out,(u1_ HB GE169 GE170 GE185)⟩)
              ·skip
               rintro ⟨v174,gb185⟩ w25 ⟨hS_,h0_,h1_,h2_,h3_,h4_,h5_,h6_,h7_,h8_,h9_,h10_⟩
               have n0_ : Aside0 (Kd.R (Kd.int .i64) 3 w25 w.heap.size (fun _ => True) v174 y173):=⟨h0_⟩
               have n1_ : Aside0 (w25.heap[gb169]? = some (.cells #[.int .i64 a0_0,.slice A0_1 l0_1.length c0_1,.slice A0_2 l0_2.length c0_2,.slice A0_3 l0_3.length c0_3] 30 (0,0))):=⟨h1_⟩
               have n2_ : Aside0 (w25.heap[gb170]? = some (.cells #[.int .i64 0,.slice none 0 0,.slice none 0 0,.slice none 0 0] 30 (0,0))):=⟨h2_⟩
               have n3_ : Aside0 (w25.heap[gb185]? = some (.cells #[.int .i64 0,.slice none 0 0,.slice none 0 0,.slice none 0 0] 30 (0,0))):=⟨h3_⟩
               have n4_ : Aside0 (w.heap.size ≤ gb185):=⟨h4_⟩
               have n5_ : Aside0 (w.heap.size ≤ gb185):=⟨h5_⟩
               have n6_ : Aside0 (gb169 ≠ gb185):=⟨h6_⟩
               have n7_ : Aside0 (gb185 ≠ gb169):=⟨h7_⟩
               have n8_ : Aside0 (gb170 ≠ gb185):=⟨h8_⟩
               have n9_ : Aside0 (gb185 ≠ gb170):=⟨h9_⟩
               have n10_ : Aside0 (Below w.heap.size w w25):=⟨h10_⟩
               clear BK169
               clear BK170
               clear HB
               clear h0_ h1_ h2_ h3_ h4_ h5_ h6_ h7_ h8_ h9_ h10_
               have HO175:=n0_
               have BK169:=n1_
               have BK170:=n2_
               have BK185:=n3_
               have GW185:=n4_
               have GE185:=n5_
               have NB169_185:=n6_
               have NB185_169:=n7_
               have NB170_185:=n8_
               have NB185_170:=n9_
               have HB:=n10_
               clear n0_ n1_ n2_ n3_ n4_ n5_ n6_ n7_ n8_ n9_ n10_
               have hHeld : w25.cell? ⟨gb169,0,none⟩ = some (.int .i64 a0_0) ∧ w25.cell? ⟨gb169,1,none⟩ = some (.slice A0_1 l0_1.length c0_1) ∧ w25.cell? ⟨gb169,2,none⟩ = some (.slice A0_2 l0_2.length c0_2) ∧ w25.cell? ⟨gb169,3,none⟩ = some (.slice A0_3 l0_3.length c0_3):=hS_
               refine norm_ (a':=?_) ?_ ?_
               rotate_left
               ·simp only [putAll,Act.put,sx_,sy_,sz_]
                rfl
               refine two_ (i:=5) (j:=6) (Ni:=some 26) (Nj:=some 27) #[true,true,true,true,true,true,false,true,true,false,false,true,false] #[true,true,true,true,true,false,true,true,true,false,false,true,false] rfl rfl rfl rfl (two_of HT_.out (by kernel_rfl)) (by decide) (by decide) (fun K hK => ?_) (fun K hK => ?_)
               ·skip
                refine Kd.R_append_rows_step (Kd.int .i64) (w0:=w) w.heap.size (by rfl) (.tmp 23) (.tmp 25) 23 3 (.int .i64 0) 8 rfl Try.underlying23 info3 rfl (by decide) (by omega) v174 y173 l0_2 _ _ _ (fun _ => True) (fun _ => False) rfl rfl ?aO ?aR (fun _ _ h => h) (fun _ h => h.elim) ?aF ?aB ?aS ?aL ?_
                (case aR => exact qn_ HR0_2 HB)
                (case aB => exact (u1_ HB GE169 GE170 GE185))
                (case aF => exact (fun _ _ => trivial))
                (case aO => exact (qr_ HO175))
                (case aS => exact (bz_ (u1_ HB GE169 GE170 GE185)))
                (case aL => have:=LMc19.out;omega)
                intro v177 w26 ho hb hg hat
                rw [← Ny176.out] at ho
                have n0_:=mk_ (blk_grown (g:=gb169) (o:=.cells #[.int .i64 a0_0,.slice A0_1 l0_1.length c0_1,.slice A0_2 l0_2.length c0_2,.slice A0_3 l0_3.length c0_3] 30 (0,0)) (qk_ BK169) hg (Kd.R_ne HO175.out BK169.out (by decide)))
                have n1_:=mk_ (blk_grown (g:=gb170) (o:=.cells #[.int .i64 0,.slice none 0 0,.slice none 0 0,.slice none 0 0] 30 (0,0)) (qk_ BK170) hg (Kd.R_ne HO175.out BK170.out (by decide)))
                have n2_:=mk_ (blk_grown (g:=gb185) (o:=.cells #[.int .i64 0,.slice none 0 0,.slice none 0 0,.slice none 0 0] 30 (0,0)) (qk_ BK185) hg (Kd.R_ne HO175.out BK185.out (by decide)))
                have n3_:=mk_ (hb)
                have n4_:=mk_ (ho)
                clear BK169
                clear BK170
                clear BK185
                clear HB
                clear HO175
                have BK169:=n0_
                have BK170:=n1_
                have BK185:=n2_
                have HB:=n3_
                have HO178:=n4_
                clear n0_ n1_ n2_ n3_ n4_
                clear ho hb hg hat
                refine hK.out _ _ ⟨(bc_ BK169.out 0).trans rfl,(bc_ BK169.out 1).trans rfl,(bc_ BK169.out 2).trans rfl,(bc_ BK169.out 3).trans rfl⟩ (fun hHeld => ?_)
                clear hK K
                refine norm_ (a':=?_) ?_ ?_
                rotate_left
                ·show Act.put _ (some 26) _ = _
                 simp only [Act.put,sx_,sy_,sz_,i64_w,i32_w]
                 rfl
                exact norm_ (by first|(simp only [putAll,Act.put,sx_,sy_,sz_];done)|(simp only [putAll,Act.put,sx_,sy_,sz_];rfl)) (hJ2_5_11 (v174,v177,gb185) _ ⟨hHeld,(qr_ HO178),(qk_ BK169),(qk_ BK170),(qk_ BK185),GW185.out,GE185.out,NB169_185.out,NB185_169.out,NB170_185.out,NB185_170.out,(u1_ HB GE169 GE170 GE185)⟩)
               ·skip
                refine Kd.R_lit_step (Kd.int .i64) _ 3 ?hg (N:=27) ?hd (xs:=([] : List Int)) (inner:=[]) (ok:=fun _ => True) (okp:=fun _ => True) ?hr ?hp (fun _ hk => hk) trivial (Below.refl _ _) (Nat.le_refl _) (by simp) ?_;(case hd => rfl);(case hg => rfl);(case hr => first|(go_simp;done)|(go_simp;rfl));(case hp => exact (Reps.none _ _))
                intro v180 w26 ho27 hb hg_ hnew_
                clear hg_ hnew_
                (first|rw [← Ny179.out] at ho27|(simp only [Int.reduceToNat] at ho27;rw [← Ny179.out] at ho27))
                have n0_:=mk_ (re_ (qr_ HO175) (Kd.R_base ho27) hb)
                have n1_:=mk_ (Kd.R_lower (Kd.R_new' ho27 (Kd.R_lt (qr_ HO175))) (bz_ (u1_ HB GE169 GE170 GE185)))
                have n2_:=mk_ (blk_below (g:=gb169) (o:=.cells #[.int .i64 a0_0,.slice A0_1 l0_1.length c0_1,.slice A0_2 l0_2.length c0_2,.slice A0_3 l0_3.length c0_3] 30 (0,0)) (qk_ BK169) hb)
                have n3_:=mk_ (blk_below (g:=gb170) (o:=.cells #[.int .i64 0,.slice none 0 0,.slice none 0 0,.slice none 0 0] 30 (0,0)) (qk_ BK170) hb)
                have n4_:=mk_ (blk_below (g:=gb185) (o:=.cells #[.int .i64 0,.slice none 0 0,.slice none 0 0,.slice none 0 0] 30 (0,0)) (qk_ BK185) hb)
                have n5_:=mk_ (st_ (u1_ HB GE169 GE170 GE185) hb)
                clear HO175
                clear BK169
                clear BK170
                clear BK185
                clear HB
                have HO175:=n0_
                have HO181:=n1_
                have BK169:=n2_
                have BK170:=n3_
                have BK185:=n4_
                have HB:=n5_
                clear n0_ n1_ n2_ n3_ n4_ n5_
                clear hb ho27
                refine hK.out _ _ ⟨(bc_ BK169.out 0).trans rfl,(bc_ BK169.out 1).trans rfl,(bc_ BK169.out 2).trans rfl,(bc_ BK169.out 3).trans rfl⟩ (fun hHeld => ?_)
                clear hK K
                refine norm_ (a':=?_) ?_ ?_
                rotate_left
                ·show Act.put _ (some 27) _ = _
                 simp only [Act.put,sx_,sy_,sz_,i64_w,i32_w]
                 rfl
                exact norm_ (by first|(simp only [putAll,Act.put,sx_,sy_,sz_];done)|(simp only [putAll,Act.put,sx_,sy_,sz_];rfl)) (hJ2_6_11 (v174,v180,gb185) _ ⟨hHeld,(by (with_reducible repeat (first|apply ra_|apply rn_|apply rd_));exact rm_ HO175.out (λ_ h=>h.2)),(by (with_reducible repeat (first|apply ra_|apply rn_|apply rd_));exact rm_ HO181.out (λ_ h=>h.2)),(qk_ BK169),(qk_ BK170),(qk_ BK185),GW185.out,GE185.out,NB169_185.out,NB185_169.out,NB170_185.out,NB185_170.out,(u1_ HB GE169 GE170 GE185)⟩)
             ·skip
              rintro ⟨v174,v180⟩ w26 ⟨hS_,h0_,h1_,h2_,h3_,h4_⟩
              have n0_ : Aside0 (Kd.R (Kd.int .i64) 3 w26 w.heap.size (fun k_ => some k_ ≠ (v180 : Value).ownBlock) v174 y173):=⟨h0_⟩
              have n1_ : Aside0 (Kd.R (Kd.int .i64) 3 w26 w.heap.size (fun k_ => some k_ ≠ (v174 : Value).ownBlock) v180 y179):=⟨h1_⟩
              have n2_ : Aside0 (w26.heap[gb169]? = some (.cells #[.int .i64 a0_0,.slice A0_1 l0_1.length c0_1,.slice A0_2 l0_2.length c0_2,.slice A0_3 l0_3.length c0_3] 30 (0,0))):=⟨h2_⟩
              have n3_ : Aside0 (w26.heap[gb170]? = some (.cells #[.int .i64 0,.slice none 0 0,.slice none 0 0,.slice none 0 0] 30 (0,0))):=⟨h3_⟩
              have n4_ : Aside0 (Below w.heap.size w w26):=⟨h4_⟩
              clear BK169
              clear BK170
              clear HB
              clear h0_ h1_ h2_ h3_ h4_
              have HO175:=n0_
              have HO181:=n1_
              have BK169:=n2_
              have BK170:=n3_
              have HB:=n4_
              clear n0_ n1_ n2_ n3_ n4_
              have hHeld : w26.cell? ⟨gb169,0,none⟩ = some (.int .i64 a0_0) ∧ w26.cell? ⟨gb169,1,none⟩ = some (.slice A0_1 l0_1.length c0_1) ∧ w26.cell? ⟨gb169,2,none⟩ = some (.slice A0_2 l0_2.length c0_2) ∧ w26.cell? ⟨gb169,3,none⟩ = some (.slice A0_3 l0_3.length c0_3):=hS_
              refine norm_ (a':=?_) ?_ ?_
              rotate_left
              ·simp only [putAll,Act.put,sx_,sy_,sz_]
               rfl
              refine two_ (i:=5) (j:=11) (Ni:=some 26) (Nj:=some 6) #[true,true,true,true,true,true,true,true,true,false,false,false,false] #[true,true,true,true,true,false,true,true,true,false,false,true,false] rfl rfl rfl rfl (two_of HT_.out (by kernel_rfl)) (by decide) (by decide) (fun K hK => ?_) (fun K hK => ?_)
              ·skip
               refine Kd.R_append_rows_step (Kd.int .i64) (w0:=w) w.heap.size (by rfl) (.tmp 23) (.tmp 25) 23 3 (.int .i64 0) 8 rfl Try.underlying23 info3 rfl (by decide) (by omega) v174 y173 l0_2 _ _ _ (fun k_ => some k_ ≠ (v180 : Value).ownBlock) (fun _ => False) rfl rfl ?aO ?aR (fun _ _ h => h) (fun _ h => h.elim) ?aF ?aB ?aS ?aL ?_
               (case aR => exact qn_ HR0_2 HB)
               (case aB => exact (qd_ HB GE169 GE170))
               (case aF => exact (fun k_ hk => Kd.fresh' (Kd.R_lt (qr_ HO181)) k_ hk))
               (case aO => exact (qr_ HO175))
               (case aS => exact (bz_ (qd_ HB GE169 GE170)))
               (case aL => have:=LMc19.out;omega)
               intro v177 w27 ho hb hg hat
               rw [← Ny176.out] at ho
               have n0_:=mk_ (blk_grown (g:=gb169) (o:=.cells #[.int .i64 a0_0,.slice A0_1 l0_1.length c0_1,.slice A0_2 l0_2.length c0_2,.slice A0_3 l0_3.length c0_3] 30 (0,0)) (qk_ BK169) hg (Kd.R_ne HO175.out BK169.out (by decide)))
               have n1_:=mk_ (blk_grown (g:=gb170) (o:=.cells #[.int .i64 0,.slice none 0 0,.slice none 0 0,.slice none 0 0] 30 (0,0)) (qk_ BK170) hg (Kd.R_ne HO175.out BK170.out (by decide)))
               have n2_:=mk_ (Kd.R_after (ok:=(fun _ => True)) (by (with_reducible repeat (first|apply ra_|apply rn_|apply rd_));exact rm_ HO181.out (fun _ hk => ⟨trivial,hk⟩)) hg hat)
               have n3_:=mk_ (hb)
               have n4_:=mk_ (ho)
               clear BK169
               clear BK170
               clear HO181
               clear HB
               clear HO175
               have BK169:=n0_
               have BK170:=n1_
               have HO181:=n2_
               have HB:=n3_
               have HO178:=n4_
               clear n0_ n1_ n2_ n3_ n4_
               clear ho hb hg hat
               refine hK.out _ _ ⟨(bc_ BK169.out 0).trans rfl,(bc_ BK169.out 1).trans rfl,(bc_ BK169.out 2).trans rfl,(bc_ BK169.out 3).trans rfl⟩ (fun hHeld => ?_)
               clear hK K
               refine norm_ (a':=?_) ?_ ?_
               rotate_left
               ·show Act.put _ (some 26) _ = _
                simp only [Act.put,sx_,sy_,sz_,i64_w,i32_w]
                rfl
               exact norm_ (by first|(simp only [putAll,Act.put,sx_,sy_,sz_];done)|(simp only [putAll,Act.put,sx_,sy_,sz_];rfl)) (hJ2_5_6 (v174,v177,v180) _ ⟨hHeld,(qr_ HO178),(by (with_reducible repeat (first|apply ra_|apply rn_|apply rd_));exact rm_ HO181.out (λ_ h=>h.2)),(qk_ BK169),(qk_ BK170),(qd_ HB GE169 GE170)⟩)
              ·skip
               refine box_step ?hg (N:=6) ?hd (cs:=#[.int .i64 0,.slice none 0 0,.slice none 0 0,.slice none 0 0]) (t:=30) ?hr ?_;(case hd => rfl);(case hg => rfl);(case hr => first|(go_simp;done)|(go_simp;rfl))
               intro gb185 hg w27 hbox hb
               have n0_:=mk_ (rb_ (qr_ HO175) hb)
               have n1_:=mk_ (rb_ (qr_ HO181) hb)
               have n2_:=mk_ (blk_below (g:=gb169) (o:=.cells #[.int .i64 a0_0,.slice A0_1 l0_1.length c0_1,.slice A0_2 l0_2.length c0_2,.slice A0_3 l0_3.length c0_3] 30 (0,0)) (qk_ BK169) hb)
               have n3_:=mk_ (blk_below (g:=gb170) (o:=.cells #[.int .i64 0,.slice none 0 0,.slice none 0 0,.slice none 0 0] 30 (0,0)) (qk_ BK170) hb)
               have n4_:=mk_ (st_ (qd_ HB GE169 GE170) hb)
               have n5_:=mk_ (hbox)
               have n6_:=mk_ ((by rw [hg];exact (bz_ (qd_ HB GE169 GE170)) : w.heap.size ≤ gb185))
               have n7_:=mk_ ((by rw [hg];exact (bz_ (qd_ HB GE169 GE170)) : w.heap.size ≤ gb185))
               have n8_:=mk_ ((by rw [hg];exact Nat.ne_of_lt (blk_lt (g:=gb169) (o:=.cells #[.int .i64 a0_0,.slice A0_1 l0_1.length c0_1,.slice A0_2 l0_2.length c0_2,.slice A0_3 l0_3.length c0_3] 30 (0,0)) (qk_ BK169)) : gb169 ≠ gb185))
               have n9_:=mk_ ((by rw [hg];exact Nat.ne_of_gt (blk_lt (g:=gb169) (o:=.cells #[.int .i64 a0_0,.slice A0_1 l0_1.length c0_1,.slice A0_2 l0_2.length c0_2,.slice A0_3 l0_3.length c0_3] 30 (0,0)) (qk_ BK169)) : gb185 ≠ gb169))
               have n10_:=mk_ ((by rw [hg];exact Nat.ne_of_lt (blk_lt (g:=gb170) (o:=.cells #[.int .i64 0,.slice none 0 0,.slice none 0 0,.slice none 0 0] 30 (0,0)) (qk_ BK170)) : gb170 ≠ gb185))
               have n11_:=mk_ ((by rw [hg];exact Nat.ne_of_gt (blk_lt (g:=gb170) (o:=.cells #[.int .i64 0,.slice none 0 0,.slice none 0 0,.slice none 0 0] 30 (0,0)) (qk_ BK170)) : gb185 ≠ gb170))
               clear HO175
               clear HO181
               clear BK169
               clear BK170
               clear HB
               have HO175:=n0_
               have HO181:=n1_
               have BK169:=n2_
               have BK170:=n3_
               have HB:=n4_
               have BK185:=n5_
               have GW185:=n6_
               have GE185:=n7_
               have NB169_185:=n8_
               have NB185_169:=n9_
               have NB170_185:=n10_
               have NB185_170:=n11_
               clear n0_ n1_ n2_ n3_ n4_ n5_ n6_ n7_ n8_ n9_ n10_ n11_
               clear hb hbox hg
               refine hK.out _ _ ⟨(bc_ BK169.out 0).trans rfl,(bc_ BK169.out 1).trans rfl,(bc_ BK169.out 2).trans rfl,(bc_ BK169.out 3).trans rfl⟩ (fun hHeld => ?_)
               clear hK K
               refine norm_ (a':=?_) ?_ ?_
               rotate_left
               ·show Act.put _ (some 6) _ = _
                simp only [Act.put,sx_,sy_,sz_,i64_w,i32_w]
                rfl
               exact norm_ (by first|(simp only [putAll,Act.put,sx_,sy_,sz_];done)|(simp only [putAll,Act.put,sx_,sy_,sz_];rfl)) (hJ2_6_11 (v174,v180,gb185) _ ⟨hHeld,(qr_ HO175),(qr_ HO181),(qk_ BK169),(qk_ BK170),(qk_ BK185),GW185.out,GE185.out,NB169_185.out,NB185_169.out,NB170_185.out,NB185_170.out,(u1_ HB GE169 GE170 GE185)⟩)
            ·skip
             rintro ⟨v174,v177⟩ w25 ⟨hS_,h0_,h1_,h2_,h3_⟩
             have n0_ : Aside0 (Kd.R (Kd.int .i64) 3 w25 w.heap.size (fun _ => True) v177 y176):=⟨h0_⟩
             have n1_ : Aside0 (w25.heap[gb169]? = some (.cells #[.int .i64 a0_0,.slice A0_1 l0_1.length c0_1,.slice A0_2 l0_2.length c0_2,.slice A0_3 l0_3.length c0_3] 30 (0,0))):=⟨h1_⟩
             have n2_ : Aside0 (w25.heap[gb170]? = some (.cells #[.int .i64 0,.slice none 0 0,.slice none 0 0,.slice none 0 0] 30 (0,0))):=⟨h2_⟩
             have n3_ : Aside0 (Below w.heap.size w w25):=⟨h3_⟩
             clear BK169
             clear BK170
             clear HB
             clear h0_ h1_ h2_ h3_
             have HO178:=n0_
             have BK169:=n1_
             have BK170:=n2_
             have HB:=n3_
             clear n0_ n1_ n2_ n3_
             have hHeld : w25.cell? ⟨gb169,0,none⟩ = some (.int .i64 a0_0) ∧ w25.cell? ⟨gb169,1,none⟩ = some (.slice A0_1 l0_1.length c0_1) ∧ w25.cell? ⟨gb169,2,none⟩ = some (.slice A0_2 l0_2.length c0_2) ∧ w25.cell? ⟨gb169,3,none⟩ = some (.slice A0_3 l0_3.length c0_3):=hS_
             refine norm_ (a':=?_) ?_ ?_
             rotate_left
             ·simp only [putAll,Act.put,sx_,sy_,sz_]
              rfl
             refine two_ (i:=6) (j:=11) (Ni:=some 27) (Nj:=some 6) #[true,true,true,true,true,true,true,true,true,false,false,false,false] #[true,true,true,true,true,true,false,true,true,false,false,true,false] rfl rfl rfl rfl (two_of HT_.out (by kernel_rfl)) (by decide) (by decide) (fun K hK => ?_) (fun K hK => ?_)
             ·skip
              refine Kd.R_lit_step (Kd.int .i64) _ 3 ?hg (N:=27) ?hd (xs:=([] : List Int)) (inner:=[]) (ok:=fun _ => True) (okp:=fun _ => True) ?hr ?hp (fun _ hk => hk) trivial (Below.refl _ _) (Nat.le_refl _) (by simp) ?_;(case hd => rfl);(case hg => rfl);(case hr => first|(go_simp;done)|(go_simp;rfl));(case hp => exact (Reps.none _ _))
              intro v180 w26 ho27 hb hg_ hnew_
              clear hg_ hnew_
              (first|rw [← Ny179.out] at ho27|(simp only [Int.reduceToNat] at ho27;rw [← Ny179.out] at ho27))
              have n0_:=mk_ (re_ (qr_ HO178) (Kd.R_base ho27) hb)
              have n1_:=mk_ (Kd.R_lower (Kd.R_new' ho27 (Kd.R_lt (qr_ HO178))) (bz_ (qd_ HB GE169 GE170)))
              have n2_:=mk_ (blk_below (g:=gb169) (o:=.cells #[.int .i64 a0_0,.slice A0_1 l0_1.length c0_1,.slice A0_2 l0_2.length c0_2,.slice A0_3 l0_3.length c0_3] 30 (0,0)) (qk_ BK169) hb)
              have n3_:=mk_ (blk_below (g:=gb170) (o:=.cells #[.int .i64 0,.slice none 0 0,.slice none 0 0,.slice none 0 0] 30 (0,0)) (qk_ BK170) hb)
              have n4_:=mk_ (st_ (qd_ HB GE169 GE170) hb)
              clear HO178
              clear BK169
              clear BK170
              clear HB
              have HO178:=n0_
              have HO181:=n1_
              have BK169:=n2_
              have BK170:=n3_
              have HB:=n4_
              clear n0_ n1_ n2_ n3_ n4_
              clear hb ho27
              refine hK.out _ _ ⟨(bc_ BK169.out 0).trans rfl,(bc_ BK169.out 1).trans rfl,(bc_ BK169.out 2).trans rfl,(bc_ BK169.out 3).trans rfl⟩ (fun hHeld => ?_)
              clear hK K
              refine norm_ (a':=?_) ?_ ?_
              rotate_left
              ·show Act.put _ (some 27) _ = _
               simp only [Act.put,sx_,sy_,sz_,i64_w,i32_w]
               rfl
              exact norm_ (by first|(simp only [putAll,Act.put,sx_,sy_,sz_];done)|(simp only [putAll,Act.put,sx_,sy_,sz_];rfl)) (hJ2_5_6 (v174,v177,v180) _ ⟨hHeld,(by (with_reducible repeat (first|apply ra_|apply rn_|apply rd_));exact rm_ HO178.out (λ_ h=>h.2)),(by (with_reducible repeat (first|apply ra_|apply rn_|apply rd_));exact rm_ HO181.out (λ_ h=>h.2)),(qk_ BK169),(qk_ BK170),(qd_ HB GE169 GE170)⟩)
             ·skip
              refine box_step ?hg (N:=6) ?hd (cs:=#[.int .i64 0,.slice none 0 0,.slice none 0 0,.slice none 0 0]) (t:=30) ?hr ?_;(case hd => rfl);(case hg => rfl);(case hr => first|(go_simp;done)|(go_simp;rfl))
              intro gb185 hg w26 hbox hb
              have n0_:=mk_ (rb_ (qr_ HO178) hb)
              have n1_:=mk_ (blk_below (g:=gb169) (o:=.cells #[.int .i64 a0_0,.slice A0_1 l0_1.length c0_1,.slice A0_2 l0_2.length c0_2,.slice A0_3 l0_3.length c0_3] 30 (0,0)) (qk_ BK169) hb)
              have n2_:=mk_ (blk_below (g:=gb170) (o:=.cells #[.int .i64 0,.slice none 0 0,.slice none 0 0,.slice none 0 0] 30 (0,0)) (qk_ BK170) hb)
              have n3_:=mk_ (st_ (qd_ HB GE169 GE170) hb)
              have n4_:=mk_ (hbox)
              have n5_:=mk_ ((by rw [hg];exact (bz_ (qd_ HB GE169 GE170)) : w.heap.size ≤ gb185))
              have n6_:=mk_ ((by rw [hg];exact (bz_ (qd_ HB GE169 GE170)) : w.heap.size ≤ gb185))
              have n7_:=mk_ ((by rw [hg];exact Nat.ne_of_lt (blk_lt (g:=gb169) (o:=.cells #[.int .i64 a0_0,.slice A0_1 l0_1.length c0_1,.slice A0_2 l0_2.length c0_2,.slice A0_3 l0_3.length c0_3] 30 (0,0)) (qk_ BK169)) : gb169 ≠ gb185))
              have n8_:=mk_ ((by rw [hg];exact Nat.ne_of_gt (blk_lt (g:=gb169) (o:=.cells #[.int .i64 a0_0,.slice A0_1 l0_1.length c0_1,.slice A0_2 l0_2.length c0_2,.slice A0_3 l0_3.length c0_3] 30 (0,0)) (qk_ BK169)) : gb185 ≠ gb169))
              have n9_:=mk_ ((by rw [hg];exact Nat.ne_of_lt (blk_lt (g:=gb170) (o:=.cells #[.int .i64 0,.slice none 0 0,.slice none 0 0,.slice none 0 0] 30 (0,0)) (qk_ BK170)) : gb170 ≠ gb185))
              have n10_:=mk_ ((by rw [hg];exact Nat.ne_of_gt (blk_lt (g:=gb170) (o:=.cells #[.int .i64 0,.slice none 0 0,.slice none 0 0,.slice none 0 0] 30 (0,0)) (qk_ BK170)) : gb185 ≠ gb170))
              clear HO178
              clear BK169
              clear BK170
              clear HB
              have HO178:=n0_
              have BK169:=n1_
              have BK170:=n2_
              have HB:=n3_
              have BK185:=n4_
              have GW185:=n5_
              have GE185:=n6_
              have NB169_185:=n7_
              have NB185_169:=n8_
              have NB170_185:=n9_
              have NB185_170:=n10_
              clear n0_ n1_ n2_ n3_ n4_ n5_ n6_ n7_ n8_ n9_ n10_
              clear hb hbox hg
              refine hK.out _ _ ⟨(bc_ BK169.out 0).trans rfl,(bc_ BK169.out 1).trans rfl,(bc_ BK169.out 2).trans rfl,(bc_ BK169.out 3).trans rfl⟩ (fun hHeld => ?_)
              clear hK K
              refine norm_ (a':=?_) ?_ ?_
              rotate_left
              ·show Act.put _ (some 6) _ = _
               simp only [Act.put,sx_,sy_,sz_,i64_w,i32_w]
               rfl
              exact norm_ (by first|(simp only [putAll,Act.put,sx_,sy_,sz_];done)|(simp only [putAll,Act.put,sx_,sy_,sz_];rfl)) (hJ2_5_11 (v174,v177,gb185) _ ⟨hHeld,(qr_ HO178),(qk_ BK169),(qk_ BK170),(qk_ BK185),GW185.out,GE185.out,NB169_185.out,NB185_169.out,NB170_185.out,NB185_170.out,(u1_ HB GE169 GE170 GE185)⟩)
           ·skip
            rintro ⟨v174,v180,gb185⟩ w27 ⟨hS_,h0_,h1_,h2_,h3_,h4_,h5_,h6_,h7_,h8_,h9_,h10_,h11_⟩
            have n0_ : Aside0 (Kd.R (Kd.int .i64) 3 w27 w.heap.size (fun k_ => some k_ ≠ (v180 : Value).ownBlock) v174 y173):=⟨h0_⟩
            have n1_ : Aside0 (Kd.R (Kd.int .i64) 3 w27 w.heap.size (fun k_ => some k_ ≠ (v174 : Value).ownBlock) v180 y179):=⟨h1_⟩
            have n2_ : Aside0 (w27.heap[gb169]? = some (.cells #[.int .i64 a0_0,.slice A0_1 l0_1.length c0_1,.slice A0_2 l0_2.length c0_2,.slice A0_3 l0_3.length c0_3] 30 (0,0))):=⟨h2_⟩
            have n3_ : Aside0 (w27.heap[gb170]? = some (.cells #[.int .i64 0,.slice none 0 0,.slice none 0 0,.slice none 0 0] 30 (0,0))):=⟨h3_⟩
            have n4_ : Aside0 (w27.heap[gb185]? = some (.cells #[.int .i64 0,.slice none 0 0,.slice none 0 0,.slice none 0 0] 30 (0,0))):=⟨h4_⟩
            have n5_ : Aside0 (w.heap.size ≤ gb185):=⟨h5_⟩
            have n6_ : Aside0 (w.heap.size ≤ gb185):=⟨h6_⟩
            have n7_ : Aside0 (gb169 ≠ gb185):=⟨h7_⟩
            have n8_ : Aside0 (gb185 ≠ gb169):=⟨h8_⟩
            have n9_ : Aside0 (gb170 ≠ gb185):=⟨h9_⟩
            have n10_ : Aside0 (gb185 ≠ gb170):=⟨h10_⟩
            have n11_ : Aside0 (Below w.heap.size w w27):=⟨h11_⟩
            clear BK169
            clear BK170
            clear HB
            clear h0_ h1_ h2_ h3_ h4_ h5_ h6_ h7_ h8_ h9_ h10_ h11_
            have HO175:=n0_
            have HO181:=n1_
            have BK169:=n2_
            have BK170:=n3_
            have BK185:=n4_
            have GW185:=n5_
            have GE185:=n6_
            have NB169_185:=n7_
            have NB185_169:=n8_
            have NB170_185:=n9_
            have NB185_170:=n10_
            have HB:=n11_
            clear n0_ n1_ n2_ n3_ n4_ n5_ n6_ n7_ n8_ n9_ n10_ n11_
            have hHeld : w27.cell? ⟨gb169,0,none⟩ = some (.int .i64 a0_0) ∧ w27.cell? ⟨gb169,1,none⟩ = some (.slice A0_1 l0_1.length c0_1) ∧ w27.cell? ⟨gb169,2,none⟩ = some (.slice A0_2 l0_2.length c0_2) ∧ w27.cell? ⟨gb169,3,none⟩ = some (.slice A0_3 l0_3.length c0_3):=hS_
            refine norm_ (a':=?_) ?_ ?_
            rotate_left
            ·simp only [putAll,Act.put,sx_,sy_,sz_]
             rfl
            refine one_ (i:=5) (N:=some 26) #[true,true,true,true,true,true,true,true,true,false,false,true,false] rfl rfl (one_of HT_.out (by kernel_rfl)) (by decide) (fun K hK => ?_)
            refine Kd.R_append_rows_step (Kd.int .i64) (w0:=w) w.heap.size (by rfl) (.tmp 23) (.tmp 25) 23 3 (.int .i64 0) 8 rfl Try.underlying23 info3 rfl (by decide) (by omega) v174 y173 l0_2 _ _ _ (fun k_ => some k_ ≠ (v180 : Value).ownBlock) (fun _ => False) rfl rfl ?aO ?aR (fun _ _ h => h) (fun _ h => h.elim) ?aF ?aB ?aS ?aL ?_
            (case aR => exact qn_ HR0_2 HB)
            (case aB => exact (u1_ HB GE169 GE170 GE185))
            (case aF => exact (fun k_ hk => Kd.fresh' (Kd.R_lt (qr_ HO181)) k_ hk))
            (case aO => exact (qr_ HO175))
            (case aS => exact (bz_ (u1_ HB GE169 GE170 GE185)))
            (case aL => have:=LMc19.out;omega)
            intro v177 w28 ho hb hg hat
            rw [← Ny176.out] at ho
            have n0_:=mk_ (blk_grown (g:=gb169) (o:=.cells #[.int .i64 a0_0,.slice A0_1 l0_1.length c0_1,.slice A0_2 l0_2.length c0_2,.slice A0_3 l0_3.length c0_3] 30 (0,0)) (qk_ BK169) hg (Kd.R_ne HO175.out BK169.out (by decide)))
            have n1_:=mk_ (blk_grown (g:=gb170) (o:=.cells #[.int .i64 0,.slice none 0 0,.slice none 0 0,.slice none 0 0] 30 (0,0)) (qk_ BK170) hg (Kd.R_ne HO175.out BK170.out (by decide)))
            have n2_:=mk_ (Kd.R_after (ok:=(fun _ => True)) (by (with_reducible repeat (first|apply ra_|apply rn_|apply rd_));exact rm_ HO181.out (fun _ hk => ⟨trivial,hk⟩)) hg hat)
            have n3_:=mk_ (blk_grown (g:=gb185) (o:=.cells #[.int .i64 0,.slice none 0 0,.slice none 0 0,.slice none 0 0] 30 (0,0)) (qk_ BK185) hg (Kd.R_ne HO175.out BK185.out (by decide)))
            have n4_:=mk_ (hb)
            have n5_:=mk_ (ho)
            clear BK169
            clear BK170
            clear HO181
            clear BK185
            clear HB
            clear HO175
            have BK169:=n0_
            have BK170:=n1_
            have HO181:=n2_
            have BK185:=n3_
            have HB:=n4_
            have HO178:=n5_
            clear n0_ n1_ n2_ n3_ n4_ n5_
            clear ho hb hg hat
            refine hK.out _ _ ⟨(bc_ BK169.out 0).trans rfl,(bc_ BK169.out 1).trans rfl,(bc_ BK169.out 2).trans rfl,(bc_ BK169.out 3).trans rfl⟩ (fun hHeld => ?_)
            clear hK K
            refine norm_ (a':=?_) ?_ ?_
            rotate_left
            ·show Act.put _ (some 26) _ = _
             simp only [Act.put,sx_,sy_,sz_,i64_w,i32_w]
             rfl
            exact norm_ (by first|(simp only [putAll,Act.put,sx_,sy_,sz_];done)|(simp only [putAll,Act.put,sx_,sy_,sz_];rfl)) (hJ2_5_6_11 (v174,v177,v180,gb185) _ ⟨hHeld,(qr_ HO178),(by (with_reducible repeat (first|apply ra_|apply rn_|apply rd_));exact rm_ HO181.out (λ_ h=>h.2)),(qk_ BK169),(qk_ BK170),(qk_ BK185),GW185.out,GE185.out,NB169_185.out,NB185_169.out,NB170_185.out,NB185_170.out,(u1_ HB GE169 GE170 GE185)⟩)
          ·skip
           rintro ⟨v174,v177,gb185⟩ w26 ⟨hS_,h0_,h1_,h2_,h3_,h4_,h5_,h6_,h7_,h8_,h9_,h10_⟩
           have n0_ : Aside0 (Kd.R (Kd.int .i64) 3 w26 w.heap.size (fun _ => True) v177 y176):=⟨h0_⟩
           have n1_ : Aside0 (w26.heap[gb169]? = some (.cells #[.int .i64 a0_0,.slice A0_1 l0_1.length c0_1,.slice A0_2 l0_2.length c0_2,.slice A0_3 l0_3.length c0_3] 30 (0,0))):=⟨h1_⟩
           have n2_ : Aside0 (w26.heap[gb170]? = some (.cells #[.int .i64 0,.slice none 0 0,.slice none 0 0,.slice none 0 0] 30 (0,0))):=⟨h2_⟩
           have n3_ : Aside0 (w26.heap[gb185]? = some (.cells #[.int .i64 0,.slice none 0 0,.slice none 0 0,.slice none 0 0] 30 (0,0))):=⟨h3_⟩
           have n4_ : Aside0 (w.heap.size ≤ gb185):=⟨h4_⟩
           have n5_ : Aside0 (w.heap.size ≤ gb185):=⟨h5_⟩
           have n6_ : Aside0 (gb169 ≠ gb185):=⟨h6_⟩
           have n7_ : Aside0 (gb185 ≠ gb169):=⟨h7_⟩
           have n8_ : Aside0 (gb170 ≠ gb185):=⟨h8_⟩
           have n9_ : Aside0 (gb185 ≠ gb170):=⟨h9_⟩
           have n10_ : Aside0 (Below w.heap.size w w26):=⟨h10_⟩
           clear BK169
           clear BK170
           clear HB
           clear h0_ h1_ h2_ h3_ h4_ h5_ h6_ h7_ h8_ h9_ h10_
           have HO178:=n0_
           have BK169:=n1_
           have BK170:=n2_
           have BK185:=n3_
           have GW185:=n4_
           have GE185:=n5_
           have NB169_185:=n6_
           have NB185_169:=n7_
           have NB170_185:=n8_
           have NB185_170:=n9_
           have HB:=n10_
           clear n0_ n1_ n2_ n3_ n4_ n5_ n6_ n7_ n8_ n9_ n10_
           have hHeld : w26.cell? ⟨gb169,0,none⟩ = some (.int .i64 a0_0) ∧ w26.cell? ⟨gb169,1,none⟩ = some (.slice A0_1 l0_1.length c0_1) ∧ w26.cell? ⟨gb169,2,none⟩ = some (.slice A0_2 l0_2.length c0_2) ∧ w26.cell? ⟨gb169,3,none⟩ = some (.slice A0_3 l0_3.length c0_3):=hS_
           refine norm_ (a':=?_) ?_ ?_
           rotate_left
           ·simp only [putAll,Act.put,sx_,sy_,sz_]
            rfl
           refine one_ (i:=6) (N:=some 27) #[true,true,true,true,true,true,true,true,true,false,false,true,false] rfl rfl (one_of HT_.out (by kernel_rfl)) (by decide) (fun K hK => ?_)
           refine Kd.R_lit_step (Kd.int .i64) _ 3 ?hg (N:=27) ?hd (xs:=([] : List Int)) (inner:=[]) (ok:=fun _ => True) (okp:=fun _ => True) ?hr ?hp (fun _ hk => hk) trivial (Below.refl _ _) (Nat.le_refl _) (by simp) ?_;(case hd => rfl);(case hg => rfl);(case hr => first|(go_simp;done)|(go_simp;rfl));(case hp => exact (Reps.none _ _))
           intro v180 w27 ho28 hb hg_ hnew_
           clear hg_ hnew_
           (first|rw [← Ny179.out] at ho28|(simp only [Int.reduceToNat] at ho28;rw [← Ny179.out] at ho28))
           have n0_:=mk_ (re_ (qr_ HO178) (Kd.R_base ho28) hb)
           have n1_:=mk_ (Kd.R_lower (Kd.R_new' ho28 (Kd.R_lt (qr_ HO178))) (bz_ (u1_ HB GE169 GE170 GE185)))
           have n2_:=mk_ (blk_below (g:=gb169) (o:=.cells #[.int .i64 a0_0,.slice A0_1 l0_1.length c0_1,.slice A0_2 l0_2.length c0_2,.slice A0_3 l0_3.length c0_3] 30 (0,0)) (qk_ BK169) hb)
           have n3_:=mk_ (blk_below (g:=gb170) (o:=.cells #[.int .i64 0,.slice none 0 0,.slice none 0 0,.slice none 0 0] 30 (0,0)) (qk_ BK170) hb)
           have n4_:=mk_ (blk_below (g:=gb185) (o:=.cells #[.int .i64 0,.slice none 0 0,.slice none 0 0,.slice none 0 0] 30 (0,0)) (qk_ BK185) hb)
           have n5_:=mk_ (st_ (u1_ HB GE169 GE170 GE185) hb)
           clear HO178
           clear BK169
           clear BK170
           clear BK185
           clear HB
           have HO178:=n0_
           have HO181:=n1_
           have BK169:=n2_
           have BK170:=n3_
           have BK185:=n4_
           have HB:=n5_
           clear n0_ n1_ n2_ n3_ n4_ n5_
           clear hb ho28
           refine hK.out _ _ ⟨(bc_ BK169.out 0).trans rfl,(bc_ BK169.out 1).trans rfl,(bc_ BK169.out 2).trans rfl,(bc_ BK169.out 3).trans rfl⟩ (fun hHeld => ?_)
           clear hK K
           refine norm_ (a':=?_) ?_ ?_
           rotate_left
           ·show Act.put _ (some 27) _ = _
            simp only [Act.put,sx_,sy_,sz_,i64_w,i32_w]
            rfl
           exact norm_ (by first|(simp only [putAll,Act.put,sx_,sy_,sz_];done)|(simp only [putAll,Act.put,sx_,sy_,sz_];rfl)) (hJ2_5_6_11 (v174,v177,v180,gb185) _ ⟨hHeld,(by (with_reducible repeat (first|apply ra_|apply rn_|apply rd_));exact rm_ HO178.out (λ_ h=>h.2)),(by (with_reducible repeat (first|apply ra_|apply rn_|apply rd_));exact rm_ HO181.out (λ_ h=>h.2)),(qk_ BK169),(qk_ BK170),(qk_ BK185),GW185.out,GE185.out,NB169_185.out,NB185_169.out,NB170_185.out,NB185_170.out,(u1_ HB GE169 GE170 GE185)⟩)
         ·skip
          rintro ⟨v174,v177,v180⟩ w27 ⟨hS_,h0_,h1_,h2_,h3_,h4_⟩
          have n0_ : Aside0 (Kd.R (Kd.int .i64) 3 w27 w.heap.size (fun k_ => some k_ ≠ (v180 : Value).ownBlock) v177 y176):=⟨h0_⟩
          have n1_ : Aside0 (Kd.R (Kd.int .i64) 3 w27 w.heap.size (fun k_ => some k_ ≠ (v177 : Value).ownBlock) v180 y179):=⟨h1_⟩
          have n2_ : Aside0 (w27.heap[gb169]? = some (.cells #[.int .i64 a0_0,.slice A0_1 l0_1.length c0_1,.slice A0_2 l0_2.length c0_2,.slice A0_3 l0_3.length c0_3] 30 (0,0))):=⟨h2_⟩
          have n3_ : Aside0 (w27.heap[gb170]? = some (.cells #[.int .i64 0,.slice none 0 0,.slice none 0 0,.slice none 0 0] 30 (0,0))):=⟨h3_⟩
          have n4_ : Aside0 (Below w.heap.size w w27):=⟨h4_⟩
          clear BK169
          clear BK170
          clear HB
          clear h0_ h1_ h2_ h3_ h4_
          have HO178:=n0_
          have HO181:=n1_
          have BK169:=n2_
          have BK170:=n3_
          have HB:=n4_
          clear n0_ n1_ n2_ n3_ n4_
          have hHeld : w27.cell? ⟨gb169,0,none⟩ = some (.int .i64 a0_0) ∧ w27.cell? ⟨gb169,1,none⟩ = some (.slice A0_1 l0_1.length c0_1) ∧ w27.cell? ⟨gb169,2,none⟩ = some (.slice A0_2 l0_2.length c0_2) ∧ w27.cell? ⟨gb169,3,none⟩ = some (.slice A0_3 l0_3.length c0_3):=hS_
          refine norm_ (a':=?_) ?_ ?_
          rotate_left
          ·simp only [putAll,Act.put,sx_,sy_,sz_]
           rfl
          refine two_ (i:=9) (j:=11) (Ni:=some 30) (Nj:=some 6) #[true,true,true,true,true,true,true,true,true,true,false,false,false] #[true,true,true,true,true,true,true,true,true,false,false,true,false] rfl rfl rfl rfl (two_of HT_.out (by kernel_rfl)) (by decide) (by decide) (fun K hK => ?_) (fun K hK => ?_)
          ·skip
           refine Kd.R_append_rows_step (Kd.int .i64) (w0:=w) w.heap.size (by rfl) (.tmp 27) (.tmp 29) 23 3 (.int .i64 0) 8 rfl Try.underlying23 info3 rfl (by decide) (by omega) v180 y179 l0_3 _ _ _ (fun k_ => some k_ ≠ (v177 : Value).ownBlock) (fun _ => False) rfl rfl ?aO ?aR (fun _ _ h => h) (fun _ h => h.elim) ?aF ?aB ?aS ?aL ?_
           (case aR => exact qn_ HR0_3 HB)
           (case aB => exact (qd_ HB GE169 GE170))
           (case aF => exact (fun k_ hk => Kd.fresh' (Kd.R_lt (qr_ HO178)) k_ hk))
           (case aO => exact (qr_ HO181))
           (case aS => exact (bz_ (qd_ HB GE169 GE170)))
           (case aL => have:=LMc20.out;omega)
           intro v183 w28 ho hb hg hat
           rw [← Ny182.out] at ho
           have n0_:=mk_ (blk_grown (g:=gb169) (o:=.cells #[.int .i64 a0_0,.slice A0_1 l0_1.length c0_1,.slice A0_2 l0_2.length c0_2,.slice A0_3 l0_3.length c0_3] 30 (0,0)) (qk_ BK169) hg (Kd.R_ne HO181.out BK169.out (by decide)))
           have n1_:=mk_ (blk_grown (g:=gb170) (o:=.cells #[.int .i64 0,.slice none 0 0,.slice none 0 0,.slice none 0 0] 30 (0,0)) (qk_ BK170) hg (Kd.R_ne HO181.out BK170.out (by decide)))
           have n2_:=mk_ (Kd.R_after (ok:=(fun _ => True)) (by (with_reducible repeat (first|apply ra_|apply rn_|apply rd_));exact rm_ HO178.out (fun _ hk => ⟨trivial,hk⟩)) hg hat)
           have n3_:=mk_ (hb)
           have n4_:=mk_ (ho)
           clear BK169
           clear BK170
           clear HO178
           clear HB
           clear HO181
           have BK169:=n0_
           have BK170:=n1_
           have HO178:=n2_
           have HB:=n3_
           have HO184:=n4_
           clear n0_ n1_ n2_ n3_ n4_
           clear ho hb hg hat
           obtain ⟨Ao29,co29,eo29⟩:=Kd.R_slice HO184.out
           (first|subst eo29|(injection eo29 with f1_ f2_ f3_;have f4_:=f1_.symm;have f5_:=f3_.symm;clear f1_ f2_ f3_;subst f4_;subst f5_))
           obtain ⟨Ao30,co30,eo30⟩:=Kd.R_slice HO178.out
           (first|subst eo30|(injection eo30 with f1_ f2_ f3_;have f4_:=f1_.symm;have f5_:=f3_.symm;clear f1_ f2_ f3_;subst f4_;subst f5_))
           refine hK.out _ _ ⟨(bc_ BK169.out 0).trans rfl,(bc_ BK169.out 1).trans rfl,(bc_ BK169.out 2).trans rfl,(bc_ BK169.out 3).trans rfl⟩ (fun hHeld => ?_)
           clear hK K
           refine norm_ (a':=?_) ?_ ?_
           rotate_left
           ·show Act.put _ (some 30) _ = _
            simp only [Act.put,sx_,sy_,sz_,i64_w,i32_w]
            rfl
           refine pure_ (i:=10) (N:=some 31) (v:=?_) (a':=?_) #[true,true,true,true,true,true,true,true,true,true,true,false,false] rfl rfl (any_of HT_.out (by kernel_rfl)) (fun _ _ _ h => h) (Or.inl ⟨by rfl,?_⟩) ?_ ?_
           rotate_left
           ·intro w'
            go_simp
            with_reducible rfl
           rotate_left
           ·simp only [Act.put,sx_,sy_,sz_,i64_w,i32_w]
            rfl
           exact norm_ (by first|(simp only [putAll,Act.put,sx_,sy_,sz_];done)|(simp only [putAll,Act.put,sx_,sy_,sz_];rfl)) (hJ2_5_6_9 (v174,.slice Ao30 y176.length co30,v180,.slice Ao29 y182.length co29) _ ⟨hHeld,(by (with_reducible repeat (first|apply ra_|apply rn_|apply rd_));exact rm_ HO178.out (λ_ h=>h.2)),(qr_ HO184),(qk_ BK169),(qk_ BK170),(qd_ HB GE169 GE170)⟩)
          ·skip
           refine box_step ?hg (N:=6) ?hd (cs:=#[.int .i64 0,.slice none 0 0,.slice none 0 0,.slice none 0 0]) (t:=30) ?hr ?_;(case hd => rfl);(case hg => rfl);(case hr => first|(go_simp;done)|(go_simp;rfl))
           intro gb185 hg w28 hbox hb
           have n0_:=mk_ (rb_ (qr_ HO178) hb)
           have n1_:=mk_ (rb_ (qr_ HO181) hb)
           have n2_:=mk_ (blk_below (g:=gb169) (o:=.cells #[.int .i64 a0_0,.slice A0_1 l0_1.length c0_1,.slice A0_2 l0_2.length c0_2,.slice A0_3 l0_3.length c0_3] 30 (0,0)) (qk_ BK169) hb)
           have n3_:=mk_ (blk_below (g:=gb170) (o:=.cells #[.int .i64 0,.slice none 0 0,.slice none 0 0,.slice none 0 0] 30 (0,0)) (qk_ BK170) hb)
           have n4_:=mk_ (st_ (qd_ HB GE169 GE170) hb)
           have n5_:=mk_ (hbox)
           have n6_:=mk_ ((by rw [hg];exact (bz_ (qd_ HB GE169 GE170)) : w.heap.size ≤ gb185))
           have n7_:=mk_ ((by rw [hg];exact (bz_ (qd_ HB GE169 GE170)) : w.heap.size ≤ gb185))
           have n8_:=mk_ ((by rw [hg];exact Nat.ne_of_lt (blk_lt (g:=gb169) (o:=.cells #[.int .i64 a0_0,.slice A0_1 l0_1.length c0_1,.slice A0_2 l0_2.length c0_2,.slice A0_3 l0_3.length c0_3] 30 (0,0)) (qk_ BK169)) : gb169 ≠ gb185))
           have n9_:=mk_ ((by rw [hg];exact Nat.ne_of_gt (blk_lt (g:=gb169) (o:=.cells #[.int .i64 a0_0,.slice A0_1 l0_1.length c0_1,.slice A0_2 l0_2.length c0_2,.slice A0_3 l0_3.length c0_3] 30 (0,0)) (qk_ BK169)) : gb185 ≠ gb169))
           have n10_:=mk_ ((by rw [hg];exact Nat.ne_of_lt (blk_lt (g:=gb170) (o:=.cells #[.int .i64 0,.slice none 0 0,.slice none 0 0,.slice none 0 0] 30 (0,0)) (qk_ BK170)) : gb170 ≠ gb185))
           have n11_:=mk_ ((by rw [hg];exact Nat.ne_of_gt (blk_lt (g:=gb170) (o:=.cells #[.int .i64 0,.slice none 0 0,.slice none 0 0,.slice none 0 0] 30 (0,0)) (qk_ BK170)) : gb185 ≠ gb170))
           clear HO178
           clear HO181
           clear BK169
           clear BK170
           clear HB
           have HO178:=n0_
           have HO181:=n1_
           have BK169:=n2_
           have BK170:=n3_
           have HB:=n4_
           have BK185:=n5_
           have GW185:=n6_
           have GE185:=n7_
           have NB169_185:=n8_
           have NB185_169:=n9_
           have NB170_185:=n10_
           have NB185_170:=n11_
           clear n0_ n1_ n2_ n3_ n4_ n5_ n6_ n7_ n8_ n9_ n10_ n11_
           clear hb hbox hg
           refine hK.out _ _ ⟨(bc_ BK169.out 0).trans rfl,(bc_ BK169.out 1).trans rfl,(bc_ BK169.out 2).trans rfl,(bc_ BK169.out 3).trans rfl⟩ (fun hHeld => ?_)
           clear hK K
           refine norm_ (a':=?_) ?_ ?_
           rotate_left
           ·show Act.put _ (some 6) _ = _
            simp only [Act.put,sx_,sy_,sz_,i64_w,i32_w]
            rfl
           exact norm_ (by first|(simp only [putAll,Act.put,sx_,sy_,sz_];done)|(simp only [putAll,Act.put,sx_,sy_,sz_];rfl)) (hJ2_5_6_11 (v174,v177,v180,gb185) _ ⟨hHeld,(qr_ HO178),(qr_ HO181),(qk_ BK169),(qk_ BK170),(qk_ BK185),GW185.out,GE185.out,NB169_185.out,NB185_169.out,NB170_185.out,NB185_170.out,(u1_ HB GE169 GE170 GE185)⟩)
        ·skip
         rintro ⟨v174,v177,v180,gb185⟩ w28 ⟨hS_,h0_,h1_,h2_,h3_,h4_,h5_,h6_,h7_,h8_,h9_,h10_,h11_⟩
         have n0_ : Aside0 (Kd.R (Kd.int .i64) 3 w28 w.heap.size (fun k_ => some k_ ≠ (v180 : Value).ownBlock) v177 y176):=⟨h0_⟩
         have n1_ : Aside0 (Kd.R (Kd.int .i64) 3 w28 w.heap.size (fun k_ => some k_ ≠ (v177 : Value).ownBlock) v180 y179):=⟨h1_⟩
         have n2_ : Aside0 (w28.heap[gb169]? = some (.cells #[.int .i64 a0_0,.slice A0_1 l0_1.length c0_1,.slice A0_2 l0_2.length c0_2,.slice A0_3 l0_3.length c0_3] 30 (0,0))):=⟨h2_⟩
         have n3_ : Aside0 (w28.heap[gb170]? = some (.cells #[.int .i64 0,.slice none 0 0,.slice none 0 0,.slice none 0 0] 30 (0,0))):=⟨h3_⟩
         have n4_ : Aside0 (w28.heap[gb185]? = some (.cells #[.int .i64 0,.slice none 0 0,.slice none 0 0,.slice none 0 0] 30 (0,0))):=⟨h4_⟩
         have n5_ : Aside0 (w.heap.size ≤ gb185):=⟨h5_⟩
         have n6_ : Aside0 (w.heap.size ≤ gb185):=⟨h6_⟩
         have n7_ : Aside0 (gb169 ≠ gb185):=⟨h7_⟩
         have n8_ : Aside0 (gb185 ≠ gb169):=⟨h8_⟩
         have n9_ : Aside0 (gb170 ≠ gb185):=⟨h9_⟩
         have n10_ : Aside0 (gb185 ≠ gb170):=⟨h10_⟩
         have n11_ : Aside0 (Below w.heap.size w w28):=⟨h11_⟩
         clear BK169
         clear BK170
         clear HB
         clear h0_ h1_ h2_ h3_ h4_ h5_ h6_ h7_ h8_ h9_ h10_ h11_
         have HO178:=n0_
         have HO181:=n1_
         have BK169:=n2_
         have BK170:=n3_
         have BK185:=n4_
         have GW185:=n5_
         have GE185:=n6_
         have NB169_185:=n7_
         have NB185_169:=n8_
         have NB170_185:=n9_
         have NB185_170:=n10_
         have HB:=n11_
         clear n0_ n1_ n2_ n3_ n4_ n5_ n6_ n7_ n8_ n9_ n10_ n11_
         have hHeld : w28.cell? ⟨gb169,0,none⟩ = some (.int .i64 a0_0) ∧ w28.cell? ⟨gb169,1,none⟩ = some (.slice A0_1 l0_1.length c0_1) ∧ w28.cell? ⟨gb169,2,none⟩ = some (.slice A0_2 l0_2.length c0_2) ∧ w28.cell? ⟨gb169,3,none⟩ = some (.slice A0_3 l0_3.length c0_3):=hS_
         refine norm_ (a':=?_) ?_ ?_
         rotate_left
         ·simp only [putAll,Act.put,sx_,sy_,sz_]
          rfl
         refine one_ (i:=9) (N:=some 30) #[true,true,true,true,true,true,true,true,true,true,false,true,false] rfl rfl (one_of HT_.out (by kernel_rfl)) (by decide) (fun K hK => ?_)
         refine Kd.R_append_rows_step (Kd.int .i64) (w0:=w) w.heap.size (by rfl) (.tmp 27) (.tmp 29) 23 3 (.int .i64 0) 8 rfl Try.underlying23 info3 rfl (by decide) (by omega) v180 y179 l0_3 _ _ _ (fun k_ => some k_ ≠ (v177 : Value).ownBlock) (fun _ => False) rfl rfl ?aO ?aR (fun _ _ h => h) (fun _ h => h.elim) ?aF ?aB ?aS ?aL ?_
         (case aR => exact qn_ HR0_3 HB)
         (case aB => exact (u1_ HB GE169 GE170 GE185))
         (case aF => exact (fun k_ hk => Kd.fresh' (Kd.R_lt (qr_ HO178)) k_ hk))
         (case aO => exact (qr_ HO181))
         (case aS => exact (bz_ (u1_ HB GE169 GE170 GE185)))
         (case aL => have:=LMc20.out;omega)
         intro v183 w29 ho hb hg hat
         rw [← Ny182.out] at ho
         have n0_:=mk_ (blk_grown (g:=gb169) (o:=.cells #[.int .i64 a0_0,.slice A0_1 l0_1.length c0_1,.slice A0_2 l0_2.length c0_2,.slice A0_3 l0_3.length c0_3] 30 (0,0)) (qk_ BK169) hg (Kd.R_ne HO181.out BK169.out (by decide)))
         have n1_:=mk_ (blk_grown (g:=gb170) (o:=.cells #[.int .i64 0,.slice none 0 0,.slice none 0 0,.slice none 0 0] 30 (0,0)) (qk_ BK170) hg (Kd.R_ne HO181.out BK170.out (by decide)))
         have n2_:=mk_ (Kd.R_after (ok:=(fun _ => True)) (by (with_reducible repeat (first|apply ra_|apply rn_|apply rd_));exact rm_ HO178.out (fun _ hk => ⟨trivial,hk⟩)) hg hat)
         have n3_:=mk_ (blk_grown (g:=gb185) (o:=.cells #[.int .i64 0,.slice none 0 0,.slice none 0 0,.slice none 0 0] 30 (0,0)) (qk_ BK185) hg (Kd.R_ne HO181.out BK185.out (by decide)))
         have n4_:=mk_ (hb)
         have n5_:=mk_ (ho)
         clear BK169
         clear BK170
         clear HO178
         clear BK185
         clear HB
         clear HO181
         have BK169:=n0_
         have BK170:=n1_
         have HO178:=n2_
         have BK185:=n3_
         have HB:=n4_
         have HO184:=n5_
         clear n0_ n1_ n2_ n3_ n4_ n5_
         clear ho hb hg hat
         obtain ⟨Ao30,co30,eo30⟩:=Kd.R_slice HO184.out
         (first|subst eo30|(injection eo30 with f1_ f2_ f3_;have f4_:=f1_.symm;have f5_:=f3_.symm;clear f1_ f2_ f3_;subst f4_;subst f5_))
         obtain ⟨Ao31,co31,eo31⟩:=Kd.R_slice HO178.out
         (first|subst eo31|(injection eo31 with f1_ f2_ f3_;have f4_:=f1_.symm;have f5_:=f3_.symm;clear f1_ f2_ f3_;subst f4_;subst f5_))
         refine hK.out _ _ ⟨(bc_ BK169.out 0).trans rfl,(bc_ BK169.out 1).trans rfl,(bc_ BK169.out 2).trans rfl,(bc_ BK169.out 3).trans rfl⟩ (fun hHeld => ?_)
         clear hK K
         refine norm_ (a':=?_) ?_ ?_
         rotate_left
         ·show Act.put _ (some 30) _ = _
          simp only [Act.put,sx_,sy_,sz_,i64_w,i32_w]
          rfl
         refine pure_ (i:=10) (N:=some 31) (v:=?_) (a':=?_) #[true,true,true,true,true,true,true,true,true,true,true,true,false] rfl rfl (any_of HT_.out (by kernel_rfl)) (fun _ _ _ h => h) (Or.inl ⟨by rfl,?_⟩) ?_ ?_
         rotate_left
         ·intro w'
          go_simp
          with_reducible rfl
         rotate_left
         ·simp only [Act.put,sx_,sy_,sz_,i64_w,i32_w]
          rfl
         exact norm_ (by first|(simp only [putAll,Act.put,sx_,sy_,sz_];done)|(simp only [putAll,Act.put,sx_,sy_,sz_];rfl)) (hJ2_5_6_9_11 (v174,.slice Ao31 y176.length co31,v180,.slice Ao30 y182.length co30,gb185) _ ⟨hHeld,(by (with_reducible repeat (first|apply ra_|apply rn_|apply rd_));exact rm_ HO178.out (λ_ h=>h.2)),(qr_ HO184),(qk_ BK169),(qk_ BK170),(qk_ BK185),GW185.out,GE185.out,NB169_185.out,NB185_169.out,NB170_185.out,NB185_170.out,(u1_ HB GE169 GE170 GE185)⟩)
       ·skip
        rintro ⟨v174,v177,v180,v183⟩ w30 ⟨hS_,h0_,h1_,h2_,h3_,h4_⟩
        have n0_ : Aside0 (Kd.R (Kd.int .i64) 3 w30 w.heap.size (fun k_ => some k_ ≠ (v183 : Value).ownBlock) v177 y176):=⟨h0_⟩
        have n1_ : Aside0 (Kd.R (Kd.int .i64) 3 w30 w.heap.size (fun k_ => some k_ ≠ (v177 : Value).ownBlock) v183 y182):=⟨h1_⟩
        have n2_ : Aside0 (w30.heap[gb169]? = some (.cells #[.int .i64 a0_0,.slice A0_1 l0_1.length c0_1,.slice A0_2 l0_2.length c0_2,.slice A0_3 l0_3.length c0_3] 30 (0,0))):=⟨h2_⟩
        have n3_ : Aside0 (w30.heap[gb170]? = some (.cells #[.int .i64 0,.slice none 0 0,.slice none 0 0,.slice none 0 0] 30 (0,0))):=⟨h3_⟩
        have n4_ : Aside0 (Below w.heap.size w w30):=⟨h4_⟩
        clear BK169
        clear BK170
        clear HB
        clear h0_ h1_ h2_ h3_ h4_
        have HO178:=n0_
        have HO184:=n1_
        have BK169:=n2_
        have BK170:=n3_
        have HB:=n4_
        clear n0_ n1_ n2_ n3_ n4_
        have hHeld : w30.cell? ⟨gb169,0,none⟩ = some (.int .i64 a0_0) ∧ w30.cell? ⟨gb169,1,none⟩ = some (.slice A0_1 l0_1.length c0_1) ∧ w30.cell? ⟨gb169,2,none⟩ = some (.slice A0_2 l0_2.length c0_2) ∧ w30.cell? ⟨gb169,3,none⟩ = some (.slice A0_3 l0_3.length c0_3):=hS_
        obtain ⟨Ao31,co31,eo31⟩:=Kd.R_slice HO184.out
        (first|subst eo31|(injection eo31 with f1_ f2_ f3_;have f4_:=f1_.symm;have f5_:=f3_.symm;clear f1_ f2_ f3_;subst f4_;subst f5_))
        obtain ⟨Ao32,co32,eo32⟩:=Kd.R_slice HO178.out
        (first|subst eo32|(injection eo32 with f1_ f2_ f3_;have f4_:=f1_.symm;have f5_:=f3_.symm;clear f1_ f2_ f3_;subst f4_;subst f5_))
        refine norm_ (a':=?_) ?_ ?_
        rotate_left
        ·simp only [putAll,Act.put,sx_,sy_,sz_]
         rfl
        refine one_ (i:=11) (N:=some 6) #[true,true,true,true,true,true,true,true,true,true,true,true,false] rfl rfl (one_of HT_.out (by kernel_rfl)) (by decide) (fun K hK => ?_)
        refine box_step ?hg (N:=6) ?hd (cs:=#[.int .i64 0,.slice none 0 0,.slice none 0 0,.slice none 0 0]) (t:=30) ?hr ?_;(case hd => rfl);(case hg => rfl);(case hr => first|(go_simp;done)|(go_simp;rfl))
        intro gb185 hg w33 hbox hb
        have n0_:=mk_ (rb_ (qr_ HO178) hb)
        have n1_:=mk_ (rb_ (qr_ HO184) hb)
        have n2_:=mk_ (blk_below (g:=gb169) (o:=.cells #[.int .i64 a0_0,.slice A0_1 l0_1.length c0_1,.slice A0_2 l0_2.length c0_2,.slice A0_3 l0_3.length c0_3] 30 (0,0)) (qk_ BK169) hb)
        have n3_:=mk_ (blk_below (g:=gb170) (o:=.cells #[.int .i64 0,.slice none 0 0,.slice none 0 0,.slice none 0 0] 30 (0,0)) (qk_ BK170) hb)
        have n4_:=mk_ (st_ (qd_ HB GE169 GE170) hb)
        have n5_:=mk_ (hbox)
        have n6_:=mk_ ((by rw [hg];exact (bz_ (qd_ HB GE169 GE170)) : w.heap.size ≤ gb185))
        have n7_:=mk_ ((by rw [hg];exact (bz_ (qd_ HB GE169 GE170)) : w.heap.size ≤ gb185))
        have n8_:=mk_ ((by rw [hg];exact Nat.ne_of_lt (blk_lt (g:=gb169) (o:=.cells #[.int .i64 a0_0,.slice A0_1 l0_1.length c0_1,.slice A0_2 l0_2.length c0_2,.slice A0_3 l0_3.length c0_3] 30 (0,0)) (qk_ BK169)) : gb169 ≠ gb185))
        have n9_:=mk_ ((by rw [hg];exact Nat.ne_of_gt (blk_lt (g:=gb169) (o:=.cells #[.int .i64 a0_0,.slice A0_1 l0_1.length c0_1,.slice A0_2 l0_2.length c0_2,.slice A0_3 l0_3.length c0_3] 30 (0,0)) (qk_ BK169)) : gb185 ≠ gb169))
        have n10_:=mk_ ((by rw [hg];exact Nat.ne_of_lt (blk_lt (g:=gb170) (o:=.cells #[.int .i64 0,.slice none 0 0,.slice none 0 0,.slice none 0 0] 30 (0,0)) (qk_ BK170)) : gb170 ≠ gb185))
        have n11_:=mk_ ((by rw [hg];exact Nat.ne_of_gt (blk_lt (g:=gb170) (o:=.cells #[.int .i64 0,.slice none 0 0,.slice none 0 0,.slice none 0 0] 30 (0,0)) (qk_ BK170)) : gb185 ≠ gb170))
        clear HO178
        clear HO184
        clear BK169
        clear BK170
        clear HB
        have HO178:=n0_
        have HO184:=n1_
        have BK169:=n2_
        have BK170:=n3_
        have HB:=n4_
        have BK185:=n5_
        have GW185:=n6_
        have GE185:=n7_
        have NB169_185:=n8_
        have NB185_169:=n9_
        have NB170_185:=n10_
        have NB185_170:=n11_
        clear n0_ n1_ n2_ n3_ n4_ n5_ n6_ n7_ n8_ n9_ n10_ n11_
        clear hb hbox hg
        refine hK.out _ _ ⟨(bc_ BK169.out 0).trans rfl,(bc_ BK169.out 1).trans rfl,(bc_ BK169.out 2).trans rfl,(bc_ BK169.out 3).trans rfl⟩ (fun hHeld => ?_)
        clear hK K
        refine norm_ (a':=?_) ?_ ?_
        rotate_left
        ·show Act.put _ (some 6) _ = _
         simp only [Act.put,sx_,sy_,sz_,i64_w,i32_w]
         rfl
        exact norm_ (by first|(simp only [putAll,Act.put,sx_,sy_,sz_];done)|(simp only [putAll,Act.put,sx_,sy_,sz_];rfl)) (hJ2_5_6_9_11 (v174,.slice Ao32 y176.length co32,v180,.slice Ao31 y182.length co31,gb185) _ ⟨hHeld,(qr_ HO178),(qr_ HO184),(qk_ BK169),(qk_ BK170),(qk_ BK185),GW185.out,GE185.out,NB169_185.out,NB185_169.out,NB170_185.out,NB185_170.out,(u1_ HB GE169 GE170 GE185)⟩)
      rintro ⟨v174,v177,v180,v183,gb185⟩ w31 ⟨hS_,h0_,h1_,h2_,h3_,h4_,h5_,h6_,h7_,h8_,h9_,h10_,h11_⟩
      have n0_ : Aside0 (Kd.R (Kd.int .i64) 3 w31 w.heap.size (fun k_ => some k_ ≠ (v183 : Value).ownBlock) v177 y176):=⟨h0_⟩
      have n1_ : Aside0 (Kd.R (Kd.int .i64) 3 w31 w.heap.size (fun k_ => some k_ ≠ (v177 : Value).ownBlock) v183 y182):=⟨h1_⟩
      have n2_ : Aside0 (w31.heap[gb169]? = some (.cells #[.int .i64 a0_0,.slice A0_1 l0_1.length c0_1,.slice A0_2 l0_2.length c0_2,.slice A0_3 l0_3.length c0_3] 30 (0,0))):=⟨h2_⟩
      have n3_ : Aside0 (w31.heap[gb170]? = some (.cells #[.int .i64 0,.slice none 0 0,.slice none 0 0,.slice none 0 0] 30 (0,0))):=⟨h3_⟩
      have n4_ : Aside0 (w31.heap[gb185]? = some (.cells #[.int .i64 0,.slice none 0 0,.slice none 0 0,.slice none 0 0] 30 (0,0))):=⟨h4_⟩
      have n5_ : Aside0 (w.heap.size ≤ gb185):=⟨h5_⟩
      have n6_ : Aside0 (w.heap.size ≤ gb185):=⟨h6_⟩
      have n7_ : Aside0 (gb169 ≠ gb185):=⟨h7_⟩
      have n8_ : Aside0 (gb185 ≠ gb169):=⟨h8_⟩
      have n9_ : Aside0 (gb170 ≠ gb185):=⟨h9_⟩
      have n10_ : Aside0 (gb185 ≠ gb170):=⟨h10_⟩
      have n11_ : Aside0 (Below w.heap.size w w31):=⟨h11_⟩
      clear BK169
      clear BK170
      clear HB
      clear h0_ h1_ h2_ h3_ h4_ h5_ h6_ h7_ h8_ h9_ h10_ h11_
      have HO178:=n0_
      have HO184:=n1_
      have BK169:=n2_
      have BK170:=n3_
      have BK185:=n4_
      have GW185:=n5_
      have GE185:=n6_
      have NB169_185:=n7_
      have NB185_169:=n8_
      have NB170_185:=n9_
      have NB185_170:=n10_
      have HB:=n11_
      clear n0_ n1_ n2_ n3_ n4_ n5_ n6_ n7_ n8_ n9_ n10_ n11_
      have hHeld : w31.cell? ⟨gb169,0,none⟩ = some (.int .i64 a0_0) ∧ w31.cell? ⟨gb169,1,none⟩ = some (.slice A0_1 l0_1.length c0_1) ∧ w31.cell? ⟨gb169,2,none⟩ = some (.slice A0_2 l0_2.length c0_2) ∧ w31.cell? ⟨gb169,3,none⟩ = some (.slice A0_3 l0_3.length c0_3):=hS_
      obtain ⟨Ao32,co32,eo32⟩:=Kd.R_slice HO184.out
      (first|subst eo32|(injection eo32 with f1_ f2_ f3_;have f4_:=f1_.symm;have f5_:=f3_.symm;clear f1_ f2_ f3_;subst f4_;subst f5_))
      obtain ⟨Ao33,co33,eo33⟩:=Kd.R_slice HO178.out
      (first|subst eo33|(injection eo33 with f1_ f2_ f3_;have f4_:=f1_.symm;have f5_:=f3_.symm;clear f1_ f2_ f3_;subst f4_;subst f5_))
      refine norm_ (a':=?_) ?_ ?_
      rotate_left
      ·simp only [putAll,Act.put,sx_,sy_,sz_]
       rfl
      refine one_ (i:=12) (N:=none) #[true,true,true,true,true,true,true,true,true,true,true,true,true] rfl rfl (one_of HT_.out (by kernel_rfl)) (by decide) (fun K hK => ?_)
      have hs34 : w31.cell? ⟨gb185,0,none⟩ = some (.int .i64 0):=(bc_ BK185.out 0).trans rfl
      have hfs34:=bf_ BK185.out 0
      have hns34_0:=NB169_185.out
      have hns34_1:=NB170_185.out
      have hms34_0:=NB185_169.out
      have hms34_1:=NB185_170.out
      have hs35 : w31.cell? ⟨gb185,1,none⟩ = some (.slice none 0 0):=(bc_ BK185.out 1).trans rfl
      have hfs35:=bf_ BK185.out 1
      have hns35_0:=NB169_185.out
      have hns35_1:=NB170_185.out
      have hms35_0:=NB185_169.out
      have hms35_1:=NB185_170.out
      have hs36 : w31.cell? ⟨gb185,2,none⟩ = some (.slice none 0 0):=(bc_ BK185.out 2).trans rfl
      have hfs36:=bf_ BK185.out 2
      have hns36_0:=NB169_185.out
      have hns36_1:=NB170_185.out
      have hms36_0:=NB185_169.out
      have hms36_1:=NB185_170.out
      have hs37 : w31.cell? ⟨gb185,3,none⟩ = some (.slice none 0 0):=(bc_ BK185.out 3).trans rfl
      have hfs37:=bf_ BK185.out 3
      have hns37_0:=NB169_185.out
      have hns37_1:=NB170_185.out
      have hms37_0:=NB185_169.out
      have hms37_1:=NB185_170.out
      refine skip_ (w1:=?_) (by rfl) rfl ?_ ?_
      rotate_left
      ·go_simp
       rfl
      refine hK.out _ _ ⟨((cell_far (p:=⟨gb185,_,none⟩) NB169_185.out _).trans (((cell_far (p:=⟨gb185,_,none⟩) NB169_185.out _).trans (((cell_far (p:=⟨gb185,_,none⟩) NB169_185.out _).trans (((cell_far (p:=⟨gb185,_,none⟩) NB169_185.out _).trans (hHeld.1)))))))),((cell_far (p:=⟨gb185,_,none⟩) NB169_185.out _).trans (((cell_far (p:=⟨gb185,_,none⟩) NB169_185.out _).trans (((cell_far (p:=⟨gb185,_,none⟩) NB169_185.out _).trans (((cell_far (p:=⟨gb185,_,none⟩) NB169_185.out _).trans (hHeld.2.1)))))))),((cell_far (p:=⟨gb185,_,none⟩) NB169_185.out _).trans (((cell_far (p:=⟨gb185,_,none⟩) NB169_185.out _).trans (((cell_far (p:=⟨gb185,_,none⟩) NB169_185.out _).trans (((cell_far (p:=⟨gb185,_,none⟩) NB169_185.out _).trans (hHeld.2.2.1)))))))),((cell_far (p:=⟨gb185,_,none⟩) NB169_185.out _).trans (((cell_far (p:=⟨gb185,_,none⟩) NB169_185.out _).trans (((cell_far (p:=⟨gb185,_,none⟩) NB169_185.out _).trans (((cell_far (p:=⟨gb185,_,none⟩) NB169_185.out _).trans (hHeld.2.2.2))))))))⟩ (fun hHeld => ?_)
      clear hK K
      refine done_ (done_of HT_.out (by kernel_rfl)) ?_
      try go_wp2
      go_loopg [7] kj2 (fun kq v7 w' => ∃ (x7_2 : Int) (z9_ : List (S51)) (u186001 : Value),v7 = .int .i64 x7_2 ∧ Aside0 (spec_CutCable.l0 kq a1 x7_2 a0_0 l0_1 l0_2 l0_3 a0_0 z9_ y176 y182 = some (r1,r2,r3,r4,r5)) ∧ Aside0 (kq ≤ kj2) ∧ Aside0 (Kd.R k51 51 w' w.heap.size (fun _ => True) u186001 z9_) ∧ Aside0 (Kd.R (Kd.int .i64) 3 w' w.heap.size (fun k_ => some k_ ≠ ((.slice Ao32 y182.length co32) : Value).ownBlock) (.slice Ao33 y176.length co33) y176) ∧ Aside0 (Kd.R (Kd.int .i64) 3 w' w.heap.size (fun k_ => some k_ ≠ ((.slice Ao33 y176.length co33) : Value).ownBlock) (.slice Ao32 y182.length co32) y182) ∧ Aside0 (w'.heap[gb169]? = some (.cells #[.int .i64 a0_0,(.slice A0_1 l0_1.length c0_1),(.slice A0_2 l0_2.length c0_2),(.slice A0_3 l0_3.length c0_3)] 30 (0,0))) ∧ Aside0 (w'.heap[gb170]? = some (.cells #[.int .i64 0,(.slice none 0 0),(.slice none 0 0),(.slice none 0 0)] 30 (0,0))) ∧ Aside0 (w'.heap[gb185]? = some (.cells #[.int .i64 a0_0,u186001,(.slice Ao33 y176.length co33),(.slice Ao32 y182.length co32)] 30 (0,0))) ∧ Aside0 (Below w.heap.size w w'))
      case atStart => exact ⟨(0),(([] : List (S51))),(.slice none 0 0),qf_,H',⟨Nat.le_refl _⟩,⟨by first|exact Kd.R_nil _ _ _ _ _|exact Kd.N_nil _ _ _ _ _|exact Kd.V_nil _ _ _ _ _|exact Kd.Q_nil _ _ _ _ _|exact Kd.S_nil _ _ _ _ _⟩,⟨by (with_reducible repeat (first|apply ra_|apply rn_|apply rd_));exact rm_ (rf_ (p:=⟨gb185,3,none⟩) (rf_ (p:=⟨gb185,2,none⟩) (rf_ (p:=⟨gb185,1,none⟩) (rf_ (p:=⟨gb185,0,none⟩) (rt_ HO178.out BK185.out (by decide)) (λ_ h=>h.2) (.int .i64 a0_0)) (λ_ h=>h.2) (.slice none 0 0)) (λ_ h=>h.2) (.slice Ao33 y176.length co33)) (λ_ h=>h.2) (.slice Ao32 y182.length co32)) (fun _ hk => hk.1)⟩,⟨by (with_reducible repeat (first|apply ra_|apply rn_|apply rd_));exact rm_ (rf_ (p:=⟨gb185,3,none⟩) (rf_ (p:=⟨gb185,2,none⟩) (rf_ (p:=⟨gb185,1,none⟩) (rf_ (p:=⟨gb185,0,none⟩) (rt_ HO184.out BK185.out (by decide)) (λ_ h=>h.2) (.int .i64 a0_0)) (λ_ h=>h.2) (.slice none 0 0)) (λ_ h=>h.2) (.slice Ao33 y176.length co33)) (λ_ h=>h.2) (.slice Ao32 y182.length co32)) (fun _ hk => hk.1)⟩,⟨by (with_reducible repeat (first|apply kn_|apply kd_|apply ka_));refine blk_far ?_ NB169_185.out _;(with_reducible repeat (first|apply kn_|apply kd_|apply ka_));refine blk_far ?_ NB169_185.out _;(with_reducible repeat (first|apply kn_|apply kd_|apply ka_));refine blk_far ?_ NB169_185.out _;(with_reducible repeat (first|apply kn_|apply kd_|apply ka_));refine blk_far ?_ NB169_185.out _;(with_reducible repeat (first|apply kn_|apply kd_|apply ka_));exact BK169.out⟩,⟨by (with_reducible repeat (first|apply kn_|apply kd_|apply ka_));refine blk_far ?_ NB170_185.out _;(with_reducible repeat (first|apply kn_|apply kd_|apply ka_));refine blk_far ?_ NB170_185.out _;(with_reducible repeat (first|apply kn_|apply kd_|apply ka_));refine blk_far ?_ NB170_185.out _;(with_reducible repeat (first|apply kn_|apply kd_|apply ka_));refine blk_far ?_ NB170_185.out _;(with_reducible repeat (first|apply kn_|apply kd_|apply ka_));exact BK170.out⟩,⟨by (with_reducible repeat (first|apply kn_|apply kd_|apply ka_));refine blk_put (cs:=#[.int .i64 a0_0,.slice none 0 0,.slice Ao33 y176.length co33,.slice none 0 0]) ?_ 3 _ rfl;(with_reducible repeat (first|apply kn_|apply kd_|apply ka_));refine blk_put (cs:=#[.int .i64 a0_0,.slice none 0 0,.slice none 0 0,.slice none 0 0]) ?_ 2 _ rfl;(with_reducible repeat (first|apply kn_|apply kd_|apply ka_));refine blk_put (cs:=#[.int .i64 a0_0,.slice none 0 0,.slice none 0 0,.slice none 0 0]) ?_ 1 _ rfl;(with_reducible repeat (first|apply kn_|apply kd_|apply ka_));refine blk_put (cs:=#[.int .i64 0,.slice none 0 0,.slice none 0 0,.slice none 0 0]) ?_ 0 _ rfl;(with_reducible repeat (first|apply kn_|apply kd_|apply ka_));exact BK185.out⟩,⟨u1_ HB GE169 GE170 GE185⟩⟩
      case round =>
       clear H'
       try clear c1
       try clear c2
       try clear p2
       try clear c19
       try clear c20
       obtain ⟨x7_2,z9_,u186001,rfl,HA,HK2,z0_,z1_,z2_,BK169,BK170,BK185,HB⟩:=hrel
       cases gk with
       | zero => exact absurd HA.out (by simp [spec_CutCable.l0])
       | succ k2 =>
        have H:=HA.out
        clear HA
        simp only [spec_CutCable.l0] at H
        by_cases c38 : x7_2 < (l0_1.length : Int)
        ·rw [if_pos c38] at H
         have c38b0 : decide (x7_2 < (l0_1.length : Int)) = true:=decide_eq_true c38
         clear c38
         by_cases c39 : x7_2 = a1
         ·rw [if_pos c39] at H
          have c39b0 : (x7_2 == a1) = true:=beq_iff_eq.mpr c39
          have c39b1 : (x7_2 != a1) = false:=bne_eq_false_iff_eq.mpr c39
          clear c39
          have H':=mk_ H
          clear H
          have hnb40:=NB169_170.out
          have hnc40:=NB170_169.out
          have hnb41:=NB169_185.out
          have hnc41:=NB185_169.out
          have hcz42_0 : wr.cell? ⟨gb169,0,none⟩ = some (.int .i64 a0_0):=(bc_ BK169.out 0).trans rfl
          have hcz42_1 : wr.cell? ⟨gb169,1,none⟩ = some (.slice A0_1 l0_1.length c0_1):=(bc_ BK169.out 1).trans rfl
          have hcz42_2 : wr.cell? ⟨gb169,2,none⟩ = some (.slice A0_2 l0_2.length c0_2):=(bc_ BK169.out 2).trans rfl
          have hcz42_3 : wr.cell? ⟨gb169,3,none⟩ = some (.slice A0_3 l0_3.length c0_3):=(bc_ BK169.out 3).trans rfl
          have hfz42_0:=bf_ BK169.out 0
          have hfz42_1:=bf_ BK169.out 1
          have hfz42_2:=bf_ BK169.out 2
          have hfz42_3:=bf_ BK169.out 3
          go_wp2
          go_roundg k2
          case measure => have:=HJ2.out;have:=HK2.out;omega
          case rel => exact ⟨(wrap64 (x7_2 + 1)),(z9_),(u186001),qf_,H',⟨by have:=HJ2.out;have:=HK2.out;omega⟩,⟨qr_ z0_⟩,⟨qr_ z1_⟩,⟨qr_ z2_⟩,⟨qk_ BK169⟩,⟨qk_ BK170⟩,⟨qk_ BK185⟩,⟨u1_ HB GE169 GE170 GE185⟩⟩
         ·rw [if_neg c39] at H
          have c39b0 : (x7_2 == a1) = false:=beq_eq_false_iff_ne.mpr c39
          have c39b1 : (x7_2 != a1) = true:=bne_iff_ne.mpr c39
          by_cases c43 : 0 ≤ x7_2
          ·rw [if_pos c43] at H
           have c43b0 : decide (0 ≤ x7_2) = true:=decide_eq_true c43
           clear c43
           by_cases c44 : z9_.length < 5864062014805
           ·rw [if_pos c44] at H
            have LMc44:=mk_ c44
            clear c44
            obtain ⟨y187,hy187⟩ : ∃ y_ : List (S51),y_ = (z9_ ++ [(⟨(rd_T51 l0_1 x7_2).f0,(rd_T51 l0_1 x7_2).f1,(rd_T51 l0_1 x7_2).f2⟩ : S51)]):=⟨_,rfl⟩
            replace H : (spec_CutCable.l0 k2 a1 (wrap64 (x7_2 + 1)) a0_0 l0_1 l0_2 l0_3 a0_0 y187 y176 y182) = some (r1,r2,r3,r4,r5):=by first|(rw [hy187];with_reducible exact H)|(have H2_:=(Option.bind_some _ _).symm.trans H;rw [hy187];with_reducible exact H2_)|(have H2_:=(Option.bind_some _ _).symm.trans H;with_reducible exact H2_)|with_reducible exact H|(rw [hy187];exact H)|exact H
            have Ny187:=mk_ hy187
            clear hy187
            have H':=mk_ H
            clear H
            have hnb45:=NB169_170.out
            have hnc45:=NB170_169.out
            have hnb46:=NB169_185.out
            have hnc46:=NB185_169.out
            have hcz47_0 : wr.cell? ⟨gb169,0,none⟩ = some (.int .i64 a0_0):=(bc_ BK169.out 0).trans rfl
            have hcz47_1 : wr.cell? ⟨gb169,1,none⟩ = some (.slice A0_1 l0_1.length c0_1):=(bc_ BK169.out 1).trans rfl
            have hcz47_2 : wr.cell? ⟨gb169,2,none⟩ = some (.slice A0_2 l0_2.length c0_2):=(bc_ BK169.out 2).trans rfl
            have hcz47_3 : wr.cell? ⟨gb169,3,none⟩ = some (.slice A0_3 l0_3.length c0_3):=(bc_ BK169.out 3).trans rfl
            have hfz47_0:=bf_ BK169.out 0
            have hfz47_1:=bf_ BK169.out 1
            have hfz47_2:=bf_ BK169.out 2
            have hfz47_3:=bf_ BK169.out 3
            try go_wp2
            have n0_:=mk_ (rd_ z0_.out)
            have n1_:=mk_ (rd_ z1_.out)
            have n2_:=mk_ (rd_ z2_.out)
            have n3_:=mk_ (kd_ BK169.out)
            have n4_:=mk_ (kd_ BK170.out)
            have n5_:=mk_ (kd_ BK185.out)
            have n6_:=mk_ (bd_ HB.out)
            clear z0_
            clear z1_
            clear z2_
            clear BK169
            clear BK170
            clear BK185
            clear HB
            have z0_:=n0_
            have z1_:=n1_
            have z2_:=n2_
            have BK169:=n3_
            have BK170:=n4_
            have BK185:=n5_
            have HB:=n6_
            clear n0_ n1_ n2_ n3_ n4_ n5_ n6_
            have p186 : 0 ≤ (x7_2 : Int):=od_ qa_
            have q186 : x7_2 < (l0_1.length : Int):=od_ qa_
            obtain ⟨ad186,e186,hx186_0,hx186_1,hx186_2⟩:=at_T51 HR0_1.out x7_2 p186 q186
            have hw186_2:=hx186_2
            have hw186_1:=hx186_1
            have hw186_0:=hx186_0
            cases e186
            replace hx186_0:=(HB.out.cell (wl_ w _ hx186_0)).trans hx186_0
            replace hx186_1:=(HB.out.cell (wl_ w _ hx186_1)).trans hx186_1
            replace hx186_2:=(HB.out.cell (wl_ w _ hx186_2)).trans hx186_2
            replace p186:=eq_true p186
            replace q186:=eq_true q186
            refine start_ (n:=11) (S:=fun w' => w'.cell? ⟨gb185,0,none⟩ = some (.int .i64 a0_0) ∧ w'.cell? ⟨gb185,1,none⟩ = some (u186001) ∧ w'.cell? ⟨gb185,2,none⟩ = some (.slice Ao33 y176.length co33) ∧ w'.cell? ⟨gb185,3,none⟩ = some (.slice Ao32 y182.length co32) ∧ w'.cell? ⟨gb169,0,none⟩ = some (.int .i64 a0_0) ∧ w'.cell? ⟨gb169,1,none⟩ = some (.slice (some ad186) l0_1.length c0_1) ∧ w'.cell? ⟨gb169,2,none⟩ = some (.slice A0_2 l0_2.length c0_2) ∧ w'.cell? ⟨gb169,3,none⟩ = some (.slice A0_3 l0_3.length c0_3) ∧ w'.cell? (ad186.add ((x7_2).toNat * 3)) = some (.int .i64 ((rd_T51 l0_1 x7_2).f0)) ∧ w'.cell? ⟨(ad186.add ((x7_2).toNat * 3)).block,(ad186.add ((x7_2).toNat * 3)).off + 1,none⟩ = some (.int .i64 ((rd_T51 l0_1 x7_2).f1)) ∧ w'.cell? ⟨(ad186.add ((x7_2).toNat * 3)).block,(ad186.add ((x7_2).toNat * 3)).off + 2,none⟩ = some (.int .i64 ((rd_T51 l0_1 x7_2).f2))) (ds:=[10]) #[false,false,false,false,false,false,false,false,false,false,false] (by kernel_rfl) rfl rfl ⟨(bc_ BK185.out 0).trans rfl,(bc_ BK185.out 1).trans rfl,(bc_ BK185.out 2).trans rfl,(bc_ BK185.out 3).trans rfl,(bc_ BK169.out 0).trans rfl,(bc_ BK169.out 1).trans rfl,(bc_ BK169.out 2).trans rfl,(bc_ BK169.out 3).trans rfl,((HB.out.cell (wl_ w _ hw186_0)).trans hw186_0),((HB.out.cell (wl_ w _ hw186_1)).trans hw186_1),((HB.out.cell (wl_ w _ hw186_2)).trans hw186_2)⟩ (fun hHeld => ?_);refine with_tabW spec_CutCable.tab8 spec_CutCable.bits8 (fun HT_ HW_ => ?_)
            generalize wr.drew = w48 at z0_ z1_ z2_ BK169 BK170 BK185 HB hx186_0 hx186_1 hx186_2 hHeld ⊢
            refine pure_ (i:=0) (N:=some 42) (v:=?_) (a':=?_) #[true,false,false,false,false,false,false,false,false,false,false] rfl rfl (any_of HT_.out (by kernel_rfl)) (fun _ _ _ h => h) (Or.inl ⟨by rfl,?_⟩) ?_ ?_
            rotate_left
            ·intro w'
             go_simp
             with_reducible rfl
            rotate_left
            ·simp only [Act.put,sx_,sy_,sz_,i64_w,i32_w]
             rfl
            refine pure_ (i:=2) (N:=some 44) (v:=?_) (a':=?_) #[true,false,true,false,false,false,false,false,false,false,false] rfl rfl (any_of HT_.out (by kernel_rfl)) (fun _ _ _ h => h) (Or.inl ⟨by rfl,?_⟩) ?_ ?_
            rotate_left
            ·intro w'
             go_simp
             with_reducible rfl
            rotate_left
            ·simp only [Act.put,sx_,sy_,sz_,i64_w,i32_w]
             rfl
            refine pure_ (i:=4) (N:=some 46) (v:=?_) (a':=?_) #[true,false,true,false,true,false,false,false,false,false,false] rfl rfl (any_of HT_.out (by kernel_rfl)) (fun _ _ _ h => h) (Or.inl ⟨by rfl,?_⟩) ?_ ?_
            rotate_left
            ·intro w'
             go_simp
             with_reducible rfl
            rotate_left
            ·simp only [Act.put,sx_,sy_,sz_,i64_w,i32_w]
             rfl
            refine take_ (i:=1) (N:=some 43) (v:=?_) (a':=?_) #[true,true,true,false,true,false,false,false,false,false,false] rfl rfl (take_ofW HT_.out HW_.out (by kernel_rfl)) (fun _ _ _ h => h) (Or.inl ⟨by rfl,?_⟩) hHeld ?_ ?_
            rotate_left
            ·rintro w' ⟨s0,s1,s2,s3,s4,s5,s6,s7,s8,s9,s10⟩
             go_simp
             with_reducible rfl
            rotate_left
            ·simp only [Act.put,sx_,sy_,sz_,i64_w,i32_w]
             rfl
            refine take_ (i:=3) (N:=some 45) (v:=?_) (a':=?_) #[true,true,true,true,true,false,false,false,false,false,false] rfl rfl (take_ofW HT_.out HW_.out (by kernel_rfl)) (fun _ _ _ h => h) (Or.inl ⟨by rfl,?_⟩) hHeld ?_ ?_
            rotate_left
            ·rintro w' ⟨s0,s1,s2,s3,s4,s5,s6,s7,s8,s9,s10⟩
             go_simp
             with_reducible rfl
            rotate_left
            ·simp only [Act.put,sx_,sy_,sz_,i64_w,i32_w]
             rfl
            refine pure_ (i:=5) (N:=some 47) (v:=?_) (a':=?_) #[true,true,true,true,true,true,false,false,false,false,false] rfl rfl (any_of HT_.out (by kernel_rfl)) (fun _ _ _ h => h) (Or.inl ⟨by rfl,?_⟩) ?_ ?_
            rotate_left
            ·intro w'
             go_simp
             with_reducible rfl
            rotate_left
            ·simp only [Act.put,sx_,sy_,sz_,i64_w,i32_w]
             rfl
            refine take_ (i:=6) (N:=some 48) (v:=?_) (a':=?_) #[true,true,true,true,true,true,true,false,false,false,false] rfl rfl (take_ofW HT_.out HW_.out (by kernel_rfl)) (fun _ _ _ h => h) (Or.inl ⟨by rfl,?_⟩) hHeld ?_ ?_
            rotate_left
            ·rintro w' ⟨s0,s1,s2,s3,s4,s5,s6,s7,s8,s9,s10⟩
             go_simp
             with_reducible rfl
            rotate_left
            ·simp only [Act.put,sx_,sy_,sz_,i64_w,i32_w]
             rfl
            refine one_ (i:=7) (N:=some 49) #[true,true,true,true,true,true,true,true,false,false,false] rfl rfl (one_of HT_.out (by kernel_rfl)) (by decide) (fun K hK => ?_)
            refine value_ (w1:=?_) (v:=?_) (by rfl) rfl ?_ ?_
            rotate_left 2
            ·go_simp
             constructor
             ·rfl
             ·rfl
            refine hK.out _ _ ⟨(bc_ (ka_ BK185.out _) 0).trans rfl,(bc_ (ka_ BK185.out _) 1).trans rfl,(bc_ (ka_ BK185.out _) 2).trans rfl,(bc_ (ka_ BK185.out _) 3).trans rfl,(bc_ (ka_ BK169.out _) 0).trans rfl,(bc_ (ka_ BK169.out _) 1).trans rfl,(bc_ (ka_ BK169.out _) 2).trans rfl,(bc_ (ka_ BK169.out _) 3).trans rfl,(World.cell?_alloc_lt _ _ _ (wl_ _ _ (((HB.out.cell (wl_ w _ hw186_0)).trans hw186_0)))).trans (((HB.out.cell (wl_ w _ hw186_0)).trans hw186_0)),(World.cell?_alloc_lt _ _ _ (wl_ _ _ (((HB.out.cell (wl_ w _ hw186_1)).trans hw186_1)))).trans (((HB.out.cell (wl_ w _ hw186_1)).trans hw186_1)),(World.cell?_alloc_lt _ _ _ (wl_ _ _ (((HB.out.cell (wl_ w _ hw186_2)).trans hw186_2)))).trans (((HB.out.cell (wl_ w _ hw186_2)).trans hw186_2))⟩ (fun hHeld => ?_)
            clear hK K
            refine norm_ (a':=?_) ?_ ?_
            rotate_left
            ·show Act.put _ (some 49) _ = _
             simp only [Act.put,sx_,sy_,sz_,i64_w,i32_w]
             rfl
            refine one_ (i:=8) (N:=some 50) #[true,true,true,true,true,true,true,true,true,false,false] rfl rfl (one_of HT_.out (by kernel_rfl)) (by decide) (fun K hK => ?_)
            refine Kd.R_append_step k51 (w0:=w) w.heap.size (by rfl) (.tmp 43) (.tmp 49) 28 51 (.agg #[(.int .i64 0),(.int .i64 0),(.int .i64 0)]) 24 rfl Try.underlying28 info51 rfl (by decide) (by omega) u186001 z9_ (⟨(rd_T51 l0_1 x7_2).f0,(rd_T51 l0_1 x7_2).f1,(rd_T51 l0_1 x7_2).f2⟩ : S51) [.int .i64 ((rd_T51 l0_1 x7_2).f0),.int .i64 ((rd_T51 l0_1 x7_2).f1),.int .i64 ((rd_T51 l0_1 x7_2).f2)] (fun _ => True) (fun _ => False) rfl rfl ?aP (fun _ hk => hk.elim) ?aF ?aO ?aB ?aS ?aL ?_
            (case aP => exact k51_mkM _ _ _ (⟨(rd_T51 l0_1 x7_2).f0,(rd_T51 l0_1 x7_2).f1,(rd_T51 l0_1 x7_2).f2⟩ : S51))
            (case aB => exact (u1_ HB GE169 GE170 GE185))
            (case aF => exact (fun _ _ => trivial))
            (case aO => exact (qr_ z0_))
            (case aS => exact (bz_ (u1_ HB GE169 GE170 GE185)))
            (case aL => have:=LMc44.out;omega)
            intro v188 w49 ho hb hg hat
            rw [← Ny187.out] at ho
            have n0_:=mk_ (Kd.R_over' (qr_ z1_) (Kd.R_typed (qr_ z0_)) (by decide) hg)
            have n1_:=mk_ (Kd.R_over' (qr_ z2_) (Kd.R_typed (qr_ z0_)) (by decide) hg)
            have n2_:=mk_ (blk_grown (g:=gb169) (o:=.cells #[.int .i64 a0_0,.slice (some ad186) l0_1.length c0_1,.slice A0_2 l0_2.length c0_2,.slice A0_3 l0_3.length c0_3] 30 (0,0)) (qk_ BK169) hg (Kd.R_ne z0_.out BK169.out (by decide)))
            have n3_:=mk_ (blk_grown (g:=gb170) (o:=.cells #[.int .i64 0,.slice none 0 0,.slice none 0 0,.slice none 0 0] 30 (0,0)) (qk_ BK170) hg (Kd.R_ne z0_.out BK170.out (by decide)))
            have n4_:=mk_ (blk_grown (g:=gb185) (o:=.cells #[.int .i64 a0_0,u186001,.slice Ao33 y176.length co33,.slice Ao32 y182.length co32] 30 (0,0)) (qk_ BK185) hg (Kd.R_ne z0_.out BK185.out (by decide)))
            have n5_:=mk_ (hb)
            have n6_:=mk_ (ho)
            clear z1_
            clear z2_
            clear BK169
            clear BK170
            clear BK185
            clear HB
            clear z0_
            have z1_:=n0_
            have z2_:=n1_
            have BK169:=n2_
            have BK170:=n3_
            have BK185:=n4_
            have HB:=n5_
            have HO189:=n6_
            clear n0_ n1_ n2_ n3_ n4_ n5_ n6_
            clear ho hb hg hat
            obtain ⟨Ao50,co50,eo50⟩:=Kd.R_slice HO189.out
            (first|subst eo50|(injection eo50 with f1_ f2_ f3_;have f4_:=f1_.symm;have f5_:=f3_.symm;clear f1_ f2_ f3_;subst f4_;subst f5_))
            refine hK.out _ _ ⟨(bc_ BK185.out 0).trans rfl,(bc_ BK185.out 1).trans rfl,(bc_ BK185.out 2).trans rfl,(bc_ BK185.out 3).trans rfl,(bc_ BK169.out 0).trans rfl,(bc_ BK169.out 1).trans rfl,(bc_ BK169.out 2).trans rfl,(bc_ BK169.out 3).trans rfl,((HB.out.cell (wl_ w _ hw186_0)).trans hw186_0),((HB.out.cell (wl_ w _ hw186_1)).trans hw186_1),((HB.out.cell (wl_ w _ hw186_2)).trans hw186_2)⟩ (fun hHeld => ?_)
            clear hK K
            refine norm_ (a':=?_) ?_ ?_
            rotate_left
            ·show Act.put _ (some 50) _ = _
             simp only [Act.put,sx_,sy_,sz_,i64_w,i32_w]
             rfl
            refine pure_ (i:=9) (N:=some 51) (v:=?_) (a':=?_) #[true,true,true,true,true,true,true,true,true,true,false] rfl rfl (any_of HT_.out (by kernel_rfl)) (fun _ _ _ h => h) (Or.inl ⟨by rfl,?_⟩) ?_ ?_
            rotate_left
            ·intro w'
             go_simp
             with_reducible rfl
            rotate_left
            ·simp only [Act.put,sx_,sy_,sz_,i64_w,i32_w]
             rfl
            refine last_ (i:=10) (N:=none) #[true,true,true,true,true,true,true,true,true,true,true] rfl rfl (one_of HT_.out (by kernel_rfl)) (by decide) (fun K hK => ?_)
            have hs51 : w49.cell? ⟨gb185,1,none⟩ = some (u186001):=(bc_ BK185.out 1).trans rfl
            have hfs51:=bf_ BK185.out 1
            have hns51_0:=NB169_185.out
            have hns51_1:=NB170_185.out
            have hms51_0:=NB185_169.out
            have hms51_1:=NB185_170.out
            refine skip_ (w1:=?_) (by rfl) rfl ?_ ?_
            rotate_left
            ·go_simp
             rfl
            refine hK.out _ _ ?_
            clear hK K
            refine done_ (done_of HT_.out (by kernel_rfl)) ?_
            try go_wp2
            go_roundg k2
            case measure => have:=HJ2.out;have:=HK2.out;omega
            case rel => exact ⟨(wrap64 (x7_2 + 1)),(y187),(.slice Ao50 y187.length co50),qf_,H',⟨by have:=HJ2.out;have:=HK2.out;omega⟩,⟨by (with_reducible repeat (first|apply ra_|apply rn_|apply rd_));exact rm_ (rf_ (p:=⟨gb185,1,none⟩) (rt_ HO189.out BK185.out (by decide)) (λ_ h=>h.2) (.slice Ao50 y187.length co50)) (λ_ _=>trivial)⟩,⟨by (with_reducible repeat (first|apply ra_|apply rn_|apply rd_));exact rm_ (rf_ (p:=⟨gb185,1,none⟩) (rt_ z1_.out BK185.out (by decide)) (λ_ h=>h.2) (.slice Ao50 y187.length co50)) (fun _ hk => hk.1)⟩,⟨by (with_reducible repeat (first|apply ra_|apply rn_|apply rd_));exact rm_ (rf_ (p:=⟨gb185,1,none⟩) (rt_ z2_.out BK185.out (by decide)) (λ_ h=>h.2) (.slice Ao50 y187.length co50)) (fun _ hk => hk.1)⟩,⟨by (with_reducible repeat (first|apply kn_|apply kd_|apply ka_));refine blk_far ?_ NB169_185.out _;(with_reducible repeat (first|apply kn_|apply kd_|apply ka_));exact BK169.out⟩,⟨by (with_reducible repeat (first|apply kn_|apply kd_|apply ka_));refine blk_far ?_ NB170_185.out _;(with_reducible repeat (first|apply kn_|apply kd_|apply ka_));exact BK170.out⟩,⟨by (with_reducible repeat (first|apply kn_|apply kd_|apply ka_));refine blk_put (cs:=#[.int .i64 a0_0,u186001,.slice Ao33 y176.length co33,.slice Ao32 y182.length co32]) ?_ 1 _ rfl;(with_reducible repeat (first|apply kn_|apply kd_|apply ka_));exact BK185.out⟩,⟨u1_ HB GE169 GE170 GE185⟩⟩
           ·rw [if_neg c44] at H
            exact absurd H (by simp)
          ·rw [if_neg c43] at H
           exact absurd H (by simp)
        ·rw [if_neg c38] at H
         have c38b0 : decide (x7_2 < (l0_1.length : Int)) = false:=decide_eq_false c38
         clear c38
         simp only [Option.some.injEq,Prod.mk.injEq] at H
         obtain ⟨rfl,rfl,rfl,rfl,rfl⟩:=H
         have hnb52:=NB169_170.out
         have hnc52:=NB170_169.out
         have hnb53:=NB169_185.out
         have hnc53:=NB185_169.out
         have hcz54_0 : wr.cell? ⟨gb169,0,none⟩ = some (.int .i64 a0_0):=(bc_ BK169.out 0).trans rfl
         have hcz54_1 : wr.cell? ⟨gb169,1,none⟩ = some (.slice A0_1 l0_1.length c0_1):=(bc_ BK169.out 1).trans rfl
         have hcz54_2 : wr.cell? ⟨gb169,2,none⟩ = some (.slice A0_2 l0_2.length c0_2):=(bc_ BK169.out 2).trans rfl
         have hcz54_3 : wr.cell? ⟨gb169,3,none⟩ = some (.slice A0_3 l0_3.length c0_3):=(bc_ BK169.out 3).trans rfl
         have hfz54_0:=bf_ BK169.out 0
         have hfz54_1:=bf_ BK169.out 1
         have hfz54_2:=bf_ BK169.out 2
         have hfz54_3:=bf_ BK169.out 3
         have hnb55:=NB185_170.out
         have hnc55:=NB170_185.out
         have hcz56_0 : wr.cell? ⟨gb185,0,none⟩ = some (.int .i64 a0_0):=(bc_ BK185.out 0).trans rfl
         have hcz56_1 : wr.cell? ⟨gb185,1,none⟩ = some (u186001):=(bc_ BK185.out 1).trans rfl
         have hcz56_2 : wr.cell? ⟨gb185,2,none⟩ = some (.slice Ao33 y176.length co33):=(bc_ BK185.out 2).trans rfl
         have hcz56_3 : wr.cell? ⟨gb185,3,none⟩ = some (.slice Ao32 y182.length co32):=(bc_ BK185.out 3).trans rfl
         have hfz56_0:=bf_ BK185.out 0
         have hfz56_1:=bf_ BK185.out 1
         have hfz56_2:=bf_ BK185.out 2
         have hfz56_3:=bf_ BK185.out 3
         have hcz57_0 : wr.cell? ⟨gb170,0,none⟩ = some (.int .i64 0):=(bc_ BK170.out 0).trans rfl
         have hcz57_1 : wr.cell? ⟨gb170,1,none⟩ = some (.slice none 0 0):=(bc_ BK170.out 1).trans rfl
         have hcz57_2 : wr.cell? ⟨gb170,2,none⟩ = some (.slice none 0 0):=(bc_ BK170.out 2).trans rfl
         have hcz57_3 : wr.cell? ⟨gb170,3,none⟩ = some (.slice none 0 0):=(bc_ BK170.out 3).trans rfl
         have hfz57_0:=bf_ BK170.out 0
         have hfz57_1:=bf_ BK170.out 1
         have hfz57_2:=bf_ BK170.out 2
         have hfz57_3:=bf_ BK170.out 3
         obtain ⟨Ao58,co58,eo58⟩:=Kd.R_slice z0_.out
         subst eo58
         go_wp2
         refine bodyPost_ret (results_ct rfl _ _ gb170 30 #[.int .i64 a0_0,.slice Ao58 z9_.length co58,.slice Ao33 y176.length co33,.slice Ao32 y182.length co32] (0,0) _ rfl (by (with_reducible repeat (first|apply kn_|apply kd_|apply ka_));refine blk_put (cs:=#[.int .i64 a0_0,.slice Ao58 z9_.length co58,.slice Ao33 y176.length co33,.slice none 0 0]) ?_ 3 _ rfl;(with_reducible repeat (first|apply kn_|apply kd_|apply ka_));refine blk_put (cs:=#[.int .i64 a0_0,.slice Ao58 z9_.length co58,.slice none 0 0,.slice none 0 0]) ?_ 2 _ rfl;(with_reducible repeat (first|apply kn_|apply kd_|apply ka_));refine blk_put (cs:=#[.int .i64 a0_0,.slice none 0 0,.slice none 0 0,.slice none 0 0]) ?_ 1 _ rfl;(with_reducible repeat (first|apply kn_|apply kd_|apply ka_));refine blk_put (cs:=#[.int .i64 0,.slice none 0 0,.slice none 0 0,.slice none 0 0]) ?_ 0 _ rfl;(with_reducible repeat (first|apply kn_|apply kd_|apply ka_));exact BK170.out) Try.underlying30 rfl (by kernel_rfl)) rfl ?_
         exact ⟨_,_,_,qe_,by (with_reducible repeat (first|apply ra_|apply rn_|apply rd_));exact rm_ (rf_ (p:=⟨gb170,3,none⟩) (rf_ (p:=⟨gb170,2,none⟩) (rf_ (p:=⟨gb170,1,none⟩) (rf_ (p:=⟨gb170,0,none⟩) (rt_ z0_.out BK170.out (by decide)) (λ_ h=>h.2) (.int .i64 a0_0)) (λ_ h=>h.2) (.slice Ao58 z9_.length co58)) (λ_ h=>h.2) (.slice Ao33 y176.length co33)) (λ_ h=>h.2) (.slice Ao32 y182.length co32)) (λ_ _=>trivial),by (with_reducible repeat (first|apply ra_|apply rn_|apply rd_));exact rm_ (rf_ (p:=⟨gb170,3,none⟩) (rf_ (p:=⟨gb170,2,none⟩) (rf_ (p:=⟨gb170,1,none⟩) (rf_ (p:=⟨gb170,0,none⟩) (rt_ z1_.out BK170.out (by decide)) (λ_ h=>h.2) (.int .i64 a0_0)) (λ_ h=>h.2) (.slice Ao58 z9_.length co58)) (λ_ h=>h.2) (.slice Ao33 y176.length co33)) (λ_ h=>h.2) (.slice Ao32 y182.length co32)) (fun _ hk => hk.1),by (with_reducible repeat (first|apply ra_|apply rn_|apply rd_));exact rm_ (rf_ (p:=⟨gb170,3,none⟩) (rf_ (p:=⟨gb170,2,none⟩) (rf_ (p:=⟨gb170,1,none⟩) (rf_ (p:=⟨gb170,0,none⟩) (rt_ z2_.out BK170.out (by decide)) (λ_ h=>h.2) (.int .i64 a0_0)) (λ_ h=>h.2) (.slice Ao58 z9_.length co58)) (λ_ h=>h.2) (.slice Ao33 y176.length co33)) (λ_ h=>h.2) (.slice Ao32 y182.length co32)) (fun _ hk => hk.1),u1_ HB GE169 GE170 GE185⟩
     ·rw [if_neg c20] at H
      exact absurd H (by simp)
    ·rw [if_neg c19] at H
     exact absurd H (by simp)

end Go.Proofs.Ytdamdcdjodmemaa.PAll
