/- Proved here: contracts of functions of the given program, or lemmas on them, for the laws of this seat. Written by xprint.py, a program of this session, on the ground of the kit's print; parts by hand: wip/x/ext. -/
import Derived.Test.YtdamdcdjodmemaaPAllx0
import Derived.Test.YtdamdcdjodmemaaPAllx1
import Derived.Test.YtdamdcdjodmemaaPAllx4
namespace Go.Proofs.Ytdamdcdjodmemaa.PAll
open Go.RowKit Go.Proofs.YtdamdcdjodmemaaW.PrintWords Go.Proofs.YtdamdcdjodmemaaW.PrintLast Go.Proofs.YtdamdcdjodmemaaW.PrintMore
attribute [local go_sem] max2_int min2_int max_two min_two max_three min_three max_four min_four   -- for this text's walks alone
set_option linter.unusedVariables false
set_option linter.unusedSimpArgs false

/-! ### spec_l7Root: function 68 -/
def spec_l7Root.l0 : Nat → List Bool → Int → Option (Int)
 | 0,_,_ => none
 | k + 1,x7,x8 => if 0 ≤ x8 then (if x8 < (x7.length : Int) then (if rdOf false x7 x8 = true then (some x8) else (spec_l7Root.l0 k x7 (wrap64 (x8 + 1)))) else (none)) else (none)
def spec_l7Root.f (k : Nat) (a0 : Int) (l1 : List (S51)) (a2 : Int) : Option (Int):=(spec_l7Joined.f k a0 l1 a2).bind fun t426 => (spec_l7Root.l0 k t426 0)
theorem spec_l7Root.mono_l : ∀ k,(∀ y0 y1,LeO (spec_l7Root.l0 k y0 y1) (spec_l7Root.l0 (k + 1) y0 y1))
 | 0 => fun _ _ r h => by simp [spec_l7Root.l0] at h
 | k + 1 => by
  have ih0:=spec_l7Root.mono_l k
  ·intro y0 y1
   unfold spec_l7Root.l0
   repeat' first
   | (with_reducible exact ih0 _ _)
   | (with_reducible exact spec_l7Joined.mono _ _ _ _)
   | (with_reducible exact LeO.refl _)
   | (with_reducible exact LeO.none _)
   | (with_reducible refine LeO.ite ?_ ?_)
   | (with_reducible refine LeO.bind ?_ (fun _ => ?_))
   | exact ih0 _ _
   | exact spec_l7Joined.mono _ _ _ _
   | exact LeO.none _
   | refine LeO.ite ?_ ?_
   | refine LeO.bind ?_ (fun _ => ?_)
theorem spec_l7Root.mono : ∀ a0 a1 a2 k,LeO (spec_l7Root.f k a0 a1 a2) (spec_l7Root.f (k + 1) a0 a1 a2):=by
 intro a0 a1 a2 k
 have ih0:=spec_l7Root.mono_l k
 unfold spec_l7Root.f
 repeat' first
   | (with_reducible exact ih0 _ _)
   | (with_reducible exact spec_l7Joined.mono _ _ _ _)
   | (with_reducible exact LeO.refl _)
   | (with_reducible exact LeO.none _)
   | (with_reducible refine LeO.ite ?_ ?_)
   | (with_reducible refine LeO.bind ?_ (fun _ => ?_))
   | exact ih0 _ _
   | exact spec_l7Joined.mono _ _ _ _
   | exact LeO.none _
   | refine LeO.ite ?_ ?_
   | refine LeO.bind ?_ (fun _ => ?_)
set_option maxHeartbeats 8000000 in
set_option maxRecDepth 100000 in
theorem spec_l7Root.calls (k : Nat) (a0 : Int) (A1 : Option Addr) (c1 : Nat) (l1 : List (S51)) (a2 : Int) (r : Int) (w : World) (hr1 : Kd.C k51 w A1 l1.length l1) (hc1 : l1.length ≤ c1) (h : spec_l7Root.f k a0 l1 a2 = some r) :
  Calls Try.prog 68 #[.int .i64 a0,.slice A1 l1.length c1,.int .i64 a2] w fun e w' => e = .returned (.int .i64 r) ∧ Below w.heap.size w w':=by
 have HR1:=mk_ hr1
 have HC1:=mk_ hc1
 clear hr1 hc1
 have HB:=mk_ (Below.refl w.heap.size w)
 have H : ((spec_l7Joined.f k a0 l1 a2).bind fun t426 => (spec_l7Root.l0 k t426 0)) = some r:=h
 clear h
 replace H:=Option.bind_eq_some_iff.mp H
 obtain ⟨t426,A40,H⟩:=H
 replace H : (spec_l7Root.l0 k t426 0) = some r:=H
 have A4:=mk_ A40
 clear A40
 have H':=mk_ H
 clear H
 go_enter Try.func68,Try.ntmps68
 go_wp2_with (first|((with_reducible refine gate_callee (f:=57) rfl ?_);refine goesL_ (some 12) rfl rfl Try.func57 (by kernel_rfl) rfl #[.int .i64 a0,.slice A1 l1.length c1,.int .i64 a2] rfl (by (try simp only [List.map_toArray,List.map_cons,List.map_nil]);first|done|rfl|(simp only [List.length_drop,List.length_take];rfl)) ?_;(with_reducible refine (spec_l7Joined.calls k a0 _ _ l1 a2 t426 _ ?side1 ?side2 A4.out).mono ?_);(case side1 => repeat (first|exact HR1.out|(with_reducible refine ca_ ?_ _)|(with_reducible refine cn_ ?_ _)|(with_reducible refine cd_ ?_)));(case side2 => exact HC1.out);rintro e w5 ⟨v427,rfl,ho0,hb⟩;refine ⟨_,rfl,?_⟩;have n0_:=mk_ (Kd.R_lower ho0 (bz_ (by repeat (first|(with_reducible first|exact HB.out|apply ba_|apply bn_|apply bd_)|exact HB.out))));have n1_:=mk_ (st_ (by repeat (first|(with_reducible first|exact HB.out|apply ba_|apply bn_|apply bd_)|exact HB.out)) hb);clear HB;have HO428:=n0_;have HB:=n1_;clear n0_ n1_;(try clear hb);(try clear hb2);(try clear hk);(try clear hi);(try clear ho0)))
 go_loopg [8] k (fun kq v8 w' => ∃ (x8_1 : Int),v8 = .int .i64 x8_1 ∧ Aside0 (spec_l7Root.l0 kq t426 x8_1 = some r) ∧ Aside0 (kq ≤ k) ∧ Aside0 (Kd.R Kd.bool 4 w' w.heap.size (fun _ => True) v427 t426) ∧ Aside0 (Below w.heap.size w w'))
 case atStart => exact ⟨(0),(by first|rfl|(simp;done)|(simp [*];done)),H',⟨Nat.le_refl _⟩,⟨by (with_reducible repeat (first|apply ra_|apply rn_|apply rd_));exact HO428.out⟩,⟨by repeat (first|(with_reducible first|exact HB.out|apply ba_|apply bn_|apply bd_)|exact HB.out)⟩⟩
 case round =>
  clear H'
  try clear c1
  try clear p2
  try clear c5
  obtain ⟨x8_1,rfl,HA,HK1,HO_7,HB⟩:=hrel
  cases gk with
  | zero => exact absurd HA.out (by simp [spec_l7Root.l0])
  | succ k1 =>
   have H:=HA.out
   clear HA
   simp only [spec_l7Root.l0] at H
   by_cases c6 : 0 ≤ x8_1
   ·rw [if_pos c6] at H
    have c6b0 : decide (0 ≤ x8_1) = true:=decide_eq_true c6
    clear c6
    by_cases c7 : x8_1 < (t426.length : Int)
    ·rw [if_pos c7] at H
     have c7b0 : decide (x8_1 < (t426.length : Int)) = true:=decide_eq_true c7
     clear c7
     obtain ⟨bq8,hbq8⟩ : ∃ b_ : Bool,b_ = (rdOf false t426 x8_1):=⟨_,rfl⟩
     replace H : (if bq8 = true then (some x8_1) else (spec_l7Root.l0 k1 t426 (wrap64 (x8_1 + 1)))) = some r:=by rw [← hbq8] at H;exact H
     have Nbq8:=mk_ hbq8
     clear hbq8
     by_cases c9 : bq8 = true
     ·subst c9
      have H1 : (some x8_1) = some r:=by rw [if_pos rfl] at H;exact H
      clear H
      have H:=H1
      clear H1
      obtain rfl:=Option.some.inj H
      obtain ⟨Ao10,co10,eo10⟩:=Kd.R_slice HO_7.out
      subst eo10
      have p429 : 0 ≤ (x8_1 : Int):=od_ (by first|(with_reducible assumption)|assumption)
      have q429 : x8_1 < (t426.length : Int):=od_ (by first|(with_reducible assumption)|assumption)
      obtain ⟨ad429,e429,hx429_0⟩:=Kd.at_bool (rr_ HO_7.out).2.2 x8_1 p429 q429
      (try rw [← Nbq8.out] at hx429_0)
      cases e429
      replace p429:=eq_true p429
      replace q429:=eq_true q429
      go_wp2
      go_ret
      exact ⟨by first|rfl|(simp [errW_none,errW_some] <;> rfl)|(simp [*,errW_none,errW_some] <;> rfl),by repeat (first|(with_reducible first|exact HB.out|apply ba_|apply bn_|apply bd_)|exact HB.out)⟩
     ·replace c9:=Bool.eq_false_iff.mpr c9
      subst c9
      have H1 : (spec_l7Root.l0 k1 t426 (wrap64 (x8_1 + 1))) = some r:=by rw [if_neg (show ¬ (false = true) by decide)] at H;exact H
      clear H
      have H:=H1
      clear H1
      have H':=mk_ H
      clear H
      obtain ⟨Ao11,co11,eo11⟩:=Kd.R_slice HO_7.out
      subst eo11
      have p429 : 0 ≤ (x8_1 : Int):=od_ (by first|(with_reducible assumption)|assumption)
      have q429 : x8_1 < (t426.length : Int):=od_ (by first|(with_reducible assumption)|assumption)
      obtain ⟨ad429,e429,hx429_0⟩:=Kd.at_bool (rr_ HO_7.out).2.2 x8_1 p429 q429
      (try rw [← Nbq8.out] at hx429_0)
      cases e429
      replace p429:=eq_true p429
      replace q429:=eq_true q429
      go_wp2
      go_roundg k1
      case measure => have:=HK1.out;omega
      case rel => exact ⟨(wrap64 (x8_1 + 1)),(by first|rfl|(simp;done)|(simp [*];done)),H',⟨by have:=HK1.out;omega⟩,⟨by (with_reducible repeat (first|apply ra_|apply rn_|apply rd_));exact HO_7.out⟩,⟨by repeat (first|(with_reducible first|exact HB.out|apply ba_|apply bn_|apply bd_)|exact HB.out)⟩⟩
    ·rw [if_neg c7] at H
     exact absurd H (by simp)
   ·rw [if_neg c6] at H
    exact absurd H (by simp)

/-! ### spec_l7Costs: function 85 -/
mutual
def spec_l7Costs.l0 : Nat → Int → List (S51) → List Int → Int → Option (List Int)
 | 0,_,_,_,_ => none
 | k + 1,x0,x1,x5,x6 => if x6 < x0 then ((spec_l7Root.f k x0 x1 x6).bind fun t433 => (if t433 = x6 then (if x5.length < 17592186044416 then (spec_l7Costs.l0 k x0 x1 (x5 ++ [0]) (wrap64 (x6 + 1))) else (none)) else (if x5.length < 17592186044416 then (spec_l7Costs.l0 k x0 x1 (x5 ++ [10000]) (wrap64 (x6 + 1))) else (none)))) else (spec_l7Costs.l1 k x1 x5 x0 0)
def spec_l7Costs.l1 : Nat → List (S51) → List Int → Int → Int → Option (List Int)
 | 0,_,_,_,_ => none
 | k + 1,x1,x5,x27,x28 => if x28 < x27 then (spec_l7Costs.l2 k x1 x5 0 x27 x28) else (some x5)
def spec_l7Costs.l2 : Nat → List (S51) → List Int → Int → Int → Int → Option (List Int)
 | 0,_,_,_,_,_ => none
 | k + 1,x1,x5,x7,x27,x28 => if x7 < (x1.length : Int) then (if 0 ≤ x7 then (if 0 ≤ ((rd_T51 x1 x7).f0) then (if ((rd_T51 x1 x7).f0) < (x5.length : Int) then (if 0 ≤ ((rd_T51 x1 x7).f1) then (if ((rd_T51 x1 x7).f1) < (x5.length : Int) then ((some (x5.set (((rd_T51 x1 x7).f0) : Int).toNat (mn (rd x5 ((rd_T51 x1 x7).f0)) (wrap64 ((rd x5 ((rd_T51 x1 x7).f1)) + ((rd_T51 x1 x7).f2)))) : List Int)).bind fun y444 => (spec_l7Costs.l2 k x1 (y444.set (((rd_T51 x1 x7).f1) : Int).toNat (mn (rd y444 ((rd_T51 x1 x7).f1)) (wrap64 ((rd y444 ((rd_T51 x1 x7).f0)) + ((rd_T51 x1 x7).f2))))) (wrap64 (x7 + 1)) x27 x28)) else (none)) else (none)) else (none)) else (none)) else (none)) else (spec_l7Costs.l1 k x1 x5 x27 (wrap64 (x28 + 1)))
end
def spec_l7Costs.f (k : Nat) (a0 : Int) (l1 : List (S51)) : Option (List Int):=spec_l7Costs.l0 k a0 l1 (([] : List Int)) 0
theorem spec_l7Costs.mono_l : ∀ k,(∀ y0 y1 y2 y3,LeO (spec_l7Costs.l0 k y0 y1 y2 y3) (spec_l7Costs.l0 (k + 1) y0 y1 y2 y3)) ∧ (∀ y0 y1 y2 y3,LeO (spec_l7Costs.l1 k y0 y1 y2 y3) (spec_l7Costs.l1 (k + 1) y0 y1 y2 y3)) ∧ (∀ y0 y1 y2 y3 y4,LeO (spec_l7Costs.l2 k y0 y1 y2 y3 y4) (spec_l7Costs.l2 (k + 1) y0 y1 y2 y3 y4))
 | 0 => ⟨fun _ _ _ _ r h => by simp [spec_l7Costs.l0] at h,fun _ _ _ _ r h => by simp [spec_l7Costs.l1] at h,fun _ _ _ _ _ r h => by simp [spec_l7Costs.l2] at h⟩
 | k + 1 => by
  obtain ⟨ih0,ih1,ih2⟩:=spec_l7Costs.mono_l k
  refine ⟨?_,?_,?_⟩
  ·intro y0 y1 y2 y3
   unfold spec_l7Costs.l0
   repeat' first
   | (with_reducible exact ih0 _ _ _ _)
   | (with_reducible exact ih1 _ _ _ _)
   | (with_reducible exact ih2 _ _ _ _ _)
   | (with_reducible exact spec_l7Root.mono _ _ _ _)
   | (with_reducible exact LeO.refl _)
   | (with_reducible exact LeO.none _)
   | (with_reducible refine LeO.ite ?_ ?_)
   | (with_reducible refine LeO.bind ?_ (fun _ => ?_))
   | exact ih0 _ _ _ _
   | exact ih1 _ _ _ _
   | exact ih2 _ _ _ _ _
   | exact spec_l7Root.mono _ _ _ _
   | exact LeO.none _
   | refine LeO.ite ?_ ?_
   | refine LeO.bind ?_ (fun _ => ?_)
  ·intro y0 y1 y2 y3
   unfold spec_l7Costs.l1
   repeat' first
   | (with_reducible exact ih0 _ _ _ _)
   | (with_reducible exact ih1 _ _ _ _)
   | (with_reducible exact ih2 _ _ _ _ _)
   | (with_reducible exact spec_l7Root.mono _ _ _ _)
   | (with_reducible exact LeO.refl _)
   | (with_reducible exact LeO.none _)
   | (with_reducible refine LeO.ite ?_ ?_)
   | (with_reducible refine LeO.bind ?_ (fun _ => ?_))
   | exact ih0 _ _ _ _
   | exact ih1 _ _ _ _
   | exact ih2 _ _ _ _ _
   | exact spec_l7Root.mono _ _ _ _
   | exact LeO.none _
   | refine LeO.ite ?_ ?_
   | refine LeO.bind ?_ (fun _ => ?_)
  ·intro y0 y1 y2 y3 y4
   unfold spec_l7Costs.l2
   repeat' first
   | (with_reducible exact ih0 _ _ _ _)
   | (with_reducible exact ih1 _ _ _ _)
   | (with_reducible exact ih2 _ _ _ _ _)
   | (with_reducible exact spec_l7Root.mono _ _ _ _)
   | (with_reducible exact LeO.refl _)
   | (with_reducible exact LeO.none _)
   | (with_reducible refine LeO.ite ?_ ?_)
   | (with_reducible refine LeO.bind ?_ (fun _ => ?_))
   | exact ih0 _ _ _ _
   | exact ih1 _ _ _ _
   | exact ih2 _ _ _ _ _
   | exact spec_l7Root.mono _ _ _ _
   | exact LeO.none _
   | refine LeO.ite ?_ ?_
   | refine LeO.bind ?_ (fun _ => ?_)
theorem spec_l7Costs.mono : ∀ a0 a1 k,LeO (spec_l7Costs.f k a0 a1) (spec_l7Costs.f (k + 1) a0 a1):=by
 intro a0 a1 k
 obtain ⟨ih0,ih1,ih2⟩:=spec_l7Costs.mono_l k
 unfold spec_l7Costs.f
 repeat' first
   | (with_reducible exact ih0 _ _ _ _)
   | (with_reducible exact ih1 _ _ _ _)
   | (with_reducible exact ih2 _ _ _ _ _)
   | (with_reducible exact spec_l7Root.mono _ _ _ _)
   | (with_reducible exact LeO.refl _)
   | (with_reducible exact LeO.none _)
   | (with_reducible refine LeO.ite ?_ ?_)
   | (with_reducible refine LeO.bind ?_ (fun _ => ?_))
   | exact ih0 _ _ _ _
   | exact ih1 _ _ _ _
   | exact ih2 _ _ _ _ _
   | exact spec_l7Root.mono _ _ _ _
   | exact LeO.none _
   | refine LeO.ite ?_ ?_
   | refine LeO.bind ?_ (fun _ => ?_)
def spec_l7Costs.T14 : Bool × List (List Nat × List Nat):=(true,[([],[]),([],[]),([1],[1]),([],[]),([],[]),([4],[4]),([3,5],[3,5]),([6],[6]),([],[]),([],[]),([9],[9]),([8,10],[8,10]),([11],[11]),([],[]),([13],[13]),([12,14],[12,14]),([7,15],[7,15]),([0,2,0,1,2,3,4,5,6,7,8,9,10,11,12,13,14,15,16],[0,2]),([17,16,0,1,2,3,4,5,6,7,8,9,10,11,12,13,14,15,16],[16,17])])
def spec_l7Costs.B14 : List Nat:=[0,0,2,0,0,16,56,120,0,0,512,1792,3840,0,8192,32512,65528,131071,262143]
theorem spec_l7Costs.tab14 : rtab .any (opsOf Try.f85 14) = spec_l7Costs.T14:=by kernel_rfl
theorem spec_l7Costs.bits14 : waitsOk spec_l7Costs.T14.2 spec_l7Costs.B14 = true:=by kernel_rfl
def spec_l7Costs.T15 : Bool × List (List Nat × List Nat):=(true,[([],[]),([],[]),([1],[1]),([],[]),([],[]),([4],[4]),([3,5],[3,5]),([6],[6]),([],[]),([],[]),([9],[9]),([8,10],[8,10]),([11],[11]),([],[]),([13],[13]),([12,14],[12,14]),([7,15],[7,15]),([0,2,0,1,2,3,4,5,6,7,8,9,10,11,12,13,14,15,16],[0,2]),([17,16,0,1,2,3,4,5,6,7,8,9,10,11,12,13,14,15,16],[16,17])])
def spec_l7Costs.B15 : List Nat:=[0,0,2,0,0,16,56,120,0,0,512,1792,3840,0,8192,32512,65528,131071,262143]
theorem spec_l7Costs.tab15 : rtab .any (opsOf Try.f85 15) = spec_l7Costs.T15:=by kernel_rfl
theorem spec_l7Costs.bits15 : waitsOk spec_l7Costs.T15.2 spec_l7Costs.B15 = true:=by kernel_rfl
set_option maxHeartbeats 8000000 in
set_option maxRecDepth 100000 in
theorem spec_l7Costs.calls (k : Nat) (a0 : Int) (A1 : Option Addr) (c1 : Nat) (l1 : List (S51)) (r : List Int) (w : World) (hr1 : Kd.C k51 w A1 l1.length l1) (hc1 : l1.length ≤ c1) (h : spec_l7Costs.f k a0 l1 = some r) :
  Calls Try.prog 85 #[.int .i64 a0,.slice A1 l1.length c1] w fun e w' => ∃ v0_ : Value,e = .returned (v0_) ∧ Kd.R (Kd.int .i64) 3 w' w.heap.size (fun _ => True) v0_ r ∧ Below w.heap.size w w':=by
 have hu51:=Try.underlying51
 have HR1:=mk_ hr1
 have HC1:=mk_ hc1
 clear hr1 hc1
 have HB:=mk_ (Below.refl w.heap.size w)
 have H : (spec_l7Costs.l0 k a0 l1 (([] : List Int)) 0) = some r:=h
 clear h
 obtain ⟨y430,hy430⟩ : ∃ y_ : List Int,y_ = (([] : List Int)):=⟨_,rfl⟩
 replace H : (spec_l7Costs.l0 k a0 l1 y430 0) = some r:=by first|(rw [hy430];with_reducible exact H)|(have H2_:=(Option.bind_some _ _).symm.trans H;rw [hy430];with_reducible exact H2_)|(have H2_:=(Option.bind_some _ _).symm.trans H;with_reducible exact H2_)|with_reducible exact H|(rw [hy430];exact H)|exact H
 have Ny430:=mk_ hy430
 clear hy430
 have H':=mk_ H
 clear H
 go_enter Try.func85,Try.ntmps85
 go_wp2_with (first|((with_reducible refine gate_dst (N:=9) rfl ?_);refine Kd.R_lit (Kd.int .i64) _ 3 ?hg (N:=9) ?hd (xs:=([] : List Int)) (inner:=[]) (ok:=fun _ => True) (okp:=fun _ => True) ?hr ?hp (fun _ hk => hk) trivial (Below.refl _ _) (Nat.le_refl _) (by simp) ?_;(case hd => rfl);(case hg => rfl);(case hr => first|(go_simp;done)|(go_simp;rfl));(case hp => exact (Reps.none _ _));intro v431 w3 ho4 hb hg_ hnew_;clear hg_ hnew_;(first|rw [← Ny430.out] at ho4|(simp only [Int.reduceToNat] at ho4;rw [← Ny430.out] at ho4));have n0_:=mk_ (Kd.R_lower ho4 (bz_ (by repeat (first|(with_reducible first|exact HB.out|apply ba_|apply bn_|apply bd_)|exact HB.out))));have n1_:=mk_ (st_ (by repeat (first|(with_reducible first|exact HB.out|apply ba_|apply bn_|apply bd_)|exact HB.out)) hb);clear HB;have HO432:=n0_;have HB:=n1_;clear n0_ n1_;clear hb ho4))
 go_loopg [5,6] k (fun kq v5 v6 w' => ∃ (x5_1 : List Int) (x6_1 : Int),v6 = .int .i64 x6_1 ∧ Aside0 (spec_l7Costs.l0 kq a0 l1 x5_1 x6_1 = some r) ∧ Aside0 (kq ≤ k) ∧ Aside0 (Kd.R (Kd.int .i64) 3 w' w.heap.size (fun _ => True) v5 x5_1) ∧ Aside0 (Below w.heap.size w w'))
 case atStart => exact ⟨(y430),(0),(by first|rfl|(simp;done)|(simp [*];done)),H',⟨Nat.le_refl _⟩,⟨by (with_reducible repeat (first|apply ra_|apply rn_|apply rd_));exact HO432.out⟩,⟨by repeat (first|(with_reducible first|exact HB.out|apply ba_|apply bn_|apply bd_)|exact HB.out)⟩⟩
 case round =>
  clear H'
  try clear c1
  try clear p2
  obtain ⟨x5_1,x6_1,rfl,HA,HK1,HO_5,HB⟩:=hrel
  cases gk with
  | zero => exact absurd HA.out (by simp [spec_l7Costs.l0])
  | succ k1 =>
   have H:=HA.out
   clear HA
   simp only [spec_l7Costs.l0] at H
   by_cases c5 : x6_1 < a0
   ·rw [if_pos c5] at H
    have c5b0 : decide (x6_1 < a0) = true:=decide_eq_true c5
    clear c5
    replace H:=Option.bind_eq_some_iff.mp H
    obtain ⟨t433,A60,H⟩:=H
    replace H : (if t433 = x6_1 then (if x5_1.length < 17592186044416 then (spec_l7Costs.l0 k1 a0 l1 (x5_1 ++ [0]) (wrap64 (x6_1 + 1))) else (none)) else (if x5_1.length < 17592186044416 then (spec_l7Costs.l0 k1 a0 l1 (x5_1 ++ [10000]) (wrap64 (x6_1 + 1))) else (none))) = some r:=H
    have A6:=mk_ A60
    clear A60
    by_cases c7 : t433 = x6_1
    ·rw [if_pos c7] at H
     have c7b0 : (t433 == x6_1) = true:=beq_iff_eq.mpr c7
     have c7b1 : (t433 != x6_1) = false:=bne_eq_false_iff_eq.mpr c7
     clear c7
     by_cases c8 : x5_1.length < 17592186044416
     ·rw [if_pos c8] at H
      have LMc8:=mk_ c8
      clear c8
      obtain ⟨y434,hy434⟩ : ∃ y_ : List Int,y_ = (x5_1 ++ [0]):=⟨_,rfl⟩
      replace H : (spec_l7Costs.l0 k1 a0 l1 y434 (wrap64 (x6_1 + 1))) = some r:=by first|(rw [hy434];with_reducible exact H)|(have H2_:=(Option.bind_some _ _).symm.trans H;rw [hy434];with_reducible exact H2_)|(have H2_:=(Option.bind_some _ _).symm.trans H;with_reducible exact H2_)|with_reducible exact H|(rw [hy434];exact H)|exact H
      have Ny434:=mk_ hy434
      clear hy434
      have H':=mk_ H
      clear H
      go_wp2_with (first|((with_reducible refine gate_callee (f:=68) rfl ?_);refine goesL_ (some 18) rfl rfl Try.func68 (by kernel_rfl) rfl #[.int .i64 a0,.slice A1 l1.length c1,.int .i64 x6_1] rfl (by (try simp only [List.map_toArray,List.map_cons,List.map_nil]);first|done|rfl|(simp only [List.length_drop,List.length_take];rfl)) ?_;(with_reducible refine (spec_l7Root.calls k1 a0 _ _ l1 x6_1 t433 _ ?side1 ?side2 A6.out).mono ?_);(case side1 => repeat (first|exact (cb_ HR1.out HB.out)|(with_reducible refine ca_ ?_ _)|(with_reducible refine cn_ ?_ _)|(with_reducible refine cd_ ?_)));(case side2 => exact HC1.out);rintro e w9 ⟨rfl,hb⟩;refine ⟨_,rfl,?_⟩;have n0_:=mk_ (rb_ (by (with_reducible repeat (first|apply ra_|apply rn_|apply rd_));exact HO_5.out) hb);have n1_:=mk_ (st_ (by repeat (first|(with_reducible first|exact HB.out|apply ba_|apply bn_|apply bd_)|exact HB.out)) hb);clear HO_5;clear HB;have HO_5:=n0_;have HB:=n1_;clear n0_ n1_;(try clear hb);(try clear hb2);(try clear hk);(try clear hi))|((with_reducible refine gate_builtin (b:=.append) (xs:=#[.tmp 21,.tmp 22]) rfl ?_);at_builtin;refine Kd.R_append (Kd.int .i64) (w0:=w) w.heap.size rfl (.tmp 21) (.tmp 22) 23 3 (.int .i64 0) 8 rfl Try.underlying23 info3 rfl (by decide) (by omega) u5 x5_1 0 [.int .i64 0] (fun _ => True) (fun _ => False) rfl rfl ?aP (fun _ hk => hk.elim) ?aF ?aO ?aB ?aS ?aL ?_;(case aP => exact rfl);(case aB => exact (by repeat (first|(with_reducible first|exact HB.out|apply ba_|apply bn_|apply bd_)|exact HB.out)));(case aF => exact (fun _ _ => trivial));(case aO => exact (by (with_reducible repeat (first|apply ra_|apply rn_|apply rd_));exact HO_5.out));(case aS => exact (bz_ (by repeat (first|(with_reducible first|exact HB.out|apply ba_|apply bn_|apply bd_)|exact HB.out))));(case aL => have:=LMc8.out;omega);intro v435 w10 ho hb hg hat;rw [← Ny434.out] at ho;have n0_:=mk_ (hb);have n1_:=mk_ (ho);clear HB;clear HO_5;have HB:=n0_;have HO436:=n1_;clear n0_ n1_;clear ho hb hg hat))
      go_roundg k1
      case measure => have:=HK1.out;omega
      case rel => exact ⟨(y434),(wrap64 (x6_1 + 1)),(by first|rfl|(simp;done)|(simp [*];done)),H',⟨by have:=HK1.out;omega⟩,⟨by (with_reducible repeat (first|apply ra_|apply rn_|apply rd_));exact HO436.out⟩,⟨by repeat (first|(with_reducible first|exact HB.out|apply ba_|apply bn_|apply bd_)|exact HB.out)⟩⟩
     ·rw [if_neg c8] at H
      exact absurd H (by simp)
    ·rw [if_neg c7] at H
     have c7b0 : (t433 == x6_1) = false:=beq_eq_false_iff_ne.mpr c7
     have c7b1 : (t433 != x6_1) = true:=bne_iff_ne.mpr c7
     by_cases c11 : x5_1.length < 17592186044416
     ·rw [if_pos c11] at H
      have LMc11:=mk_ c11
      clear c11
      obtain ⟨y437,hy437⟩ : ∃ y_ : List Int,y_ = (x5_1 ++ [10000]):=⟨_,rfl⟩
      replace H : (spec_l7Costs.l0 k1 a0 l1 y437 (wrap64 (x6_1 + 1))) = some r:=by first|(rw [hy437];with_reducible exact H)|(have H2_:=(Option.bind_some _ _).symm.trans H;rw [hy437];with_reducible exact H2_)|(have H2_:=(Option.bind_some _ _).symm.trans H;with_reducible exact H2_)|with_reducible exact H|(rw [hy437];exact H)|exact H
      have Ny437:=mk_ hy437
      clear hy437
      have H':=mk_ H
      clear H
      go_wp2_with (first|((with_reducible refine gate_callee (f:=68) rfl ?_);refine goesL_ (some 18) rfl rfl Try.func68 (by kernel_rfl) rfl #[.int .i64 a0,.slice A1 l1.length c1,.int .i64 x6_1] rfl (by (try simp only [List.map_toArray,List.map_cons,List.map_nil]);first|done|rfl|(simp only [List.length_drop,List.length_take];rfl)) ?_;(with_reducible refine (spec_l7Root.calls k1 a0 _ _ l1 x6_1 t433 _ ?side1 ?side2 A6.out).mono ?_);(case side1 => repeat (first|exact (cb_ HR1.out HB.out)|(with_reducible refine ca_ ?_ _)|(with_reducible refine cn_ ?_ _)|(with_reducible refine cd_ ?_)));(case side2 => exact HC1.out);rintro e w12 ⟨rfl,hb⟩;refine ⟨_,rfl,?_⟩;have n0_:=mk_ (rb_ (by (with_reducible repeat (first|apply ra_|apply rn_|apply rd_));exact HO_5.out) hb);have n1_:=mk_ (st_ (by repeat (first|(with_reducible first|exact HB.out|apply ba_|apply bn_|apply bd_)|exact HB.out)) hb);clear HO_5;clear HB;have HO_5:=n0_;have HB:=n1_;clear n0_ n1_;(try clear hb);(try clear hb2);(try clear hk);(try clear hi))|((with_reducible refine gate_builtin (b:=.append) (xs:=#[.tmp 24,.tmp 25]) rfl ?_);at_builtin;refine Kd.R_append (Kd.int .i64) (w0:=w) w.heap.size rfl (.tmp 24) (.tmp 25) 23 3 (.int .i64 0) 8 rfl Try.underlying23 info3 rfl (by decide) (by omega) u5 x5_1 10000 [.int .i64 10000] (fun _ => True) (fun _ => False) rfl rfl ?aP (fun _ hk => hk.elim) ?aF ?aO ?aB ?aS ?aL ?_;(case aP => exact rfl);(case aB => exact (by repeat (first|(with_reducible first|exact HB.out|apply ba_|apply bn_|apply bd_)|exact HB.out)));(case aF => exact (fun _ _ => trivial));(case aO => exact (by (with_reducible repeat (first|apply ra_|apply rn_|apply rd_));exact HO_5.out));(case aS => exact (bz_ (by repeat (first|(with_reducible first|exact HB.out|apply ba_|apply bn_|apply bd_)|exact HB.out))));(case aL => have:=LMc11.out;omega);intro v438 w13 ho hb hg hat;rw [← Ny437.out] at ho;have n0_:=mk_ (hb);have n1_:=mk_ (ho);clear HB;clear HO_5;have HB:=n0_;have HO439:=n1_;clear n0_ n1_;clear ho hb hg hat))
      go_roundg k1
      case measure => have:=HK1.out;omega
      case rel => exact ⟨(y437),(wrap64 (x6_1 + 1)),(by first|rfl|(simp;done)|(simp [*];done)),H',⟨by have:=HK1.out;omega⟩,⟨by (with_reducible repeat (first|apply ra_|apply rn_|apply rd_));exact HO439.out⟩,⟨by repeat (first|(with_reducible first|exact HB.out|apply ba_|apply bn_|apply bd_)|exact HB.out)⟩⟩
     ·rw [if_neg c11] at H
      exact absurd H (by simp)
   ·rw [if_neg c5] at H
    have c5b0 : decide (x6_1 < a0) = false:=decide_eq_false c5
    clear c5
    have H':=mk_ H
    clear H
    go_wp2
    go_loopg [28] k1 (fun kq v28 w' => ∃ (x5_2 : List Int) (x28_2 : Int),v28 = .int .i64 x28_2 ∧ Aside0 (spec_l7Costs.l1 kq l1 x5_2 a0 x28_2 = some r) ∧ Aside0 (kq ≤ k1) ∧ Aside0 (Kd.R (Kd.int .i64) 3 w' w.heap.size (fun _ => True) u5 x5_2) ∧ Aside0 (Below w.heap.size w w'))
    case atStart => exact ⟨(x5_1),(0),(by first|rfl|(simp;done)|(simp [*];done)),H',⟨Nat.le_refl _⟩,⟨by (with_reducible repeat (first|apply ra_|apply rn_|apply rd_));exact HO_5.out⟩,⟨by repeat (first|(with_reducible first|exact HB.out|apply ba_|apply bn_|apply bd_)|exact HB.out)⟩⟩
    case round =>
     clear H'
     try clear c1
     try clear p2
     try clear c5
     try clear c5b0
     try clear c6
     try clear p6
     try clear c7
     try clear c7b0
     try clear c7b1
     try clear c8
     try clear c11
     try clear p2
     obtain ⟨x5_2,x28_2,rfl,HA,HK2,HO_5,HB⟩:=hrel
     cases gk with
     | zero => exact absurd HA.out (by simp [spec_l7Costs.l1])
     | succ k2 =>
      have H:=HA.out
      clear HA
      simp only [spec_l7Costs.l1] at H
      by_cases c14 : x28_2 < a0
      ·rw [if_pos c14] at H
       have c14b0 : decide (x28_2 < a0) = true:=decide_eq_true c14
       clear c14
       have H':=mk_ H
       clear H
       go_wp2
       go_loopg [7] k2 (fun kq v7 w' => ∃ (x5_3 : List Int) (x7_3 : Int),v7 = .int .i64 x7_3 ∧ Aside0 (spec_l7Costs.l2 kq l1 x5_3 x7_3 a0 x28_2 = some r) ∧ Aside0 (kq ≤ k2) ∧ Aside0 (Kd.R (Kd.int .i64) 3 w' w.heap.size (fun _ => True) u5 x5_3) ∧ Aside0 (Below w.heap.size w w'))
       case atStart => exact ⟨(x5_2),(0),(by first|rfl|(simp;done)|(simp [*];done)),H',⟨Nat.le_refl _⟩,⟨by (with_reducible repeat (first|apply ra_|apply rn_|apply rd_));exact HO_5.out⟩,⟨by repeat (first|(with_reducible first|exact HB.out|apply ba_|apply bn_|apply bd_)|exact HB.out)⟩⟩
       case round =>
        clear H'
        try clear c1
        try clear p2
        try clear c5
        try clear c5b0
        try clear c6
        try clear p6
        try clear c7
        try clear c7b0
        try clear c7b1
        try clear c8
        try clear c11
        try clear c14
        try clear c14b0
        try clear p2
        try clear p6
        obtain ⟨x5_3,x7_3,rfl,HA,HK3,HO_5,HB⟩:=hrel
        cases gk with
        | zero => exact absurd HA.out (by simp [spec_l7Costs.l2])
        | succ k3 =>
         have H:=HA.out
         clear HA
         simp only [spec_l7Costs.l2] at H
         by_cases c15 : x7_3 < (l1.length : Int)
         ·rw [if_pos c15] at H
          have c15b0 : decide (x7_3 < (l1.length : Int)) = true:=decide_eq_true c15
          clear c15
          by_cases c16 : 0 ≤ x7_3
          ·rw [if_pos c16] at H
           have c16b0 : decide (0 ≤ x7_3) = true:=decide_eq_true c16
           clear c16
           by_cases c17 : 0 ≤ ((rd_T51 l1 x7_3).f0)
           ·rw [if_pos c17] at H
            have c17b0 : decide (0 ≤ ((rd_T51 l1 x7_3).f0)) = true:=decide_eq_true c17
            clear c17
            by_cases c18 : ((rd_T51 l1 x7_3).f0) < (x5_3.length : Int)
            ·rw [if_pos c18] at H
             have c18b0 : decide (((rd_T51 l1 x7_3).f0) < (x5_3.length : Int)) = true:=decide_eq_true c18
             clear c18
             by_cases c19 : 0 ≤ ((rd_T51 l1 x7_3).f1)
             ·rw [if_pos c19] at H
              have c19b0 : decide (0 ≤ ((rd_T51 l1 x7_3).f1)) = true:=decide_eq_true c19
              clear c19
              by_cases c20 : ((rd_T51 l1 x7_3).f1) < (x5_3.length : Int)
              ·rw [if_pos c20] at H
               have c20b0 : decide (((rd_T51 l1 x7_3).f1) < (x5_3.length : Int)) = true:=decide_eq_true c20
               clear c20
               obtain ⟨ji21,hji21⟩ : ∃ j_ : Int,(mn (rd x5_3 ((rd_T51 l1 x7_3).f0)) (wrap64 ((rd x5_3 ((rd_T51 l1 x7_3).f1)) + ((rd_T51 l1 x7_3).f2)))) = j_:=⟨_,rfl⟩
               replace H : ((some (x5_3.set (((rd_T51 l1 x7_3).f0) : Int).toNat (ji21) : List Int)).bind fun y444 => (spec_l7Costs.l2 k3 l1 (y444.set (((rd_T51 l1 x7_3).f1) : Int).toNat (mn (rd y444 ((rd_T51 l1 x7_3).f1)) (wrap64 ((rd y444 ((rd_T51 l1 x7_3).f0)) + ((rd_T51 l1 x7_3).f2))))) (wrap64 (x7_3 + 1)) a0 x28_2)) = some r:=by first|(rw [hji21] at H;exact H)|(simp only [hji21] at H ⊢;exact H)
               have hji21_ : (if (wrap64 ((rd x5_3 ((rd_T51 l1 x7_3).f1)) + ((rd_T51 l1 x7_3).f2))) < (rd x5_3 ((rd_T51 l1 x7_3).f0)) then (wrap64 ((rd x5_3 ((rd_T51 l1 x7_3).f1)) + ((rd_T51 l1 x7_3).f2))) else (rd x5_3 ((rd_T51 l1 x7_3).f0))) = ji21:=hji21
               obtain ⟨y444,hy444⟩ : ∃ y_ : List Int,y_ = (x5_3.set (((rd_T51 l1 x7_3).f0) : Int).toNat (ji21)):=⟨_,rfl⟩
               replace H : (spec_l7Costs.l2 k3 l1 (y444.set (((rd_T51 l1 x7_3).f1) : Int).toNat (mn (rd y444 ((rd_T51 l1 x7_3).f1)) (wrap64 ((rd y444 ((rd_T51 l1 x7_3).f0)) + ((rd_T51 l1 x7_3).f2))))) (wrap64 (x7_3 + 1)) a0 x28_2) = some r:=by first|(rw [hy444];with_reducible exact H)|(have H2_:=(Option.bind_some _ _).symm.trans H;rw [hy444];with_reducible exact H2_)|(have H2_:=(Option.bind_some _ _).symm.trans H;with_reducible exact H2_)|with_reducible exact H|(rw [hy444];exact H)|exact H
               have Ny444:=mk_ hy444
               clear hy444
               obtain ⟨ji23,hji23⟩ : ∃ j_ : Int,(mn (rd y444 ((rd_T51 l1 x7_3).f1)) (wrap64 ((rd y444 ((rd_T51 l1 x7_3).f0)) + ((rd_T51 l1 x7_3).f2)))) = j_:=⟨_,rfl⟩
               replace H : (spec_l7Costs.l2 k3 l1 (y444.set (((rd_T51 l1 x7_3).f1) : Int).toNat (ji23)) (wrap64 (x7_3 + 1)) a0 x28_2) = some r:=by first|(rw [hji23] at H;exact H)|(simp only [hji23] at H ⊢;exact H)
               have hji23_ : (if (wrap64 ((rd y444 ((rd_T51 l1 x7_3).f0)) + ((rd_T51 l1 x7_3).f2))) < (rd y444 ((rd_T51 l1 x7_3).f1)) then (wrap64 ((rd y444 ((rd_T51 l1 x7_3).f0)) + ((rd_T51 l1 x7_3).f2))) else (rd y444 ((rd_T51 l1 x7_3).f1))) = ji23:=hji23
               obtain ⟨y447,hy447⟩ : ∃ y_ : List Int,y_ = (y444.set (((rd_T51 l1 x7_3).f1) : Int).toNat (ji23)):=⟨_,rfl⟩
               replace H : (spec_l7Costs.l2 k3 l1 y447 (wrap64 (x7_3 + 1)) a0 x28_2) = some r:=by first|(rw [hy447];with_reducible exact H)|(have H2_:=(Option.bind_some _ _).symm.trans H;rw [hy447];with_reducible exact H2_)|(have H2_:=(Option.bind_some _ _).symm.trans H;with_reducible exact H2_)|with_reducible exact H|(rw [hy447];exact H)|exact H
               have Ny447:=mk_ hy447
               clear hy447
               have H':=mk_ H
               clear H
               have p440 : 0 ≤ (x7_3 : Int):=od_ (by first|(with_reducible assumption)|assumption)
               have q440 : x7_3 < (l1.length : Int):=od_ (by first|(with_reducible assumption)|assumption)
               obtain ⟨ad440,e440,hx440_0,hx440_1,hx440_2⟩:=at_T51 HR1.out x7_3 p440 q440
               cases e440
               replace hx440_0:=(HB.out.cell (wl_ w _ hx440_0)).trans hx440_0
               replace hx440_1:=(HB.out.cell (wl_ w _ hx440_1)).trans hx440_1
               replace hx440_2:=(HB.out.cell (wl_ w _ hx440_2)).trans hx440_2
               replace p440:=eq_true p440
               replace q440:=eq_true q440
               try go_wp2_with (first|((with_reducible refine gate_dst (N:=8) rfl ?_);refine box_event ?hg (N:=8) ?hd (cs:=#[.int .i64 0,.int .i64 0,.int .i64 0]) (t:=51) ?hr ?_;(case hd => rfl);(case hg => rfl);(case hr => first|(go_simp;done)|(go_simp;rfl));intro gb441 hg w25 hbox hb;have n0_:=mk_ (rb_ (by (with_reducible repeat (first|apply ra_|apply rn_|apply rd_));exact HO_5.out) hb);have n1_:=mk_ (st_ (by repeat (first|(with_reducible first|exact HB.out|apply ba_|apply bn_|apply bd_)|exact HB.out)) hb);have n2_:=mk_ (hbox);have n3_:=mk_ ((by rw [hg];exact (bz_ (by repeat (first|(with_reducible first|exact HB.out|apply ba_|apply bn_|apply bd_)|exact HB.out))) : w.heap.size ≤ gb441));have n4_:=mk_ ((by rw [hg];exact (bz_ (by repeat (first|(with_reducible first|exact HB.out|apply ba_|apply bn_|apply bd_)|exact HB.out))) : w.heap.size ≤ gb441));clear HO_5;clear HB;have HO_5:=n0_;have HB:=n1_;have BK441:=n2_;have GW441:=n3_;have GE441:=n4_;clear n0_ n1_ n2_ n3_ n4_;clear hb hbox hg;have hcz26_0 : w25.cell? ⟨gb441,0,none⟩ = some (.int .i64 0):=(bc_ BK441.out 0).trans rfl;have hcz26_1 : w25.cell? ⟨gb441,1,none⟩ = some (.int .i64 0):=(bc_ BK441.out 1).trans rfl;have hcz26_2 : w25.cell? ⟨gb441,2,none⟩ = some (.int .i64 0):=(bc_ BK441.out 2).trans rfl;have hfz26_0:=bf_ BK441.out 0;have hfz26_1:=bf_ BK441.out 1;have hfz26_2:=bf_ BK441.out 2))
               have n0_ : Aside0 (Kd.R (Kd.int .i64) 3 (((w25.setCell ⟨gb441,0,none⟩ (.int .i64 ((rd_T51 l1 x7_3).f0))).setCell ⟨gb441,1,none⟩ (.int .i64 ((rd_T51 l1 x7_3).f1))).setCell ⟨gb441,2,none⟩ (.int .i64 ((rd_T51 l1 x7_3).f2))) w.heap.size (fun _ => True) u5 x5_3):=⟨by (with_reducible repeat (first|apply ra_|apply rn_|apply rd_));exact rm_ (rf_ (p:=⟨gb441,2,none⟩) (rf_ (p:=⟨gb441,1,none⟩) (rf_ (p:=⟨gb441,0,none⟩) (rt_ HO_5.out BK441.out (by decide)) (fun _ hk => hk.2) (.int .i64 ((rd_T51 l1 x7_3).f0))) (fun _ hk => hk.2) (.int .i64 ((rd_T51 l1 x7_3).f1))) (fun _ hk => hk.2) (.int .i64 ((rd_T51 l1 x7_3).f2))) (fun _ hk => trivial)⟩
               have n1_ : Aside0 ((((w25.setCell ⟨gb441,0,none⟩ (.int .i64 ((rd_T51 l1 x7_3).f0))).setCell ⟨gb441,1,none⟩ (.int .i64 ((rd_T51 l1 x7_3).f1))).setCell ⟨gb441,2,none⟩ (.int .i64 ((rd_T51 l1 x7_3).f2))).heap[gb441]? = some (.cells #[.int .i64 ((rd_T51 l1 x7_3).f0),.int .i64 ((rd_T51 l1 x7_3).f1),.int .i64 ((rd_T51 l1 x7_3).f2)] 51 (0,0))):=⟨by (with_reducible repeat (first|refine kn_ ?_ _|refine kd_ ?_|refine ka_ ?_ _));refine blk_put (cs:=#[.int .i64 ((rd_T51 l1 x7_3).f0),.int .i64 ((rd_T51 l1 x7_3).f1),.int .i64 0]) ?_ 2 _ rfl;(with_reducible repeat (first|refine kn_ ?_ _|refine kd_ ?_|refine ka_ ?_ _));refine blk_put (cs:=#[.int .i64 ((rd_T51 l1 x7_3).f0),.int .i64 0,.int .i64 0]) ?_ 1 _ rfl;(with_reducible repeat (first|refine kn_ ?_ _|refine kd_ ?_|refine ka_ ?_ _));refine blk_put (cs:=#[.int .i64 0,.int .i64 0,.int .i64 0]) ?_ 0 _ rfl;(with_reducible repeat (first|refine kn_ ?_ _|refine kd_ ?_|refine ka_ ?_ _));exact BK441.out⟩
               have n2_ : Aside0 (Below w.heap.size w (((w25.setCell ⟨gb441,0,none⟩ (.int .i64 ((rd_T51 l1 x7_3).f0))).setCell ⟨gb441,1,none⟩ (.int .i64 ((rd_T51 l1 x7_3).f1))).setCell ⟨gb441,2,none⟩ (.int .i64 ((rd_T51 l1 x7_3).f2)))):=⟨by repeat (first|(with_reducible first|exact HB.out|apply ba_|apply bn_|apply bd_|refine bs_ ?_ GE441.out)|exact HB.out)⟩
               (try clear HO_5)
               (try clear BK441)
               (try clear HB)
               generalize (((w25.setCell ⟨gb441,0,none⟩ (.int .i64 ((rd_T51 l1 x7_3).f0))).setCell ⟨gb441,1,none⟩ (.int .i64 ((rd_T51 l1 x7_3).f1))).setCell ⟨gb441,2,none⟩ (.int .i64 ((rd_T51 l1 x7_3).f2))) = w27 at n0_ n1_ n2_ ⊢
               have HO_5:=n0_
               have BK441:=n1_
               have HB:=n2_
               clear n0_ n1_ n2_
               have n0_:=mk_ (rd_ HO_5.out)
               have n1_:=mk_ (kd_ BK441.out)
               have n2_:=mk_ (bd_ HB.out)
               clear HO_5
               clear BK441
               clear HB
               have HO_5:=n0_
               have BK441:=n1_
               have HB:=n2_
               clear n0_ n1_ n2_
               obtain ⟨Ao29,co29,eo29⟩:=Kd.R_slice HO_5.out
               (first|subst eo29|(injection eo29 with f1_ f2_ f3_;have f4_:=f1_.symm;have f5_:=f3_.symm;clear f1_ f2_ f3_;subst f4_;subst f5_))
               have p442 : 0 ≤ (((rd_T51 l1 x7_3).f0) : Int):=od_ (by first|(with_reducible assumption)|assumption)
               have q442 : ((rd_T51 l1 x7_3).f0) < (x5_3.length : Int):=od_ (by first|(with_reducible assumption)|assumption)
               obtain ⟨ad442,e442,hx442_0⟩:=Kd.at_int (rr_ HO_5.out).2.2 ((rd_T51 l1 x7_3).f0) p442 q442
               cases e442
               replace p442:=eq_true p442
               replace q442:=eq_true q442
               have p443 : 0 ≤ (((rd_T51 l1 x7_3).f1) : Int):=od_ (by first|(with_reducible assumption)|assumption)
               have q443 : ((rd_T51 l1 x7_3).f1) < (x5_3.length : Int):=od_ (by first|(with_reducible assumption)|assumption)
               obtain ⟨ad443,e443,hx443_0⟩:=Kd.at_int (rr_ HO_5.out).2.2 ((rd_T51 l1 x7_3).f1) p443 q443
               obtain rfl : ad442 = ad443:=(by injection e443)
               replace p443:=eq_true p443
               replace q443:=eq_true q443
               have p22 : 0 ≤ (((rd_T51 l1 x7_3).f0) : Int):=od_ (by first|(with_reducible assumption)|assumption)
               have q22 : (((rd_T51 l1 x7_3).f0) : Int) < ((x5_3.length : Int) : Int):=od_ (by first|(with_reducible assumption)|assumption)
               obtain ⟨go22,co22,eo22,gb22,gl22,cl22,HG22⟩:=Kd.R_form HO_5.out (by omega)
               (first|cases eo22|(injection eo22 with ea_ en_ ec_;(first|subst ea_|(injection ea_ with ea_;subst ea_));subst ec_;clear en_))
               have GB22:=mk_ gb22
               have GG22:=mk_ HG22
               clear gb22 gl22 HG22
               (first|simp only [add_plain] at hx442_0|skip)
               (first|simp only [add_plain] at hx443_0|skip)
               obtain ⟨hx22_0,hf22_0⟩:=Kd.R_celln 0 HO_5.out (((rd_T51 l1 x7_3).f0) : Int) p22 q22
               replace p22:=eq_true p22
               replace q22:=eq_true q22
               have HP30:=Kd.R_putn HO_5.out (((rd_T51 l1 x7_3).f0) : Int) ji21
               rw [← Ny444.out] at HP30
               have HQ30:=mk_ HP30
               clear HP30
               refine start_ (n:=19) (S:=fun w' => w'.cell? ⟨gb441,0,none⟩ = some (.int .i64 ((rd_T51 l1 x7_3).f0)) ∧ w'.cell? ⟨gb441,1,none⟩ = some (.int .i64 ((rd_T51 l1 x7_3).f1)) ∧ w'.cell? ⟨gb441,2,none⟩ = some (.int .i64 ((rd_T51 l1 x7_3).f2)) ∧ w'.cell? ⟨go22,(((rd_T51 l1 x7_3).f0)).toNat,none⟩ = some (.int .i64 (rd x5_3 ((rd_T51 l1 x7_3).f0))) ∧ w'.cell? ⟨go22,(((rd_T51 l1 x7_3).f1)).toNat,none⟩ = some (.int .i64 (rd x5_3 ((rd_T51 l1 x7_3).f1)))) (ds:=[18]) #[false,false,false,false,false,false,false,false,false,false,false,false,false,false,false,false,false,false,false] (by kernel_rfl) rfl rfl ⟨(bc_ BK441.out 0).trans rfl,(bc_ BK441.out 1).trans rfl,(bc_ BK441.out 2).trans rfl,hx442_0,hx443_0⟩ (fun hHeld => ?_);refine with_tabW spec_l7Costs.tab14 spec_l7Costs.bits14 (fun HT_ HW_ => ?_)
               generalize w27.drew = w28 at HO_5 BK441 HB GG22 HQ30 hf22_0 hx22_0 hx442_0 hx443_0 hHeld ⊢
               refine pure_ (i:=0) (N:=some 40) (v:=?_) (a':=?_) #[true,false,false,false,false,false,false,false,false,false,false,false,false,false,false,false,false,false,false] rfl rfl (any_of HT_.out (by kernel_rfl)) (fun _ _ _ h => h) (Or.inl ⟨by rfl,?_⟩) ?_ ?_
               rotate_left
               ·intro w'
                go_simp
                with_reducible rfl
               rotate_left
               ·simp only [Act.put,List.setIfInBounds_toArray,List.set_cons_zero,List.set_cons_succ,i64_w,i32_w]
                rfl
               refine pure_ (i:=1) (N:=some 41) (v:=?_) (a':=?_) #[true,true,false,false,false,false,false,false,false,false,false,false,false,false,false,false,false,false,false] rfl rfl (any_of HT_.out (by kernel_rfl)) (fun _ _ _ h => h) (Or.inl ⟨by rfl,?_⟩) ?_ ?_
               rotate_left
               ·intro w'
                go_simp
                with_reducible rfl
               rotate_left
               ·simp only [Act.put,List.setIfInBounds_toArray,List.set_cons_zero,List.set_cons_succ,i64_w,i32_w]
                rfl
               refine pure_ (i:=3) (N:=some 43) (v:=?_) (a':=?_) #[true,true,false,true,false,false,false,false,false,false,false,false,false,false,false,false,false,false,false] rfl rfl (any_of HT_.out (by kernel_rfl)) (fun _ _ _ h => h) (Or.inl ⟨by rfl,?_⟩) ?_ ?_
               rotate_left
               ·intro w'
                go_simp
                with_reducible rfl
               rotate_left
               ·simp only [Act.put,List.setIfInBounds_toArray,List.set_cons_zero,List.set_cons_succ,i64_w,i32_w]
                rfl
               refine pure_ (i:=4) (N:=some 44) (v:=?_) (a':=?_) #[true,true,false,true,true,false,false,false,false,false,false,false,false,false,false,false,false,false,false] rfl rfl (any_of HT_.out (by kernel_rfl)) (fun _ _ _ h => h) (Or.inl ⟨by rfl,?_⟩) ?_ ?_
               rotate_left
               ·intro w'
                go_simp
                with_reducible rfl
               rotate_left
               ·simp only [Act.put,List.setIfInBounds_toArray,List.set_cons_zero,List.set_cons_succ,i64_w,i32_w]
                rfl
               refine pure_ (i:=8) (N:=some 48) (v:=?_) (a':=?_) #[true,true,false,true,true,false,false,false,true,false,false,false,false,false,false,false,false,false,false] rfl rfl (any_of HT_.out (by kernel_rfl)) (fun _ _ _ h => h) (Or.inl ⟨by rfl,?_⟩) ?_ ?_
               rotate_left
               ·intro w'
                go_simp
                with_reducible rfl
               rotate_left
               ·simp only [Act.put,List.setIfInBounds_toArray,List.set_cons_zero,List.set_cons_succ,i64_w,i32_w]
                rfl
               refine pure_ (i:=9) (N:=some 49) (v:=?_) (a':=?_) #[true,true,false,true,true,false,false,false,true,true,false,false,false,false,false,false,false,false,false] rfl rfl (any_of HT_.out (by kernel_rfl)) (fun _ _ _ h => h) (Or.inl ⟨by rfl,?_⟩) ?_ ?_
               rotate_left
               ·intro w'
                go_simp
                with_reducible rfl
               rotate_left
               ·simp only [Act.put,List.setIfInBounds_toArray,List.set_cons_zero,List.set_cons_succ,i64_w,i32_w]
                rfl
               refine pure_ (i:=13) (N:=some 53) (v:=?_) (a':=?_) #[true,true,false,true,true,false,false,false,true,true,false,false,false,true,false,false,false,false,false] rfl rfl (any_of HT_.out (by kernel_rfl)) (fun _ _ _ h => h) (Or.inl ⟨by rfl,?_⟩) ?_ ?_
               rotate_left
               ·intro w'
                go_simp
                with_reducible rfl
               rotate_left
               ·simp only [Act.put,List.setIfInBounds_toArray,List.set_cons_zero,List.set_cons_succ,i64_w,i32_w]
                rfl
               refine take_ (i:=2) (N:=some 42) (v:=?_) (a':=?_) #[true,true,true,true,true,false,false,false,true,true,false,false,false,true,false,false,false,false,false] rfl rfl (take_ofW HT_.out HW_.out (by kernel_rfl)) (fun _ _ _ h => h) (Or.inl ⟨by rfl,?_⟩) hHeld ?_ ?_
               rotate_left
               ·rintro w' ⟨s0,s1,s2,s3,s4⟩
                go_simp
                with_reducible rfl
               rotate_left
               ·simp only [Act.put,List.setIfInBounds_toArray,List.set_cons_zero,List.set_cons_succ,i64_w,i32_w]
                rfl
               refine take_ (i:=5) (N:=some 45) (v:=?_) (a':=?_) #[true,true,true,true,true,true,false,false,true,true,false,false,false,true,false,false,false,false,false] rfl rfl (take_ofW HT_.out HW_.out (by kernel_rfl)) (fun _ _ _ h => h) (Or.inl ⟨by rfl,?_⟩) hHeld ?_ ?_
               rotate_left
               ·rintro w' ⟨s0,s1,s2,s3,s4⟩
                go_simp
                with_reducible rfl
               rotate_left
               ·simp only [Act.put,List.setIfInBounds_toArray,List.set_cons_zero,List.set_cons_succ,i64_w,i32_w]
                rfl
               refine pure_ (i:=6) (N:=some 46) (v:=?_) (a':=?_) #[true,true,true,true,true,true,true,false,true,true,false,false,false,true,false,false,false,false,false] rfl rfl (any_of HT_.out (by kernel_rfl)) (fun _ _ _ h => h) (Or.inl ⟨by rfl,?_⟩) ?_ ?_
               rotate_left
               ·intro w'
                go_simp
                with_reducible rfl
               rotate_left
               ·simp only [Act.put,List.setIfInBounds_toArray,List.set_cons_zero,List.set_cons_succ,i64_w,i32_w]
                rfl
               refine take_ (i:=7) (N:=some 47) (v:=?_) (a':=?_) #[true,true,true,true,true,true,true,true,true,true,false,false,false,true,false,false,false,false,false] rfl rfl (take_ofW HT_.out HW_.out (by kernel_rfl)) (fun _ _ _ h => h) (Or.inl ⟨by rfl,?_⟩) hHeld ?_ ?_
               rotate_left
               ·rintro w' ⟨s0,s1,s2,s3,s4⟩
                go_simp
                with_reducible rfl
               rotate_left
               ·simp only [Act.put,List.setIfInBounds_toArray,List.set_cons_zero,List.set_cons_succ,i64_w,i32_w]
                rfl
               refine take_ (i:=10) (N:=some 50) (v:=?_) (a':=?_) #[true,true,true,true,true,true,true,true,true,true,true,false,false,true,false,false,false,false,false] rfl rfl (take_ofW HT_.out HW_.out (by kernel_rfl)) (fun _ _ _ h => h) (Or.inl ⟨by rfl,?_⟩) hHeld ?_ ?_
               rotate_left
               ·rintro w' ⟨s0,s1,s2,s3,s4⟩
                go_simp
                with_reducible rfl
               rotate_left
               ·simp only [Act.put,List.setIfInBounds_toArray,List.set_cons_zero,List.set_cons_succ,i64_w,i32_w]
                rfl
               refine pure_ (i:=11) (N:=some 51) (v:=?_) (a':=?_) #[true,true,true,true,true,true,true,true,true,true,true,true,false,true,false,false,false,false,false] rfl rfl (any_of HT_.out (by kernel_rfl)) (fun _ _ _ h => h) (Or.inl ⟨by rfl,?_⟩) ?_ ?_
               rotate_left
               ·intro w'
                go_simp
                with_reducible rfl
               rotate_left
               ·simp only [Act.put,List.setIfInBounds_toArray,List.set_cons_zero,List.set_cons_succ,i64_w,i32_w]
                rfl
               refine take_ (i:=12) (N:=some 52) (v:=?_) (a':=?_) #[true,true,true,true,true,true,true,true,true,true,true,true,true,true,false,false,false,false,false] rfl rfl (take_ofW HT_.out HW_.out (by kernel_rfl)) (fun _ _ _ h => h) (Or.inl ⟨by rfl,?_⟩) hHeld ?_ ?_
               rotate_left
               ·rintro w' ⟨s0,s1,s2,s3,s4⟩
                go_simp
                with_reducible rfl
               rotate_left
               ·simp only [Act.put,List.setIfInBounds_toArray,List.set_cons_zero,List.set_cons_succ,i64_w,i32_w]
                rfl
               refine take_ (i:=14) (N:=some 54) (v:=?_) (a':=?_) #[true,true,true,true,true,true,true,true,true,true,true,true,true,true,true,false,false,false,false] rfl rfl (take_ofW HT_.out HW_.out (by kernel_rfl)) (fun _ _ _ h => h) (Or.inl ⟨by rfl,?_⟩) hHeld ?_ ?_
               rotate_left
               ·rintro w' ⟨s0,s1,s2,s3,s4⟩
                go_simp
                with_reducible rfl
               rotate_left
               ·simp only [Act.put,List.setIfInBounds_toArray,List.set_cons_zero,List.set_cons_succ,i64_w,i32_w]
                rfl
               refine pure_ (i:=15) (N:=some 55) (v:=?_) (a':=?_) #[true,true,true,true,true,true,true,true,true,true,true,true,true,true,true,true,false,false,false] rfl rfl (any_of HT_.out (by kernel_rfl)) (fun _ _ _ h => h) (Or.inl ⟨by rfl,?_⟩) ?_ ?_
               rotate_left
               ·intro w'
                go_simp
                with_reducible rfl
               rotate_left
               ·simp only [Act.put,List.setIfInBounds_toArray,List.set_cons_zero,List.set_cons_succ,i64_w,i32_w]
                rfl
               refine pure_ (i:=16) (N:=some 56) (v:=?_) (a':=?_) #[true,true,true,true,true,true,true,true,true,true,true,true,true,true,true,true,true,false,false] rfl rfl (any_of HT_.out (by kernel_rfl)) (fun _ _ _ h => h) (Or.inl ⟨by rfl,?_⟩) ?_ ?_
               rotate_left
               ·intro w'
                go_simp
                with_reducible rfl
               rotate_left
               ·simp only [Act.put,List.setIfInBounds_toArray,List.set_cons_zero,List.set_cons_succ,i64_w,i32_w]
                rfl
               refine pure_ (i:=17) (N:=some 57) (v:=?_) (a':=?_) #[true,true,true,true,true,true,true,true,true,true,true,true,true,true,true,true,true,true,false] rfl rfl (any_of HT_.out (by kernel_rfl)) (fun _ _ _ h => h) (Or.inl ⟨by rfl,?_⟩) ?_ ?_
               rotate_left
               ·intro w'
                go_simp
                with_reducible rfl
               rotate_left
               ·simp only [Act.put,List.setIfInBounds_toArray,List.set_cons_zero,List.set_cons_succ,i64_w,i32_w]
                rfl
               refine last_ (i:=18) (N:=none) #[true,true,true,true,true,true,true,true,true,true,true,true,true,true,true,true,true,true,true] rfl rfl (one_of HT_.out (by kernel_rfl)) (by decide) (fun K hK => ?_)
               refine skip_ (w1:=?_) (by rfl) rfl ?_ ?_
               rotate_left
               ·go_simp
                rfl
               refine hK.out _ _ ?_
               clear hK K
               refine done_ (done_of HT_.out (by kernel_rfl)) ?_
               try go_wp2
               have n0_ : Aside0 (Kd.R (Kd.int .i64) 3 (w28.setCell ⟨go22,(((rd_T51 l1 x7_3).f0) : Int).toNat,none⟩ (.int .i64 ji21)) w.heap.size (fun _ => True) (.slice (some ⟨go22,0,none⟩) x5_3.length co29) y444):=⟨by (with_reducible repeat (first|apply ra_|apply rn_|apply rd_));exact HQ30.out⟩
               have n1_ : Aside0 ((w28.setCell ⟨go22,(((rd_T51 l1 x7_3).f0) : Int).toNat,none⟩ (.int .i64 ji21)).heap[gb441]? = some (.cells #[.int .i64 ((rd_T51 l1 x7_3).f0),.int .i64 ((rd_T51 l1 x7_3).f1),.int .i64 ((rd_T51 l1 x7_3).f2)] 51 (0,0))):=⟨by (with_reducible repeat (first|refine kn_ ?_ _|refine kd_ ?_|refine ka_ ?_ _));refine blk_far ?_ (by have h_:=Kd.R_ne HO_5.out BK441.out (by decide);intro e_;exact h_ (by rw [e_];rfl)) _;(with_reducible repeat (first|refine kn_ ?_ _|refine kd_ ?_|refine ka_ ?_ _));exact BK441.out⟩
               have n2_ : Aside0 (Below w.heap.size w (w28.setCell ⟨go22,(((rd_T51 l1 x7_3).f0) : Int).toNat,none⟩ (.int .i64 ji21))):=⟨by repeat (first|(with_reducible first|exact HB.out|apply ba_|apply bn_|apply bd_|refine bs_ ?_ GB22.out|refine bs_ ?_ GE441.out)|exact HB.out)⟩
               (try clear HO_5)
               (try clear BK441)
               (try clear HB)
               generalize (w28.setCell ⟨go22,(((rd_T51 l1 x7_3).f0) : Int).toNat,none⟩ (.int .i64 ji21)) = w31 at n0_ n1_ n2_ ⊢
               have HO_5:=n0_
               have BK441:=n1_
               have HB:=n2_
               clear n0_ n1_ n2_
               have n0_:=mk_ (rd_ HO_5.out)
               have n1_:=mk_ (kd_ BK441.out)
               have n2_:=mk_ (bd_ HB.out)
               clear HO_5
               clear BK441
               clear HB
               have HO_5:=n0_
               have BK441:=n1_
               have HB:=n2_
               clear n0_ n1_ n2_
               have p445 : 0 ≤ (((rd_T51 l1 x7_3).f1) : Int):=od_ (by first|(with_reducible assumption)|assumption)
               have q445 : ((rd_T51 l1 x7_3).f1) < (y444.length : Int):=(by have h_ : (((rd_T51 l1 x7_3).f1) : Int) < ((x5_3.length : Int) : Int):=od_ (by first|(with_reducible assumption)|assumption);first|(have e_:=(rr_ HO_5.out).1;omega)|simpa only [Ny444.out,List.length_set] using h_)
               have ql445 : ((((rd_T51 l1 x7_3).f1) : Int) < ((x5_3.length : Int) : Int)) = True:=eq_true (od_ (by first|(with_reducible assumption)|assumption))
               obtain ⟨ad445,e445,hx445_0⟩:=Kd.at_int (rr_ HO_5.out).2.2 ((rd_T51 l1 x7_3).f1) p445 q445
               obtain rfl : (⟨go22,0,none⟩ : Addr) = ad445:=(by injection e445)
               (first|simp only [add_plain] at hx445_0|simp only [add_at] at hx445_0|simp only [Addr.add,Nat.zero_add] at hx445_0|skip)
               replace p445:=eq_true p445
               replace q445:=eq_true q445
               have p446 : 0 ≤ (((rd_T51 l1 x7_3).f0) : Int):=od_ (by first|(with_reducible assumption)|assumption)
               have q446 : ((rd_T51 l1 x7_3).f0) < (y444.length : Int):=(by have h_ : (((rd_T51 l1 x7_3).f0) : Int) < ((x5_3.length : Int) : Int):=od_ (by first|(with_reducible assumption)|assumption);first|(have e_:=(rr_ HO_5.out).1;omega)|simpa only [Ny444.out,List.length_set] using h_)
               have ql446 : ((((rd_T51 l1 x7_3).f0) : Int) < ((x5_3.length : Int) : Int)) = True:=eq_true (od_ (by first|(with_reducible assumption)|assumption))
               obtain ⟨ad446,e446,hx446_0⟩:=Kd.at_int (rr_ HO_5.out).2.2 ((rd_T51 l1 x7_3).f0) p446 q446
               obtain rfl : (⟨go22,0,none⟩ : Addr) = ad446:=(by injection e446)
               (first|simp only [add_plain] at hx446_0|simp only [add_at] at hx446_0|simp only [Addr.add,Nat.zero_add] at hx446_0|skip)
               replace p446:=eq_true p446
               replace q446:=eq_true q446
               have p24 : 0 ≤ (((rd_T51 l1 x7_3).f1) : Int):=od_ (by first|(with_reducible assumption)|assumption)
               have q24 : (((rd_T51 l1 x7_3).f1) : Int) < ((x5_3.length : Int) : Int):=od_ (by first|(with_reducible assumption)|assumption)
               obtain ⟨hx24_0,hf24_0⟩:=Kd.R_celln 0 HO_5.out (((rd_T51 l1 x7_3).f1) : Int) p24 q24
               replace p24:=eq_true p24
               replace q24:=eq_true q24
               have HP33:=Kd.R_putn HO_5.out (((rd_T51 l1 x7_3).f1) : Int) ji23
               rw [← Ny447.out] at HP33
               have HQ33:=mk_ HP33
               clear HP33
               refine start_ (n:=19) (S:=fun w' => w'.cell? ⟨gb441,0,none⟩ = some (.int .i64 ((rd_T51 l1 x7_3).f0)) ∧ w'.cell? ⟨gb441,1,none⟩ = some (.int .i64 ((rd_T51 l1 x7_3).f1)) ∧ w'.cell? ⟨gb441,2,none⟩ = some (.int .i64 ((rd_T51 l1 x7_3).f2)) ∧ w'.cell? ⟨go22,(((rd_T51 l1 x7_3).f1)).toNat,none⟩ = some (.int .i64 (rd y444 ((rd_T51 l1 x7_3).f1))) ∧ w'.cell? ⟨go22,(((rd_T51 l1 x7_3).f0)).toNat,none⟩ = some (.int .i64 (rd y444 ((rd_T51 l1 x7_3).f0)))) (ds:=[18]) #[false,false,false,false,false,false,false,false,false,false,false,false,false,false,false,false,false,false,false] (by kernel_rfl) rfl rfl ⟨(bc_ BK441.out 0).trans rfl,(bc_ BK441.out 1).trans rfl,(bc_ BK441.out 2).trans rfl,hx445_0,hx446_0⟩ (fun hHeld => ?_);refine with_tabW spec_l7Costs.tab15 spec_l7Costs.bits15 (fun HT_ HW_ => ?_)
               generalize w31.drew = w32 at HO_5 BK441 HB HQ30 HQ33 hf24_0 hx24_0 hx445_0 hx446_0 hHeld ⊢
               refine pure_ (i:=0) (N:=some 58) (v:=?_) (a':=?_) #[true,false,false,false,false,false,false,false,false,false,false,false,false,false,false,false,false,false,false] rfl rfl (any_of HT_.out (by kernel_rfl)) (fun _ _ _ h => h) (Or.inl ⟨by rfl,?_⟩) ?_ ?_
               rotate_left
               ·intro w'
                go_simp
                with_reducible rfl
               rotate_left
               ·simp only [Act.put,List.setIfInBounds_toArray,List.set_cons_zero,List.set_cons_succ,i64_w,i32_w]
                rfl
               refine pure_ (i:=1) (N:=some 59) (v:=?_) (a':=?_) #[true,true,false,false,false,false,false,false,false,false,false,false,false,false,false,false,false,false,false] rfl rfl (any_of HT_.out (by kernel_rfl)) (fun _ _ _ h => h) (Or.inl ⟨by rfl,?_⟩) ?_ ?_
               rotate_left
               ·intro w'
                go_simp
                with_reducible rfl
               rotate_left
               ·simp only [Act.put,List.setIfInBounds_toArray,List.set_cons_zero,List.set_cons_succ,i64_w,i32_w]
                rfl
               refine pure_ (i:=3) (N:=some 61) (v:=?_) (a':=?_) #[true,true,false,true,false,false,false,false,false,false,false,false,false,false,false,false,false,false,false] rfl rfl (any_of HT_.out (by kernel_rfl)) (fun _ _ _ h => h) (Or.inl ⟨by rfl,?_⟩) ?_ ?_
               rotate_left
               ·intro w'
                go_simp
                with_reducible rfl
               rotate_left
               ·simp only [Act.put,List.setIfInBounds_toArray,List.set_cons_zero,List.set_cons_succ,i64_w,i32_w]
                rfl
               refine pure_ (i:=4) (N:=some 62) (v:=?_) (a':=?_) #[true,true,false,true,true,false,false,false,false,false,false,false,false,false,false,false,false,false,false] rfl rfl (any_of HT_.out (by kernel_rfl)) (fun _ _ _ h => h) (Or.inl ⟨by rfl,?_⟩) ?_ ?_
               rotate_left
               ·intro w'
                go_simp
                with_reducible rfl
               rotate_left
               ·simp only [Act.put,List.setIfInBounds_toArray,List.set_cons_zero,List.set_cons_succ,i64_w,i32_w]
                rfl
               refine pure_ (i:=8) (N:=some 66) (v:=?_) (a':=?_) #[true,true,false,true,true,false,false,false,true,false,false,false,false,false,false,false,false,false,false] rfl rfl (any_of HT_.out (by kernel_rfl)) (fun _ _ _ h => h) (Or.inl ⟨by rfl,?_⟩) ?_ ?_
               rotate_left
               ·intro w'
                go_simp
                with_reducible rfl
               rotate_left
               ·simp only [Act.put,List.setIfInBounds_toArray,List.set_cons_zero,List.set_cons_succ,i64_w,i32_w]
                rfl
               refine pure_ (i:=9) (N:=some 67) (v:=?_) (a':=?_) #[true,true,false,true,true,false,false,false,true,true,false,false,false,false,false,false,false,false,false] rfl rfl (any_of HT_.out (by kernel_rfl)) (fun _ _ _ h => h) (Or.inl ⟨by rfl,?_⟩) ?_ ?_
               rotate_left
               ·intro w'
                go_simp
                with_reducible rfl
               rotate_left
               ·simp only [Act.put,List.setIfInBounds_toArray,List.set_cons_zero,List.set_cons_succ,i64_w,i32_w]
                rfl
               refine pure_ (i:=13) (N:=some 71) (v:=?_) (a':=?_) #[true,true,false,true,true,false,false,false,true,true,false,false,false,true,false,false,false,false,false] rfl rfl (any_of HT_.out (by kernel_rfl)) (fun _ _ _ h => h) (Or.inl ⟨by rfl,?_⟩) ?_ ?_
               rotate_left
               ·intro w'
                go_simp
                with_reducible rfl
               rotate_left
               ·simp only [Act.put,List.setIfInBounds_toArray,List.set_cons_zero,List.set_cons_succ,i64_w,i32_w]
                rfl
               refine take_ (i:=2) (N:=some 60) (v:=?_) (a':=?_) #[true,true,true,true,true,false,false,false,true,true,false,false,false,true,false,false,false,false,false] rfl rfl (take_ofW HT_.out HW_.out (by kernel_rfl)) (fun _ _ _ h => h) (Or.inl ⟨by rfl,?_⟩) hHeld ?_ ?_
               rotate_left
               ·rintro w' ⟨s0,s1,s2,s3,s4⟩
                go_simp
                with_reducible rfl
               rotate_left
               ·simp only [Act.put,List.setIfInBounds_toArray,List.set_cons_zero,List.set_cons_succ,i64_w,i32_w]
                rfl
               refine take_ (i:=5) (N:=some 63) (v:=?_) (a':=?_) #[true,true,true,true,true,true,false,false,true,true,false,false,false,true,false,false,false,false,false] rfl rfl (take_ofW HT_.out HW_.out (by kernel_rfl)) (fun _ _ _ h => h) (Or.inl ⟨by rfl,?_⟩) hHeld ?_ ?_
               rotate_left
               ·rintro w' ⟨s0,s1,s2,s3,s4⟩
                go_simp
                with_reducible rfl
               rotate_left
               ·simp only [Act.put,List.setIfInBounds_toArray,List.set_cons_zero,List.set_cons_succ,i64_w,i32_w]
                rfl
               refine pure_ (i:=6) (N:=some 64) (v:=?_) (a':=?_) #[true,true,true,true,true,true,true,false,true,true,false,false,false,true,false,false,false,false,false] rfl rfl (any_of HT_.out (by kernel_rfl)) (fun _ _ _ h => h) (Or.inl ⟨by rfl,?_⟩) ?_ ?_
               rotate_left
               ·intro w'
                go_simp
                with_reducible rfl
               rotate_left
               ·simp only [Act.put,List.setIfInBounds_toArray,List.set_cons_zero,List.set_cons_succ,i64_w,i32_w]
                rfl
               refine take_ (i:=7) (N:=some 65) (v:=?_) (a':=?_) #[true,true,true,true,true,true,true,true,true,true,false,false,false,true,false,false,false,false,false] rfl rfl (take_ofW HT_.out HW_.out (by kernel_rfl)) (fun _ _ _ h => h) (Or.inl ⟨by rfl,?_⟩) hHeld ?_ ?_
               rotate_left
               ·rintro w' ⟨s0,s1,s2,s3,s4⟩
                go_simp
                with_reducible rfl
               rotate_left
               ·simp only [Act.put,List.setIfInBounds_toArray,List.set_cons_zero,List.set_cons_succ,i64_w,i32_w]
                rfl
               refine take_ (i:=10) (N:=some 68) (v:=?_) (a':=?_) #[true,true,true,true,true,true,true,true,true,true,true,false,false,true,false,false,false,false,false] rfl rfl (take_ofW HT_.out HW_.out (by kernel_rfl)) (fun _ _ _ h => h) (Or.inl ⟨by rfl,?_⟩) hHeld ?_ ?_
               rotate_left
               ·rintro w' ⟨s0,s1,s2,s3,s4⟩
                go_simp
                with_reducible rfl
               rotate_left
               ·simp only [Act.put,List.setIfInBounds_toArray,List.set_cons_zero,List.set_cons_succ,i64_w,i32_w]
                rfl
               refine pure_ (i:=11) (N:=some 69) (v:=?_) (a':=?_) #[true,true,true,true,true,true,true,true,true,true,true,true,false,true,false,false,false,false,false] rfl rfl (any_of HT_.out (by kernel_rfl)) (fun _ _ _ h => h) (Or.inl ⟨by rfl,?_⟩) ?_ ?_
               rotate_left
               ·intro w'
                go_simp
                with_reducible rfl
               rotate_left
               ·simp only [Act.put,List.setIfInBounds_toArray,List.set_cons_zero,List.set_cons_succ,i64_w,i32_w]
                rfl
               refine take_ (i:=12) (N:=some 70) (v:=?_) (a':=?_) #[true,true,true,true,true,true,true,true,true,true,true,true,true,true,false,false,false,false,false] rfl rfl (take_ofW HT_.out HW_.out (by kernel_rfl)) (fun _ _ _ h => h) (Or.inl ⟨by rfl,?_⟩) hHeld ?_ ?_
               rotate_left
               ·rintro w' ⟨s0,s1,s2,s3,s4⟩
                go_simp
                with_reducible rfl
               rotate_left
               ·simp only [Act.put,List.setIfInBounds_toArray,List.set_cons_zero,List.set_cons_succ,i64_w,i32_w]
                rfl
               refine take_ (i:=14) (N:=some 72) (v:=?_) (a':=?_) #[true,true,true,true,true,true,true,true,true,true,true,true,true,true,true,false,false,false,false] rfl rfl (take_ofW HT_.out HW_.out (by kernel_rfl)) (fun _ _ _ h => h) (Or.inl ⟨by rfl,?_⟩) hHeld ?_ ?_
               rotate_left
               ·rintro w' ⟨s0,s1,s2,s3,s4⟩
                go_simp
                with_reducible rfl
               rotate_left
               ·simp only [Act.put,List.setIfInBounds_toArray,List.set_cons_zero,List.set_cons_succ,i64_w,i32_w]
                rfl
               refine pure_ (i:=15) (N:=some 73) (v:=?_) (a':=?_) #[true,true,true,true,true,true,true,true,true,true,true,true,true,true,true,true,false,false,false] rfl rfl (any_of HT_.out (by kernel_rfl)) (fun _ _ _ h => h) (Or.inl ⟨by rfl,?_⟩) ?_ ?_
               rotate_left
               ·intro w'
                go_simp
                with_reducible rfl
               rotate_left
               ·simp only [Act.put,List.setIfInBounds_toArray,List.set_cons_zero,List.set_cons_succ,i64_w,i32_w]
                rfl
               refine pure_ (i:=16) (N:=some 74) (v:=?_) (a':=?_) #[true,true,true,true,true,true,true,true,true,true,true,true,true,true,true,true,true,false,false] rfl rfl (any_of HT_.out (by kernel_rfl)) (fun _ _ _ h => h) (Or.inl ⟨by rfl,?_⟩) ?_ ?_
               rotate_left
               ·intro w'
                go_simp
                with_reducible rfl
               rotate_left
               ·simp only [Act.put,List.setIfInBounds_toArray,List.set_cons_zero,List.set_cons_succ,i64_w,i32_w]
                rfl
               refine pure_ (i:=17) (N:=some 75) (v:=?_) (a':=?_) #[true,true,true,true,true,true,true,true,true,true,true,true,true,true,true,true,true,true,false] rfl rfl (any_of HT_.out (by kernel_rfl)) (fun _ _ _ h => h) (Or.inl ⟨by rfl,?_⟩) ?_ ?_
               rotate_left
               ·intro w'
                go_simp
                with_reducible rfl
               rotate_left
               ·simp only [Act.put,List.setIfInBounds_toArray,List.set_cons_zero,List.set_cons_succ,i64_w,i32_w]
                rfl
               refine last_ (i:=18) (N:=none) #[true,true,true,true,true,true,true,true,true,true,true,true,true,true,true,true,true,true,true] rfl rfl (one_of HT_.out (by kernel_rfl)) (by decide) (fun K hK => ?_)
               refine skip_ (w1:=?_) (by rfl) rfl ?_ ?_
               rotate_left
               ·go_simp
                rfl
               refine hK.out _ _ ?_
               clear hK K
               refine done_ (done_of HT_.out (by kernel_rfl)) ?_
               try go_wp2
               go_roundg k3
               case measure => have:=HK1.out;have:=HK2.out;have:=HK3.out;omega
               case rel => exact ⟨(y447),(wrap64 (x7_3 + 1)),(by first|rfl|(simp;done)|(simp [*];done)),H',⟨by have:=HK1.out;have:=HK2.out;have:=HK3.out;omega⟩,⟨by (with_reducible repeat (first|apply ra_|apply rn_|apply rd_));exact HQ33.out⟩,⟨by repeat (first|(with_reducible first|exact HB.out|apply ba_|apply bn_|apply bd_|refine bs_ ?_ GB22.out|refine bs_ ?_ GE441.out)|exact HB.out)⟩⟩
              ·rw [if_neg c20] at H
               exact absurd H (by simp)
             ·rw [if_neg c19] at H
              exact absurd H (by simp)
            ·rw [if_neg c18] at H
             exact absurd H (by simp)
           ·rw [if_neg c17] at H
            exact absurd H (by simp)
          ·rw [if_neg c16] at H
           exact absurd H (by simp)
         ·rw [if_neg c15] at H
          have c15b0 : decide (x7_3 < (l1.length : Int)) = false:=decide_eq_false c15
          clear c15
          have H':=mk_ H
          clear H
          go_wp2
          go_roundg k3
          case measure => have:=HK1.out;have:=HK2.out;have:=HK3.out;omega
          case rel => exact ⟨(x5_3),(wrap64 (x28_2 + 1)),(by first|rfl|(simp;done)|(simp [*];done)),H',⟨by have:=HK1.out;have:=HK2.out;have:=HK3.out;omega⟩,⟨by (with_reducible repeat (first|apply ra_|apply rn_|apply rd_));exact HO_5.out⟩,⟨by repeat (first|(with_reducible first|exact HB.out|apply ba_|apply bn_|apply bd_)|exact HB.out)⟩⟩
      ·rw [if_neg c14] at H
       have c14b0 : decide (x28_2 < a0) = false:=decide_eq_false c14
       clear c14
       obtain rfl:=Option.some.inj H
       go_wp2
       go_ret
       exact ⟨_,by first|rfl|(simp [errW_none,errW_some] <;> rfl)|(simp [*,errW_none,errW_some] <;> rfl),by (with_reducible repeat (first|apply ra_|apply rn_|apply rd_));exact HO_5.out,by repeat (first|(with_reducible first|exact HB.out|apply ba_|apply bn_|apply bd_)|exact HB.out)⟩

/-! ### spec_l7Other: function 88 -/
def spec_l7Other.f (a0_0 : Int) (a0_1 : Int) (a0_2 : Int) (a1 : Int) : Option (Int):=if a1 = a0_0 then (some a0_1) else (if a1 = a0_1 then (some a0_0) else (some (-1)))
set_option maxHeartbeats 8000000 in
set_option maxRecDepth 100000 in
theorem spec_l7Other.calls (a0_0 : Int) (a0_1 : Int) (a0_2 : Int) (a1 : Int) (r : Int) (w : World) (h : spec_l7Other.f a0_0 a0_1 a0_2 a1 = some r) :
  Calls Try.prog 88 #[.agg #[.int .i64 a0_0,.int .i64 a0_1,.int .i64 a0_2],.int .i64 a1] w fun e w' => e = .returned (.int .i64 r) ∧ Below w.heap.size w w':=by
 have hu51:=Try.underlying51
 have HB:=mk_ (Below.refl w.heap.size w)
 have H : (if a1 = a0_0 then (some a0_1) else (if a1 = a0_1 then (some a0_0) else (some (-1)))) = some r:=h
 clear h
 by_cases c3 : a1 = a0_0
 ·rw [if_pos c3] at H
  have c3b0 : (a1 == a0_0) = true:=beq_iff_eq.mpr c3
  have c3b1 : (a1 != a0_0) = false:=bne_eq_false_iff_eq.mpr c3
  clear c3
  obtain rfl:=Option.some.inj H
  go_enter Try.func88,Try.ntmps88
  go_wp2_with (first|((with_reducible refine gate_dst (N:=2) rfl ?_);refine box_event ?hg (N:=2) ?hd (cs:=#[.int .i64 a0_0,.int .i64 a0_1,.int .i64 a0_2]) (t:=51) ?hr ?_;(case hd => rfl);(case hg => rfl);(case hr => first|(go_simp;done)|(go_simp;rfl));intro gb448 hg w4 hbox hb;have n0_:=mk_ (st_ (by repeat (first|(with_reducible first|exact HB.out|apply ba_|apply bn_|apply bd_)|exact HB.out)) hb);have n1_:=mk_ (hbox);have n2_:=mk_ ((by rw [hg];exact (bz_ (by repeat (first|(with_reducible first|exact HB.out|apply ba_|apply bn_|apply bd_)|exact HB.out))) : w.heap.size ≤ gb448));have n3_:=mk_ ((by rw [hg];exact (bz_ (by repeat (first|(with_reducible first|exact HB.out|apply ba_|apply bn_|apply bd_)|exact HB.out))) : w.heap.size ≤ gb448));clear HB;have HB:=n0_;have BK448:=n1_;have GW448:=n2_;have GE448:=n3_;clear n0_ n1_ n2_ n3_;clear hb hbox hg;have hcz5_0 : w4.cell? ⟨gb448,0,none⟩ = some (.int .i64 a0_0):=(bc_ BK448.out 0).trans rfl;have hcz5_1 : w4.cell? ⟨gb448,1,none⟩ = some (.int .i64 a0_1):=(bc_ BK448.out 1).trans rfl;have hcz5_2 : w4.cell? ⟨gb448,2,none⟩ = some (.int .i64 a0_2):=(bc_ BK448.out 2).trans rfl;have hfz5_0:=bf_ BK448.out 0;have hfz5_1:=bf_ BK448.out 1;have hfz5_2:=bf_ BK448.out 2))
  go_ret
  exact ⟨by first|rfl|(simp [errW_none,errW_some] <;> rfl)|(simp [*,errW_none,errW_some] <;> rfl),by repeat (first|(with_reducible first|exact HB.out|apply ba_|apply bn_|apply bd_|refine bs_ ?_ GE448.out)|exact HB.out)⟩
 ·rw [if_neg c3] at H
  have c3b0 : (a1 == a0_0) = false:=beq_eq_false_iff_ne.mpr c3
  have c3b1 : (a1 != a0_0) = true:=bne_iff_ne.mpr c3
  by_cases c6 : a1 = a0_1
  ·rw [if_pos c6] at H
   have c6b0 : (a1 == a0_1) = true:=beq_iff_eq.mpr c6
   have c6b1 : (a1 != a0_1) = false:=bne_eq_false_iff_eq.mpr c6
   clear c6
   obtain rfl:=Option.some.inj H
   go_enter Try.func88,Try.ntmps88
   go_wp2_with (first|((with_reducible refine gate_dst (N:=2) rfl ?_);refine box_event ?hg (N:=2) ?hd (cs:=#[.int .i64 a0_0,.int .i64 a0_1,.int .i64 a0_2]) (t:=51) ?hr ?_;(case hd => rfl);(case hg => rfl);(case hr => first|(go_simp;done)|(go_simp;rfl));intro gb448 hg w7 hbox hb;have n0_:=mk_ (st_ (by repeat (first|(with_reducible first|exact HB.out|apply ba_|apply bn_|apply bd_)|exact HB.out)) hb);have n1_:=mk_ (hbox);have n2_:=mk_ ((by rw [hg];exact (bz_ (by repeat (first|(with_reducible first|exact HB.out|apply ba_|apply bn_|apply bd_)|exact HB.out))) : w.heap.size ≤ gb448));have n3_:=mk_ ((by rw [hg];exact (bz_ (by repeat (first|(with_reducible first|exact HB.out|apply ba_|apply bn_|apply bd_)|exact HB.out))) : w.heap.size ≤ gb448));clear HB;have HB:=n0_;have BK448:=n1_;have GW448:=n2_;have GE448:=n3_;clear n0_ n1_ n2_ n3_;clear hb hbox hg;have hcz8_0 : w7.cell? ⟨gb448,0,none⟩ = some (.int .i64 a0_0):=(bc_ BK448.out 0).trans rfl;have hcz8_1 : w7.cell? ⟨gb448,1,none⟩ = some (.int .i64 a0_1):=(bc_ BK448.out 1).trans rfl;have hcz8_2 : w7.cell? ⟨gb448,2,none⟩ = some (.int .i64 a0_2):=(bc_ BK448.out 2).trans rfl;have hfz8_0:=bf_ BK448.out 0;have hfz8_1:=bf_ BK448.out 1;have hfz8_2:=bf_ BK448.out 2))
   go_ret
   exact ⟨by first|rfl|(simp [errW_none,errW_some] <;> rfl)|(simp [*,errW_none,errW_some] <;> rfl),by repeat (first|(with_reducible first|exact HB.out|apply ba_|apply bn_|apply bd_|refine bs_ ?_ GE448.out)|exact HB.out)⟩
  ·rw [if_neg c6] at H
   have c6b0 : (a1 == a0_1) = false:=beq_eq_false_iff_ne.mpr c6
   have c6b1 : (a1 != a0_1) = true:=bne_iff_ne.mpr c6
   obtain rfl:=Option.some.inj H
   go_enter Try.func88,Try.ntmps88
   go_wp2_with (first|((with_reducible refine gate_dst (N:=2) rfl ?_);refine box_event ?hg (N:=2) ?hd (cs:=#[.int .i64 a0_0,.int .i64 a0_1,.int .i64 a0_2]) (t:=51) ?hr ?_;(case hd => rfl);(case hg => rfl);(case hr => first|(go_simp;done)|(go_simp;rfl));intro gb448 hg w9 hbox hb;have n0_:=mk_ (st_ (by repeat (first|(with_reducible first|exact HB.out|apply ba_|apply bn_|apply bd_)|exact HB.out)) hb);have n1_:=mk_ (hbox);have n2_:=mk_ ((by rw [hg];exact (bz_ (by repeat (first|(with_reducible first|exact HB.out|apply ba_|apply bn_|apply bd_)|exact HB.out))) : w.heap.size ≤ gb448));have n3_:=mk_ ((by rw [hg];exact (bz_ (by repeat (first|(with_reducible first|exact HB.out|apply ba_|apply bn_|apply bd_)|exact HB.out))) : w.heap.size ≤ gb448));clear HB;have HB:=n0_;have BK448:=n1_;have GW448:=n2_;have GE448:=n3_;clear n0_ n1_ n2_ n3_;clear hb hbox hg;have hcz10_0 : w9.cell? ⟨gb448,0,none⟩ = some (.int .i64 a0_0):=(bc_ BK448.out 0).trans rfl;have hcz10_1 : w9.cell? ⟨gb448,1,none⟩ = some (.int .i64 a0_1):=(bc_ BK448.out 1).trans rfl;have hcz10_2 : w9.cell? ⟨gb448,2,none⟩ = some (.int .i64 a0_2):=(bc_ BK448.out 2).trans rfl;have hfz10_0:=bf_ BK448.out 0;have hfz10_1:=bf_ BK448.out 1;have hfz10_2:=bf_ BK448.out 2))
   go_ret
   exact ⟨by first|rfl|(simp [errW_none,errW_some] <;> rfl)|(simp [*,errW_none,errW_some] <;> rfl),by repeat (first|(with_reducible first|exact HB.out|apply ba_|apply bn_|apply bd_|refine bs_ ?_ GE448.out)|exact HB.out)⟩

/-! ### spec_l7Up: function 86 -/
mutual
def spec_l7Up.l0 : Nat → List (S51) → List Int → Int → Int → Int → Option (Int)
 | 0,_,_,_,_,_ => none
 | k + 1,x0,x1,x2,x7,x8 => if x8 < (x0.length : Int) then (if 0 ≤ x8 then ((spec_l7Other.f ((rd_T51 x0 x8).f0) ((rd_T51 x0 x8).f1) ((rd_T51 x0 x8).f2) x2).bind fun t451 => (if t451 < 0 then (spec_l7Up.j1 k x0 x1 x2 x7 x8 t451 true) else (if 0 ≤ t451 then (if t451 < (x1.length : Int) then (if 0 ≤ x2 then (if x2 < (x1.length : Int) then (spec_l7Up.j1 k x0 x1 x2 x7 x8 t451 ((wrap64 ((rd x1 t451) + ((rd_T51 x0 x8).f2))) != (rd x1 x2))) else (none)) else (none)) else (none)) else (none)))) else (none)) else (some x7)
def spec_l7Up.j1 : Nat → List (S51) → List Int → Int → Int → Int → Int → Bool → Option (Int)
 | 0,_,_,_,_,_,_,_ => none
 | k + 1,x0,x1,x2,x7,x8,x9,x46 => if x46 = true then (spec_l7Up.l0 k x0 x1 x2 x7 (wrap64 (x8 + 1))) else (if x7 < 0 then (spec_l7Up.l0 k x0 x1 x2 x8 (wrap64 (x8 + 1))) else (if 0 ≤ x7 then (if x7 < (x0.length : Int) then ((spec_l7Other.f ((rd_T51 x0 x7).f0) ((rd_T51 x0 x7).f1) ((rd_T51 x0 x7).f2) x2).bind fun t456 => (if x9 < t456 then (spec_l7Up.l0 k x0 x1 x2 x8 (wrap64 (x8 + 1))) else (spec_l7Up.l0 k x0 x1 x2 x7 (wrap64 (x8 + 1))))) else (none)) else (none)))
end
def spec_l7Up.f (k : Nat) (l0 : List (S51)) (l1 : List Int) (a2 : Int) : Option (Int):=if 0 ≤ a2 then (if a2 < (l1.length : Int) then (if (rd l1 a2) = 0 then (some (-1)) else (spec_l7Up.l0 k l0 l1 a2 (-1) 0)) else (none)) else (none)
theorem spec_l7Up.mono_l : ∀ k,(∀ y0 y1 y2 y3 y4,LeO (spec_l7Up.l0 k y0 y1 y2 y3 y4) (spec_l7Up.l0 (k + 1) y0 y1 y2 y3 y4)) ∧ (∀ y0 y1 y2 y3 y4 y5 y6,LeO (spec_l7Up.j1 k y0 y1 y2 y3 y4 y5 y6) (spec_l7Up.j1 (k + 1) y0 y1 y2 y3 y4 y5 y6))
 | 0 => ⟨fun _ _ _ _ _ r h => by simp [spec_l7Up.l0] at h,fun _ _ _ _ _ _ _ r h => by simp [spec_l7Up.j1] at h⟩
 | k + 1 => by
  obtain ⟨ih0,ih1⟩:=spec_l7Up.mono_l k
  refine ⟨?_,?_⟩
  ·intro y0 y1 y2 y3 y4
   unfold spec_l7Up.l0
   repeat' first
   | (with_reducible exact ih0 _ _ _ _ _)
   | (with_reducible exact ih1 _ _ _ _ _ _ _)
   | (with_reducible exact LeO.refl _)
   | (with_reducible exact LeO.none _)
   | (with_reducible refine LeO.ite ?_ ?_)
   | (with_reducible refine LeO.bind ?_ (fun _ => ?_))
   | exact ih0 _ _ _ _ _
   | exact ih1 _ _ _ _ _ _ _
   | exact LeO.none _
   | refine LeO.ite ?_ ?_
   | refine LeO.bind ?_ (fun _ => ?_)
  ·intro y0 y1 y2 y3 y4 y5 y6
   unfold spec_l7Up.j1
   repeat' first
   | (with_reducible exact ih0 _ _ _ _ _)
   | (with_reducible exact ih1 _ _ _ _ _ _ _)
   | (with_reducible exact LeO.refl _)
   | (with_reducible exact LeO.none _)
   | (with_reducible refine LeO.ite ?_ ?_)
   | (with_reducible refine LeO.bind ?_ (fun _ => ?_))
   | exact ih0 _ _ _ _ _
   | exact ih1 _ _ _ _ _ _ _
   | exact LeO.none _
   | refine LeO.ite ?_ ?_
   | refine LeO.bind ?_ (fun _ => ?_)
theorem spec_l7Up.mono : ∀ a0 a1 a2 k,LeO (spec_l7Up.f k a0 a1 a2) (spec_l7Up.f (k + 1) a0 a1 a2):=by
 intro a0 a1 a2 k
 obtain ⟨ih0,ih1⟩:=spec_l7Up.mono_l k
 unfold spec_l7Up.f
 repeat' first
   | (with_reducible exact ih0 _ _ _ _ _)
   | (with_reducible exact ih1 _ _ _ _ _ _ _)
   | (with_reducible exact LeO.refl _)
   | (with_reducible exact LeO.none _)
   | (with_reducible refine LeO.ite ?_ ?_)
   | (with_reducible refine LeO.bind ?_ (fun _ => ?_))
   | exact ih0 _ _ _ _ _
   | exact ih1 _ _ _ _ _ _ _
   | exact LeO.none _
   | refine LeO.ite ?_ ?_
   | refine LeO.bind ?_ (fun _ => ?_)
set_option maxHeartbeats 8000000 in
set_option maxRecDepth 100000 in
theorem spec_l7Up.calls (k : Nat) (A0 : Option Addr) (c0 : Nat) (l0 : List (S51)) (A1 : Option Addr) (c1 : Nat) (l1 : List Int) (a2 : Int) (r : Int) (w : World) (hr0 : Kd.C k51 w A0 l0.length l0) (hc0 : l0.length ≤ c0) (hr1 : Kd.C (Kd.int .i64) w A1 l1.length l1) (hc1 : l1.length ≤ c1) (h : spec_l7Up.f k l0 l1 a2 = some r) :
  Calls Try.prog 86 #[.slice A0 l0.length c0,.slice A1 l1.length c1,.int .i64 a2] w fun e w' => e = .returned (.int .i64 r) ∧ Below w.heap.size w w':=by
 have hu51:=Try.underlying51
 have HR0:=mk_ hr0
 have HC0:=mk_ hc0
 clear hr0 hc0
 have HR1:=mk_ hr1
 have HC1:=mk_ hc1
 clear hr1 hc1
 have HB:=mk_ (Below.refl w.heap.size w)
 have H : (if 0 ≤ a2 then (if a2 < (l1.length : Int) then (if (rd l1 a2) = 0 then (some (-1)) else (spec_l7Up.l0 k l0 l1 a2 (-1) 0)) else (none)) else (none)) = some r:=h
 clear h
 by_cases c4 : 0 ≤ a2
 ·rw [if_pos c4] at H
  have c4b0 : decide (0 ≤ a2) = true:=decide_eq_true c4
  clear c4
  by_cases c5 : a2 < (l1.length : Int)
  ·rw [if_pos c5] at H
   have c5b0 : decide (a2 < (l1.length : Int)) = true:=decide_eq_true c5
   clear c5
   by_cases c6 : (rd l1 a2) = 0
   ·rw [if_pos c6] at H
    have c6b0 : ((rd l1 a2) == 0) = true:=beq_iff_eq.mpr c6
    have c6b1 : ((rd l1 a2) != 0) = false:=bne_eq_false_iff_eq.mpr c6
    clear c6
    obtain rfl:=Option.some.inj H
    have p449 : 0 ≤ (a2 : Int):=od_ (by first|(with_reducible assumption)|assumption)
    have q449 : a2 < (l1.length : Int):=od_ (by first|(with_reducible assumption)|assumption)
    obtain ⟨ad449,e449,hx449_0⟩:=Kd.at_int HR1.out a2 p449 q449
    cases e449
    replace p449:=eq_true p449
    replace q449:=eq_true q449
    go_enter Try.func86,Try.ntmps86
    go_wp2
    repeat (go_quiet (fail);try go_wp2)
    go_ret
    exact ⟨by first|rfl|(simp [errW_none,errW_some] <;> rfl)|(simp [*,errW_none,errW_some] <;> rfl),by repeat (first|(with_reducible first|exact HB.out|apply ba_|apply bn_|apply bd_)|exact HB.out)⟩
   ·rw [if_neg c6] at H
    have c6b0 : ((rd l1 a2) == 0) = false:=beq_eq_false_iff_ne.mpr c6
    have c6b1 : ((rd l1 a2) != 0) = true:=bne_iff_ne.mpr c6
    have H':=mk_ H
    clear H
    have p449 : 0 ≤ (a2 : Int):=od_ (by first|(with_reducible assumption)|assumption)
    have q449 : a2 < (l1.length : Int):=od_ (by first|(with_reducible assumption)|assumption)
    obtain ⟨ad449,e449,hx449_0⟩:=Kd.at_int HR1.out a2 p449 q449
    cases e449
    replace p449:=eq_true p449
    replace q449:=eq_true q449
    go_enter Try.func86,Try.ntmps86
    go_wp2
    repeat (go_quiet (fail);try go_wp2)
    go_loopg [7,8] k (fun kq v7 v8 w' => ∃ (x7_1 : Int) (x8_1 : Int),v7 = .int .i64 x7_1 ∧ v8 = .int .i64 x8_1 ∧ Aside0 (spec_l7Up.l0 kq l0 l1 a2 x7_1 x8_1 = some r) ∧ Aside0 (kq ≤ k) ∧ Aside0 (Below w.heap.size w w'))
    case atStart => exact ⟨((-1)),(0),(by first|rfl|(simp;done)|(simp [*];done)),(by first|rfl|(simp;done)|(simp [*];done)),H',⟨Nat.le_refl _⟩,⟨by repeat (first|(with_reducible first|exact HB.out|apply ba_|apply bn_|apply bd_)|exact HB.out)⟩⟩
    case round =>
     clear H'
     try clear c1
     try clear p2
     try clear c4
     try clear c4b0
     try clear p4
     try clear q4
     try clear hx4
     try clear c5
     try clear c5b0
     try clear c6
     try clear c6b0
     try clear c6b1
     try clear hx449_0
     try clear p449
     try clear q449
     obtain ⟨x7_1,x8_1,rfl,rfl,HA,HK1,HB⟩:=hrel
     cases gk with
     | zero => exact absurd HA.out (by simp [spec_l7Up.l0])
     | succ k1 =>
      have H:=HA.out
      clear HA
      simp only [spec_l7Up.l0] at H
      by_cases c7 : x8_1 < (l0.length : Int)
      ·rw [if_pos c7] at H
       have c7b0 : decide (x8_1 < (l0.length : Int)) = true:=decide_eq_true c7
       clear c7
       by_cases c8 : 0 ≤ x8_1
       ·rw [if_pos c8] at H
        have c8b0 : decide (0 ≤ x8_1) = true:=decide_eq_true c8
        clear c8
        replace H:=Option.bind_eq_some_iff.mp H
        obtain ⟨t451,A90,H⟩:=H
        replace H : (if t451 < 0 then (spec_l7Up.j1 k1 l0 l1 a2 x7_1 x8_1 t451 true) else (if 0 ≤ t451 then (if t451 < (l1.length : Int) then (if 0 ≤ a2 then (if a2 < (l1.length : Int) then (spec_l7Up.j1 k1 l0 l1 a2 x7_1 x8_1 t451 ((wrap64 ((rd l1 t451) + ((rd_T51 l0 x8_1).f2))) != (rd l1 a2))) else (none)) else (none)) else (none)) else (none))) = some r:=H
        have A9:=mk_ A90
        clear A90
        have HC10:=mk_ H
        clear H
        have p450 : 0 ≤ (x8_1 : Int):=od_ (by first|(with_reducible assumption)|assumption)
        have q450 : x8_1 < (l0.length : Int):=od_ (by first|(with_reducible assumption)|assumption)
        obtain ⟨ad450,e450,hx450_0,hx450_1,hx450_2⟩:=at_T51 HR0.out x8_1 p450 q450
        cases e450
        replace hx450_0:=(HB.out.cell (wl_ w _ hx450_0)).trans hx450_0
        replace hx450_1:=(HB.out.cell (wl_ w _ hx450_1)).trans hx450_1
        replace hx450_2:=(HB.out.cell (wl_ w _ hx450_2)).trans hx450_2
        replace p450:=eq_true p450
        replace q450:=eq_true q450
        go_upto_region 8 with (first|(go_at_call 88;(with_reducible refine (spec_l7Other.calls ((rd_T51 l0 x8_1).f0) ((rd_T51 l0 x8_1).f1) ((rd_T51 l0 x8_1).f2) a2 t451 _ A9.out).mono ?_);rintro e w11 ⟨rfl,hb⟩;have n0_:=mk_ (st_ (by repeat (first|(with_reducible first|exact HB.out|apply ba_|apply bn_|apply bd_)|exact HB.out)) hb);clear HB;have HB:=n0_;clear n0_;(try clear hb);(try clear hb2);(try clear hk);(try clear hi)))
        repeat (go_quiet (first|(go_at_call 88;(with_reducible refine (spec_l7Other.calls ((rd_T51 l0 x8_1).f0) ((rd_T51 l0 x8_1).f1) ((rd_T51 l0 x8_1).f2) a2 t451 _ A9.out).mono ?_);rintro e w11 ⟨rfl,hb⟩;have n0_:=mk_ (st_ (by repeat (first|(with_reducible first|exact HB.out|apply ba_|apply bn_|apply bd_)|exact HB.out)) hb);clear HB;have HB:=n0_;clear n0_;(try clear hb);(try clear hb2);(try clear hk);(try clear hi)));go_upto_region 8 with (first|(go_at_call 88;(with_reducible refine (spec_l7Other.calls ((rd_T51 l0 x8_1).f0) ((rd_T51 l0 x8_1).f1) ((rd_T51 l0 x8_1).f2) a2 t451 _ A9.out).mono ?_);rintro e w11 ⟨rfl,hb⟩;have n0_:=mk_ (st_ (by repeat (first|(with_reducible first|exact HB.out|apply ba_|apply bn_|apply bd_)|exact HB.out)) hb);clear HB;have HB:=n0_;clear n0_;(try clear hb);(try clear hb2);(try clear hk);(try clear hi))))
        (try simp only [Act.put,List.setIfInBounds_toArray,List.set_cons_zero,List.set_cons_succ])
        go_cut [46] (fun v46 wc => ∃ (kq : Nat) (x46_9 : Bool),v46 = .bool x46_9 ∧ Aside0 (spec_l7Up.j1 kq l0 l1 a2 x7_1 x8_1 t451 x46_9 = some r) ∧ Aside0 (kq ≤ k1) ∧ Aside0 (Below w.heap.size w wc))
        case first =>
         have H:=HC10.out
         clear HC10
         by_cases c12 : t451 < 0
         ·rw [if_pos c12] at H
          have c12b0 : decide (t451 < 0) = true:=decide_eq_true c12
          clear c12
          (first|rw [c12b0]|(simp only [i64_w,i32_w];rw [c12b0])|skip)
          have H':=mk_ H
          clear H
          go_wp2
          repeat (go_quiet (fail);try go_wp2)
          go_meet
          case rel => exact ⟨_,(true),(by first|rfl|(simp;done)|(simp [*];done)),H',⟨by have:=HK1.out;first|omega|exact Nat.le_refl _⟩,⟨by repeat (first|(with_reducible first|exact HB.out|apply ba_|apply bn_|apply bd_)|exact HB.out)⟩⟩
         ·rw [if_neg c12] at H
          have c12b0 : decide (t451 < 0) = false:=decide_eq_false c12
          clear c12
          (first|rw [c12b0]|(simp only [i64_w,i32_w];rw [c12b0])|skip)
          by_cases c13 : 0 ≤ t451
          ·rw [if_pos c13] at H
           have c13b0 : decide (0 ≤ t451) = true:=decide_eq_true c13
           clear c13
           by_cases c14 : t451 < (l1.length : Int)
           ·rw [if_pos c14] at H
            have c14b0 : decide (t451 < (l1.length : Int)) = true:=decide_eq_true c14
            clear c14
            by_cases c15 : 0 ≤ a2
            ·rw [if_pos c15] at H
             have c15b0 : decide (0 ≤ a2) = true:=decide_eq_true c15
             clear c15
             by_cases c16 : a2 < (l1.length : Int)
             ·rw [if_pos c16] at H
              have c16b0 : decide (a2 < (l1.length : Int)) = true:=decide_eq_true c16
              clear c16
              have H':=mk_ H
              clear H
              have p452 : 0 ≤ (t451 : Int):=od_ (by first|(with_reducible assumption)|assumption)
              have q452 : t451 < (l1.length : Int):=od_ (by first|(with_reducible assumption)|assumption)
              obtain ⟨ad452,e452,hx452_0⟩:=Kd.at_int HR1.out t451 p452 q452
              obtain rfl : ad449 = ad452:=(by injection e452)
              replace hx452_0:=(HB.out.cell (wl_ w _ hx452_0)).trans hx452_0
              replace p452:=eq_true p452
              replace q452:=eq_true q452
              have p453 : 0 ≤ (x8_1 : Int):=od_ (by first|(with_reducible assumption)|assumption)
              have q453 : x8_1 < (l0.length : Int):=od_ (by first|(with_reducible assumption)|assumption)
              obtain ⟨ad453,e453,hx453_0,hx453_1,hx453_2⟩:=at_T51 HR0.out x8_1 p453 q453
              obtain rfl : ad450 = ad453:=(by injection e453)
              replace hx453_0:=(HB.out.cell (wl_ w _ hx453_0)).trans hx453_0
              replace hx453_1:=(HB.out.cell (wl_ w _ hx453_1)).trans hx453_1
              replace hx453_2:=(HB.out.cell (wl_ w _ hx453_2)).trans hx453_2
              replace p453:=eq_true p453
              replace q453:=eq_true q453
              have p454 : 0 ≤ (a2 : Int):=od_ (by first|(with_reducible assumption)|assumption)
              have q454 : a2 < (l1.length : Int):=od_ (by first|(with_reducible assumption)|assumption)
              obtain ⟨ad454,e454,hx454_0⟩:=Kd.at_int HR1.out a2 p454 q454
              obtain rfl : ad449 = ad454:=(by injection e454)
              replace hx454_0:=(HB.out.cell (wl_ w _ hx454_0)).trans hx454_0
              replace p454:=eq_true p454
              replace q454:=eq_true q454
              go_wp2
              repeat (go_quiet (fail);try go_wp2)
              go_meet
              case rel => exact ⟨_,(((wrap64 ((rd l1 t451) + ((rd_T51 l0 x8_1).f2))) != (rd l1 a2))),(by first|rfl|(simp;done)|(simp [*];done)),H',⟨by have:=HK1.out;first|omega|exact Nat.le_refl _⟩,⟨by repeat (first|(with_reducible first|exact HB.out|apply ba_|apply bn_|apply bd_)|exact HB.out)⟩⟩
             ·rw [if_neg c16] at H
              exact absurd H (by simp)
            ·rw [if_neg c15] at H
             exact absurd H (by simp)
           ·rw [if_neg c14] at H
            exact absurd H (by simp)
          ·rw [if_neg c13] at H
           exact absurd H (by simp)
        case rest =>
         clear HC10
         try clear c1
         try clear p2
         try clear c4
         try clear c4b0
         try clear p4
         try clear q4
         try clear hx4
         try clear c5
         try clear c5b0
         try clear c6
         try clear c6b0
         try clear c6b1
         try clear p6
         try clear c7
         try clear c7b0
         try clear c8
         try clear c8b0
         try clear c12
         try clear c12b0
         try clear c13
         try clear c13b0
         try clear c14
         try clear c14b0
         try clear c15
         try clear c15b0
         try clear c16
         try clear c16b0
         try clear hx449_0
         try clear hx450_0
         try clear hx450_1
         try clear hx450_2
         try clear hx452_0
         try clear hx453_0
         try clear hx453_1
         try clear hx453_2
         try clear hx454_0
         try clear p2
         try clear p4
         try clear p449
         try clear p450
         try clear p452
         try clear p453
         try clear p454
         try clear q4
         try clear q449
         try clear q450
         try clear q452
         try clear q453
         try clear q454
         obtain ⟨kq,x46_9,rfl,HA,HJ9,HB⟩:=hcut
         cases kq with
         | zero => exact absurd HA.out (by simp [spec_l7Up.j1])
         | succ kj9 =>
          have H:=HA.out
          clear HA
          simp only [spec_l7Up.j1] at H
          by_cases c17 : x46_9 = true
          ·subst c17
           have H1 : (spec_l7Up.l0 kj9 l0 l1 a2 x7_1 (wrap64 (x8_1 + 1))) = some r:=by rw [if_pos rfl] at H;exact H
           clear H
           have H:=H1
           clear H1
           have H':=mk_ H
           clear H
           go_wp2
           repeat (go_quiet (fail);try go_wp2)
           go_roundg kj9
           case measure => have:=HK1.out;have:=HJ9.out;omega
           case rel => exact ⟨(x7_1),(wrap64 (x8_1 + 1)),(by first|rfl|(simp;done)|(simp [*];done)),(by first|rfl|(simp;done)|(simp [*];done)),H',⟨by have:=HK1.out;have:=HJ9.out;omega⟩,⟨by repeat (first|(with_reducible first|exact HB.out|apply ba_|apply bn_|apply bd_)|exact HB.out)⟩⟩
          ·replace c17:=Bool.eq_false_iff.mpr c17
           subst c17
           have H1 : (if x7_1 < 0 then (spec_l7Up.l0 kj9 l0 l1 a2 x8_1 (wrap64 (x8_1 + 1))) else (if 0 ≤ x7_1 then (if x7_1 < (l0.length : Int) then ((spec_l7Other.f ((rd_T51 l0 x7_1).f0) ((rd_T51 l0 x7_1).f1) ((rd_T51 l0 x7_1).f2) a2).bind fun t456 => (if t451 < t456 then (spec_l7Up.l0 kj9 l0 l1 a2 x8_1 (wrap64 (x8_1 + 1))) else (spec_l7Up.l0 kj9 l0 l1 a2 x7_1 (wrap64 (x8_1 + 1))))) else (none)) else (none))) = some r:=by rw [if_neg (show ¬ (false = true) by decide)] at H;exact H
           clear H
           have H:=H1
           clear H1
           by_cases c18 : x7_1 < 0
           ·rw [if_pos c18] at H
            have c18b0 : decide (x7_1 < 0) = true:=decide_eq_true c18
            clear c18
            have H':=mk_ H
            clear H
            go_wp2
            repeat (go_quiet (fail);try go_wp2)
            go_roundg kj9
            case measure => have:=HK1.out;have:=HJ9.out;omega
            case rel => exact ⟨(x8_1),(wrap64 (x8_1 + 1)),(by first|rfl|(simp;done)|(simp [*];done)),(by first|rfl|(simp;done)|(simp [*];done)),H',⟨by have:=HK1.out;have:=HJ9.out;omega⟩,⟨by repeat (first|(with_reducible first|exact HB.out|apply ba_|apply bn_|apply bd_)|exact HB.out)⟩⟩
           ·rw [if_neg c18] at H
            have c18b0 : decide (x7_1 < 0) = false:=decide_eq_false c18
            clear c18
            by_cases c19 : 0 ≤ x7_1
            ·rw [if_pos c19] at H
             have c19b0 : decide (0 ≤ x7_1) = true:=decide_eq_true c19
             clear c19
             by_cases c20 : x7_1 < (l0.length : Int)
             ·rw [if_pos c20] at H
              have c20b0 : decide (x7_1 < (l0.length : Int)) = true:=decide_eq_true c20
              clear c20
              replace H:=Option.bind_eq_some_iff.mp H
              obtain ⟨t456,A210,H⟩:=H
              replace H : (if t451 < t456 then (spec_l7Up.l0 kj9 l0 l1 a2 x8_1 (wrap64 (x8_1 + 1))) else (spec_l7Up.l0 kj9 l0 l1 a2 x7_1 (wrap64 (x8_1 + 1)))) = some r:=H
              have A21:=mk_ A210
              clear A210
              by_cases c22 : t451 < t456
              ·rw [if_pos c22] at H
               have c22b0 : decide (t451 < t456) = true:=decide_eq_true c22
               clear c22
               have H':=mk_ H
               clear H
               have p455 : 0 ≤ (x7_1 : Int):=od_ (by first|(with_reducible assumption)|assumption)
               have q455 : x7_1 < (l0.length : Int):=od_ (by first|(with_reducible assumption)|assumption)
               obtain ⟨ad455,e455,hx455_0,hx455_1,hx455_2⟩:=at_T51 HR0.out x7_1 p455 q455
               obtain rfl : ad450 = ad455:=(by injection e455)
               replace hx455_0:=(HB.out.cell (wl_ w _ hx455_0)).trans hx455_0
               replace hx455_1:=(HB.out.cell (wl_ w _ hx455_1)).trans hx455_1
               replace hx455_2:=(HB.out.cell (wl_ w _ hx455_2)).trans hx455_2
               replace p455:=eq_true p455
               replace q455:=eq_true q455
               go_wp2_with (first|(go_at_call 88;(with_reducible refine (spec_l7Other.calls ((rd_T51 l0 x7_1).f0) ((rd_T51 l0 x7_1).f1) ((rd_T51 l0 x7_1).f2) a2 t456 _ A21.out).mono ?_);rintro e w23 ⟨rfl,hb⟩;have n0_:=mk_ (st_ (by repeat (first|(with_reducible first|exact HB.out|apply ba_|apply bn_|apply bd_)|exact HB.out)) hb);clear HB;have HB:=n0_;clear n0_;(try clear hb);(try clear hb2);(try clear hk);(try clear hi)))
               repeat (go_quiet (first|(go_at_call 88;(with_reducible refine (spec_l7Other.calls ((rd_T51 l0 x7_1).f0) ((rd_T51 l0 x7_1).f1) ((rd_T51 l0 x7_1).f2) a2 t456 _ A21.out).mono ?_);rintro e w23 ⟨rfl,hb⟩;have n0_:=mk_ (st_ (by repeat (first|(with_reducible first|exact HB.out|apply ba_|apply bn_|apply bd_)|exact HB.out)) hb);clear HB;have HB:=n0_;clear n0_;(try clear hb);(try clear hb2);(try clear hk);(try clear hi)));try go_wp2_with (first|(go_at_call 88;(with_reducible refine (spec_l7Other.calls ((rd_T51 l0 x7_1).f0) ((rd_T51 l0 x7_1).f1) ((rd_T51 l0 x7_1).f2) a2 t456 _ A21.out).mono ?_);rintro e w23 ⟨rfl,hb⟩;have n0_:=mk_ (st_ (by repeat (first|(with_reducible first|exact HB.out|apply ba_|apply bn_|apply bd_)|exact HB.out)) hb);clear HB;have HB:=n0_;clear n0_;(try clear hb);(try clear hb2);(try clear hk);(try clear hi))))
               go_roundg kj9
               case measure => have:=HK1.out;have:=HJ9.out;omega
               case rel => exact ⟨(x8_1),(wrap64 (x8_1 + 1)),(by first|rfl|(simp;done)|(simp [*];done)),(by first|rfl|(simp;done)|(simp [*];done)),H',⟨by have:=HK1.out;have:=HJ9.out;omega⟩,⟨by repeat (first|(with_reducible first|exact HB.out|apply ba_|apply bn_|apply bd_)|exact HB.out)⟩⟩
              ·rw [if_neg c22] at H
               have c22b0 : decide (t451 < t456) = false:=decide_eq_false c22
               clear c22
               have H':=mk_ H
               clear H
               have p455 : 0 ≤ (x7_1 : Int):=od_ (by first|(with_reducible assumption)|assumption)
               have q455 : x7_1 < (l0.length : Int):=od_ (by first|(with_reducible assumption)|assumption)
               obtain ⟨ad455,e455,hx455_0,hx455_1,hx455_2⟩:=at_T51 HR0.out x7_1 p455 q455
               obtain rfl : ad450 = ad455:=(by injection e455)
               replace hx455_0:=(HB.out.cell (wl_ w _ hx455_0)).trans hx455_0
               replace hx455_1:=(HB.out.cell (wl_ w _ hx455_1)).trans hx455_1
               replace hx455_2:=(HB.out.cell (wl_ w _ hx455_2)).trans hx455_2
               replace p455:=eq_true p455
               replace q455:=eq_true q455
               go_wp2_with (first|(go_at_call 88;(with_reducible refine (spec_l7Other.calls ((rd_T51 l0 x7_1).f0) ((rd_T51 l0 x7_1).f1) ((rd_T51 l0 x7_1).f2) a2 t456 _ A21.out).mono ?_);rintro e w24 ⟨rfl,hb⟩;have n0_:=mk_ (st_ (by repeat (first|(with_reducible first|exact HB.out|apply ba_|apply bn_|apply bd_)|exact HB.out)) hb);clear HB;have HB:=n0_;clear n0_;(try clear hb);(try clear hb2);(try clear hk);(try clear hi)))
               repeat (go_quiet (first|(go_at_call 88;(with_reducible refine (spec_l7Other.calls ((rd_T51 l0 x7_1).f0) ((rd_T51 l0 x7_1).f1) ((rd_T51 l0 x7_1).f2) a2 t456 _ A21.out).mono ?_);rintro e w24 ⟨rfl,hb⟩;have n0_:=mk_ (st_ (by repeat (first|(with_reducible first|exact HB.out|apply ba_|apply bn_|apply bd_)|exact HB.out)) hb);clear HB;have HB:=n0_;clear n0_;(try clear hb);(try clear hb2);(try clear hk);(try clear hi)));try go_wp2_with (first|(go_at_call 88;(with_reducible refine (spec_l7Other.calls ((rd_T51 l0 x7_1).f0) ((rd_T51 l0 x7_1).f1) ((rd_T51 l0 x7_1).f2) a2 t456 _ A21.out).mono ?_);rintro e w24 ⟨rfl,hb⟩;have n0_:=mk_ (st_ (by repeat (first|(with_reducible first|exact HB.out|apply ba_|apply bn_|apply bd_)|exact HB.out)) hb);clear HB;have HB:=n0_;clear n0_;(try clear hb);(try clear hb2);(try clear hk);(try clear hi))))
               go_roundg kj9
               case measure => have:=HK1.out;have:=HJ9.out;omega
               case rel => exact ⟨(x7_1),(wrap64 (x8_1 + 1)),(by first|rfl|(simp;done)|(simp [*];done)),(by first|rfl|(simp;done)|(simp [*];done)),H',⟨by have:=HK1.out;have:=HJ9.out;omega⟩,⟨by repeat (first|(with_reducible first|exact HB.out|apply ba_|apply bn_|apply bd_)|exact HB.out)⟩⟩
             ·rw [if_neg c20] at H
              exact absurd H (by simp)
            ·rw [if_neg c19] at H
             exact absurd H (by simp)
       ·rw [if_neg c8] at H
        exact absurd H (by simp)
      ·rw [if_neg c7] at H
       have c7b0 : decide (x8_1 < (l0.length : Int)) = false:=decide_eq_false c7
       clear c7
       obtain rfl:=Option.some.inj H
       go_wp2
       repeat (go_quiet (fail);try go_wp2)
       go_ret
       exact ⟨by first|rfl|(simp [errW_none,errW_some] <;> rfl)|(simp [*,errW_none,errW_some] <;> rfl),by repeat (first|(with_reducible first|exact HB.out|apply ba_|apply bn_|apply bd_)|exact HB.out)⟩
  ·rw [if_neg c5] at H
   exact absurd H (by simp)
 ·rw [if_neg c4] at H
  exact absurd H (by simp)

/-! ### spec_TreeOf: function 65 -/
mutual
def spec_TreeOf.l0 : Nat → Int → List (S51) → List Int → List Int → Int → Option (List Int)
 | 0,_,_,_,_,_ => none
 | k + 1,x0,x1,x5,x6,x7 => if x7 < (x1.length : Int) then (spec_TreeOf.l1 k x0 x1 x5 x6 x7 0) else (some x5)
def spec_TreeOf.l1 : Nat → Int → List (S51) → List Int → List Int → Int → Int → Option (List Int)
 | 0,_,_,_,_,_,_ => none
 | k + 1,x0,x1,x5,x6,x7,x8 => if x8 < x0 then ((spec_l7Up.f k x1 x6 x8).bind fun t464 => (if t464 = x7 then (if x5.length < 17592186044416 then (spec_TreeOf.l1 k x0 x1 (x5 ++ [x7]) x6 x7 (wrap64 (x8 + 1))) else (none)) else (spec_TreeOf.l1 k x0 x1 x5 x6 x7 (wrap64 (x8 + 1))))) else (spec_TreeOf.l0 k x0 x1 x5 x6 (wrap64 (x7 + 1)))
end
def spec_TreeOf.f (k : Nat) (a0 : Int) (l1 : List (S51)) : Option (List Int):=(some (([] : List Int) : List Int)).bind fun y457 => ((spec_CablesValid.f k a0 l1).bind fun t460 => (if t460 = true then ((spec_l7Costs.f k a0 l1).bind fun t461 => (spec_TreeOf.l0 k a0 l1 y457 t461 0)) else (some y457)))
theorem spec_TreeOf.mono_l : ∀ k,(∀ y0 y1 y2 y3 y4,LeO (spec_TreeOf.l0 k y0 y1 y2 y3 y4) (spec_TreeOf.l0 (k + 1) y0 y1 y2 y3 y4)) ∧ (∀ y0 y1 y2 y3 y4 y5,LeO (spec_TreeOf.l1 k y0 y1 y2 y3 y4 y5) (spec_TreeOf.l1 (k + 1) y0 y1 y2 y3 y4 y5))
 | 0 => ⟨fun _ _ _ _ _ r h => by simp [spec_TreeOf.l0] at h,fun _ _ _ _ _ _ r h => by simp [spec_TreeOf.l1] at h⟩
 | k + 1 => by
  obtain ⟨ih0,ih1⟩:=spec_TreeOf.mono_l k
  refine ⟨?_,?_⟩
  ·intro y0 y1 y2 y3 y4
   unfold spec_TreeOf.l0
   repeat' first
   | (with_reducible exact ih0 _ _ _ _ _)
   | (with_reducible exact ih1 _ _ _ _ _ _)
   | (with_reducible exact spec_CablesValid.mono _ _ _)
   | (with_reducible exact spec_l7Costs.mono _ _ _)
   | (with_reducible exact spec_l7Up.mono _ _ _ _)
   | (with_reducible exact LeO.refl _)
   | (with_reducible exact LeO.none _)
   | (with_reducible refine LeO.ite ?_ ?_)
   | (with_reducible refine LeO.bind ?_ (fun _ => ?_))
   | exact ih0 _ _ _ _ _
   | exact ih1 _ _ _ _ _ _
   | exact spec_CablesValid.mono _ _ _
   | exact spec_l7Costs.mono _ _ _
   | exact spec_l7Up.mono _ _ _ _
   | exact LeO.none _
   | refine LeO.ite ?_ ?_
   | refine LeO.bind ?_ (fun _ => ?_)
  ·intro y0 y1 y2 y3 y4 y5
   unfold spec_TreeOf.l1
   repeat' first
   | (with_reducible exact ih0 _ _ _ _ _)
   | (with_reducible exact ih1 _ _ _ _ _ _)
   | (with_reducible exact spec_CablesValid.mono _ _ _)
   | (with_reducible exact spec_l7Costs.mono _ _ _)
   | (with_reducible exact spec_l7Up.mono _ _ _ _)
   | (with_reducible exact LeO.refl _)
   | (with_reducible exact LeO.none _)
   | (with_reducible refine LeO.ite ?_ ?_)
   | (with_reducible refine LeO.bind ?_ (fun _ => ?_))
   | exact ih0 _ _ _ _ _
   | exact ih1 _ _ _ _ _ _
   | exact spec_CablesValid.mono _ _ _
   | exact spec_l7Costs.mono _ _ _
   | exact spec_l7Up.mono _ _ _ _
   | exact LeO.none _
   | refine LeO.ite ?_ ?_
   | refine LeO.bind ?_ (fun _ => ?_)
theorem spec_TreeOf.mono : ∀ a0 a1 k,LeO (spec_TreeOf.f k a0 a1) (spec_TreeOf.f (k + 1) a0 a1):=by
 intro a0 a1 k
 obtain ⟨ih0,ih1⟩:=spec_TreeOf.mono_l k
 unfold spec_TreeOf.f
 repeat' first
   | (with_reducible exact ih0 _ _ _ _ _)
   | (with_reducible exact ih1 _ _ _ _ _ _)
   | (with_reducible exact spec_CablesValid.mono _ _ _)
   | (with_reducible exact spec_l7Costs.mono _ _ _)
   | (with_reducible exact spec_l7Up.mono _ _ _ _)
   | (with_reducible exact LeO.refl _)
   | (with_reducible exact LeO.none _)
   | (with_reducible refine LeO.ite ?_ ?_)
   | (with_reducible refine LeO.bind ?_ (fun _ => ?_))
   | exact ih0 _ _ _ _ _
   | exact ih1 _ _ _ _ _ _
   | exact spec_CablesValid.mono _ _ _
   | exact spec_l7Costs.mono _ _ _
   | exact spec_l7Up.mono _ _ _ _
   | exact LeO.none _
   | refine LeO.ite ?_ ?_
   | refine LeO.bind ?_ (fun _ => ?_)
set_option maxHeartbeats 8000000 in
set_option maxRecDepth 100000 in
theorem spec_TreeOf.calls (k : Nat) (a0 : Int) (A1 : Option Addr) (c1 : Nat) (l1 : List (S51)) (r : List Int) (w : World) (hr1 : Kd.C k51 w A1 l1.length l1) (hc1 : l1.length ≤ c1) (h : spec_TreeOf.f k a0 l1 = some r) :
  Calls Try.prog 65 #[.int .i64 a0,.slice A1 l1.length c1] w fun e w' => ∃ v0_ : Value,e = .returned (v0_) ∧ Kd.R (Kd.int .i64) 3 w' w.heap.size (fun _ => True) v0_ r ∧ Below w.heap.size w w':=by
 have HR1:=mk_ hr1
 have HC1:=mk_ hc1
 clear hr1 hc1
 have HB:=mk_ (Below.refl w.heap.size w)
 have H : ((some (([] : List Int) : List Int)).bind fun y457 => ((spec_CablesValid.f k a0 l1).bind fun t460 => (if t460 = true then ((spec_l7Costs.f k a0 l1).bind fun t461 => (spec_TreeOf.l0 k a0 l1 y457 t461 0)) else (some y457)))) = some r:=h
 clear h
 obtain ⟨y457,hy457⟩ : ∃ y_ : List Int,y_ = (([] : List Int)):=⟨_,rfl⟩
 replace H : ((spec_CablesValid.f k a0 l1).bind fun t460 => (if t460 = true then ((spec_l7Costs.f k a0 l1).bind fun t461 => (spec_TreeOf.l0 k a0 l1 y457 t461 0)) else (some y457))) = some r:=by first|(rw [hy457];with_reducible exact H)|(have H2_:=(Option.bind_some _ _).symm.trans H;rw [hy457];with_reducible exact H2_)|(have H2_:=(Option.bind_some _ _).symm.trans H;with_reducible exact H2_)|with_reducible exact H|(rw [hy457];exact H)|exact H
 have Ny457:=mk_ hy457
 clear hy457
 replace H:=Option.bind_eq_some_iff.mp H
 obtain ⟨t460,A30,H⟩:=H
 replace H : (if t460 = true then ((spec_l7Costs.f k a0 l1).bind fun t461 => (spec_TreeOf.l0 k a0 l1 y457 t461 0)) else (some y457)) = some r:=H
 have A3:=mk_ A30
 clear A30
 by_cases c4 : t460 = true
 ·subst c4
  have H1 : ((spec_l7Costs.f k a0 l1).bind fun t461 => (spec_TreeOf.l0 k a0 l1 y457 t461 0)) = some r:=by rw [if_pos rfl] at H;exact H
  clear H
  have H:=H1
  clear H1
  replace H:=Option.bind_eq_some_iff.mp H
  obtain ⟨t461,A50,H⟩:=H
  replace H : (spec_TreeOf.l0 k a0 l1 y457 t461 0) = some r:=H
  have A5:=mk_ A50
  clear A50
  have H':=mk_ H
  clear H
  go_enter Try.func65,Try.ntmps65
  go_wp2_with (first|((with_reducible refine gate_dst (N:=9) rfl ?_);refine Kd.R_lit (Kd.int .i64) _ 3 ?hg (N:=9) ?hd (xs:=([] : List Int)) (inner:=[]) (ok:=fun _ => True) (okp:=fun _ => True) ?hr ?hp (fun _ hk => hk) trivial (Below.refl _ _) (Nat.le_refl _) (by simp) ?_;(case hd => rfl);(case hg => rfl);(case hr => first|(go_simp;done)|(go_simp;rfl));(case hp => exact (Reps.none _ _));intro v458 w6 ho7 hb hg_ hnew_;clear hg_ hnew_;(first|rw [← Ny457.out] at ho7|(simp only [Int.reduceToNat] at ho7;rw [← Ny457.out] at ho7));have n0_:=mk_ (Kd.R_lower ho7 (bz_ (by repeat (first|(with_reducible first|exact HB.out|apply ba_|apply bn_|apply bd_)|exact HB.out))));have n1_:=mk_ (st_ (by repeat (first|(with_reducible first|exact HB.out|apply ba_|apply bn_|apply bd_)|exact HB.out)) hb);clear HB;have HO459:=n0_;have HB:=n1_;clear n0_ n1_;clear hb ho7)|((with_reducible refine gate_callee (f:=42) rfl ?_);refine goesL_ (some 12) rfl rfl Try.func42 (by kernel_rfl) rfl #[.int .i64 a0,.slice A1 l1.length c1] rfl (by (try simp only [List.map_toArray,List.map_cons,List.map_nil]);first|done|rfl|(simp only [List.length_drop,List.length_take];rfl)) ?_;(with_reducible refine (spec_CablesValid.calls k a0 _ _ l1 true _ ?side1 ?side2 A3.out).mono ?_);(case side1 => repeat (first|exact (cb_ HR1.out HB.out)|(with_reducible refine ca_ ?_ _)|(with_reducible refine cn_ ?_ _)|(with_reducible refine cd_ ?_)));(case side2 => exact HC1.out);rintro e w8 ⟨rfl,hb⟩;refine ⟨_,rfl,?_⟩;have n0_:=mk_ (rb_ (by (with_reducible repeat (first|apply ra_|apply rn_|apply rd_));exact HO459.out) hb);have n1_:=mk_ (st_ (by repeat (first|(with_reducible first|exact HB.out|apply ba_|apply bn_|apply bd_)|exact HB.out)) hb);clear HO459;clear HB;have HO459:=n0_;have HB:=n1_;clear n0_ n1_;(try clear hb);(try clear hb2);(try clear hk);(try clear hi))|((with_reducible refine gate_callee (f:=85) rfl ?_);refine goesL_ (some 17) rfl rfl Try.func85 (by kernel_rfl) rfl #[.int .i64 a0,.slice A1 l1.length c1] rfl (by (try simp only [List.map_toArray,List.map_cons,List.map_nil]);first|done|rfl|(simp only [List.length_drop,List.length_take];rfl)) ?_;(with_reducible refine (spec_l7Costs.calls k a0 _ _ l1 t461 _ ?side1 ?side2 A5.out).mono ?_);(case side1 => repeat (first|exact (cb_ HR1.out HB.out)|(with_reducible refine ca_ ?_ _)|(with_reducible refine cn_ ?_ _)|(with_reducible refine cd_ ?_)));(case side2 => exact HC1.out);rintro e w9 ⟨v462,rfl,ho0,hb⟩;refine ⟨_,rfl,?_⟩;have n0_:=mk_ (re_ (by (with_reducible repeat (first|apply ra_|apply rn_|apply rd_));exact HO459.out) (Kd.R_base ho0) hb);have n1_:=mk_ (Kd.R_lower (Kd.R_new' ho0 (Kd.R_lt (by (with_reducible repeat (first|apply ra_|apply rn_|apply rd_));exact HO459.out))) (bz_ (by repeat (first|(with_reducible first|exact HB.out|apply ba_|apply bn_|apply bd_)|exact HB.out))));have n2_:=mk_ (st_ (by repeat (first|(with_reducible first|exact HB.out|apply ba_|apply bn_|apply bd_)|exact HB.out)) hb);clear HO459;clear HB;have HO459:=n0_;have HO463:=n1_;have HB:=n2_;clear n0_ n1_ n2_;(try clear hb);(try clear hb2);(try clear hk);(try clear hi);(try clear ho0)))
  go_loopg [5,7] k (fun kq v5 v7 w' => ∃ (x5_1 : List Int) (x7_1 : Int),v7 = .int .i64 x7_1 ∧ Aside0 (spec_TreeOf.l0 kq a0 l1 x5_1 t461 x7_1 = some r) ∧ Aside0 (kq ≤ k) ∧ Aside0 (Kd.R (Kd.int .i64) 3 w' w.heap.size (fun k_ => some k_ ≠ (v462 : Value).ownBlock) v5 x5_1) ∧ Aside0 (Kd.R (Kd.int .i64) 3 w' w.heap.size (fun k_ => some k_ ≠ (v5 : Value).ownBlock) v462 t461) ∧ Aside0 (Below w.heap.size w w'))
  case atStart => exact ⟨(y457),(0),(by first|rfl|(simp;done)|(simp [*];done)),H',⟨Nat.le_refl _⟩,⟨by (with_reducible repeat (first|apply ra_|apply rn_|apply rd_));exact rm_ HO459.out (fun _ hk => hk.2)⟩,⟨by (with_reducible repeat (first|apply ra_|apply rn_|apply rd_));exact rm_ HO463.out (fun _ hk => hk.2)⟩,⟨by repeat (first|(with_reducible first|exact HB.out|apply ba_|apply bn_|apply bd_)|exact HB.out)⟩⟩
  case round =>
   clear H'
   try clear c1
   try clear p2
   try clear c4
   try clear c6
   try clear c8
   obtain ⟨x5_1,x7_1,rfl,HA,HK1,HO_5,HO_6,HB⟩:=hrel
   cases gk with
   | zero => exact absurd HA.out (by simp [spec_TreeOf.l0])
   | succ k1 =>
    have H:=HA.out
    clear HA
    simp only [spec_TreeOf.l0] at H
    by_cases c10 : x7_1 < (l1.length : Int)
    ·rw [if_pos c10] at H
     have c10b0 : decide (x7_1 < (l1.length : Int)) = true:=decide_eq_true c10
     clear c10
     have H':=mk_ H
     clear H
     go_wp2
     go_loopg [5,8] k1 (fun kq v5 v8 w' => ∃ (x5_2 : List Int) (x8_2 : Int),v8 = .int .i64 x8_2 ∧ Aside0 (spec_TreeOf.l1 kq a0 l1 x5_2 t461 x7_1 x8_2 = some r) ∧ Aside0 (kq ≤ k1) ∧ Aside0 (Kd.R (Kd.int .i64) 3 w' w.heap.size (fun k_ => some k_ ≠ (v462 : Value).ownBlock) v5 x5_2) ∧ Aside0 (Kd.R (Kd.int .i64) 3 w' w.heap.size (fun k_ => some k_ ≠ (v5 : Value).ownBlock) v462 t461) ∧ Aside0 (Below w.heap.size w w'))
     case atStart => exact ⟨(x5_1),(0),(by first|rfl|(simp;done)|(simp [*];done)),H',⟨Nat.le_refl _⟩,⟨by (with_reducible repeat (first|apply ra_|apply rn_|apply rd_));exact HO_5.out⟩,⟨by (with_reducible repeat (first|apply ra_|apply rn_|apply rd_));exact HO_6.out⟩,⟨by repeat (first|(with_reducible first|exact HB.out|apply ba_|apply bn_|apply bd_)|exact HB.out)⟩⟩
     case round =>
      clear H'
      try clear c1
      try clear p2
      try clear c4
      try clear c6
      try clear c8
      try clear c10
      try clear c10b0
      try clear p2
      obtain ⟨x5_2,x8_2,rfl,HA,HK2,HO_5,HO_6,HB⟩:=hrel
      cases gk with
      | zero => exact absurd HA.out (by simp [spec_TreeOf.l1])
      | succ k2 =>
       have H:=HA.out
       clear HA
       simp only [spec_TreeOf.l1] at H
       by_cases c11 : x8_2 < a0
       ·rw [if_pos c11] at H
        have c11b0 : decide (x8_2 < a0) = true:=decide_eq_true c11
        clear c11
        replace H:=Option.bind_eq_some_iff.mp H
        obtain ⟨t464,A120,H⟩:=H
        replace H : (if t464 = x7_1 then (if x5_2.length < 17592186044416 then (spec_TreeOf.l1 k2 a0 l1 (x5_2 ++ [x7_1]) t461 x7_1 (wrap64 (x8_2 + 1))) else (none)) else (spec_TreeOf.l1 k2 a0 l1 x5_2 t461 x7_1 (wrap64 (x8_2 + 1)))) = some r:=H
        have A12:=mk_ A120
        clear A120
        by_cases c13 : t464 = x7_1
        ·rw [if_pos c13] at H
         have c13b0 : (t464 == x7_1) = true:=beq_iff_eq.mpr c13
         have c13b1 : (t464 != x7_1) = false:=bne_eq_false_iff_eq.mpr c13
         clear c13
         by_cases c14 : x5_2.length < 17592186044416
         ·rw [if_pos c14] at H
          have LMc14:=mk_ c14
          clear c14
          obtain ⟨y465,hy465⟩ : ∃ y_ : List Int,y_ = (x5_2 ++ [x7_1]):=⟨_,rfl⟩
          replace H : (spec_TreeOf.l1 k2 a0 l1 y465 t461 x7_1 (wrap64 (x8_2 + 1))) = some r:=by first|(rw [hy465];with_reducible exact H)|(have H2_:=(Option.bind_some _ _).symm.trans H;rw [hy465];with_reducible exact H2_)|(have H2_:=(Option.bind_some _ _).symm.trans H;with_reducible exact H2_)|with_reducible exact H|(rw [hy465];exact H)|exact H
          have Ny465:=mk_ hy465
          clear hy465
          have H':=mk_ H
          clear H
          obtain ⟨Ao15,co15,eo15⟩:=Kd.R_slice HO_6.out
          subst eo15
          go_wp2_with (first|((with_reducible refine gate_callee (f:=86) rfl ?_);refine goesL_ (some 32) rfl rfl Try.func86 (by kernel_rfl) rfl #[.slice A1 l1.length c1,.slice Ao15 t461.length co15,.int .i64 x8_2] rfl (by (try simp only [List.map_toArray,List.map_cons,List.map_nil]);first|done|rfl|(simp only [List.length_drop,List.length_take];rfl)) ?_;(with_reducible refine (spec_l7Up.calls k2 _ _ l1 _ _ t461 x8_2 t464 _ ?side1 ?side2 ?side3 ?side4 A12.out).mono ?_);(case side1 => repeat (first|exact (cb_ HR1.out HB.out)|(with_reducible refine ca_ ?_ _)|(with_reducible refine cn_ ?_ _)|(with_reducible refine cd_ ?_)));(case side2 => exact HC1.out);(case side3 => repeat (first|exact (rr_ HO_6.out).2.2|(with_reducible refine ca_ ?_ _)|(with_reducible refine cn_ ?_ _)|(with_reducible refine cd_ ?_)));(case side4 => exact (rr_ HO_6.out).2.1);rintro e w16 ⟨rfl,hb⟩;refine ⟨_,rfl,?_⟩;have n0_:=mk_ (rb_ (by (with_reducible repeat (first|apply ra_|apply rn_|apply rd_));exact HO_5.out) hb);have n1_:=mk_ (rb_ (by (with_reducible repeat (first|apply ra_|apply rn_|apply rd_));exact HO_6.out) hb);have n2_:=mk_ (st_ (by repeat (first|(with_reducible first|exact HB.out|apply ba_|apply bn_|apply bd_)|exact HB.out)) hb);clear HO_5;clear HO_6;clear HB;have HO_5:=n0_;have HO_6:=n1_;have HB:=n2_;clear n0_ n1_ n2_;(try clear hb);(try clear hb2);(try clear hk);(try clear hi))|((with_reducible refine gate_builtin (b:=.append) (xs:=#[.tmp 35,.tmp 37]) rfl ?_);at_builtin;refine Kd.R_append (Kd.int .i64) (w0:=w) w.heap.size rfl (.tmp 35) (.tmp 37) 23 3 (.int .i64 0) 8 rfl Try.underlying23 info3 rfl (by decide) (by omega) u5 x5_2 x7_1 [.int .i64 x7_1] (fun k_ => some k_ ≠ (.slice Ao15 t461.length co15 : Value).ownBlock) (fun _ => False) rfl rfl ?aP (fun _ hk => hk.elim) ?aF ?aO ?aB ?aS ?aL ?_;(case aP => exact rfl);(case aB => exact (by repeat (first|(with_reducible first|exact HB.out|apply ba_|apply bn_|apply bd_)|exact HB.out)));(case aF => exact (fun k_ hk => Kd.fresh' (Kd.R_lt (by (with_reducible repeat (first|apply ra_|apply rn_|apply rd_));exact HO_6.out)) k_ hk));(case aO => exact (by (with_reducible repeat (first|apply ra_|apply rn_|apply rd_));exact HO_5.out));(case aS => exact (bz_ (by repeat (first|(with_reducible first|exact HB.out|apply ba_|apply bn_|apply bd_)|exact HB.out))));(case aL => have:=LMc14.out;omega);intro v466 w17 ho hb hg hat;rw [← Ny465.out] at ho;have n0_:=mk_ (Kd.R_after (ok:=(fun _ => True)) (by (with_reducible repeat (first|apply ra_|apply rn_|apply rd_));exact rm_ HO_6.out (fun _ hk => ⟨trivial,hk⟩)) hg hat);have n1_:=mk_ (hb);have n2_:=mk_ (ho);clear HO_6;clear HB;clear HO_5;have HO_6:=n0_;have HB:=n1_;have HO467:=n2_;clear n0_ n1_ n2_;clear ho hb hg hat))
          go_roundg k2
          case measure => have:=HK1.out;have:=HK2.out;omega
          case rel => exact ⟨(y465),(wrap64 (x8_2 + 1)),(by first|rfl|(simp;done)|(simp [*];done)),H',⟨by have:=HK1.out;have:=HK2.out;omega⟩,⟨by (with_reducible repeat (first|apply ra_|apply rn_|apply rd_));exact HO467.out⟩,⟨by (with_reducible repeat (first|apply ra_|apply rn_|apply rd_));exact rm_ HO_6.out (fun _ hk => hk.2)⟩,⟨by repeat (first|(with_reducible first|exact HB.out|apply ba_|apply bn_|apply bd_)|exact HB.out)⟩⟩
         ·rw [if_neg c14] at H
          exact absurd H (by simp)
        ·rw [if_neg c13] at H
         have c13b0 : (t464 == x7_1) = false:=beq_eq_false_iff_ne.mpr c13
         have c13b1 : (t464 != x7_1) = true:=bne_iff_ne.mpr c13
         have H':=mk_ H
         clear H
         obtain ⟨Ao18,co18,eo18⟩:=Kd.R_slice HO_6.out
         subst eo18
         go_wp2_with (first|((with_reducible refine gate_callee (f:=86) rfl ?_);refine goesL_ (some 32) rfl rfl Try.func86 (by kernel_rfl) rfl #[.slice A1 l1.length c1,.slice Ao18 t461.length co18,.int .i64 x8_2] rfl (by (try simp only [List.map_toArray,List.map_cons,List.map_nil]);first|done|rfl|(simp only [List.length_drop,List.length_take];rfl)) ?_;(with_reducible refine (spec_l7Up.calls k2 _ _ l1 _ _ t461 x8_2 t464 _ ?side1 ?side2 ?side3 ?side4 A12.out).mono ?_);(case side1 => repeat (first|exact (cb_ HR1.out HB.out)|(with_reducible refine ca_ ?_ _)|(with_reducible refine cn_ ?_ _)|(with_reducible refine cd_ ?_)));(case side2 => exact HC1.out);(case side3 => repeat (first|exact (rr_ HO_6.out).2.2|(with_reducible refine ca_ ?_ _)|(with_reducible refine cn_ ?_ _)|(with_reducible refine cd_ ?_)));(case side4 => exact (rr_ HO_6.out).2.1);rintro e w19 ⟨rfl,hb⟩;refine ⟨_,rfl,?_⟩;have n0_:=mk_ (rb_ (by (with_reducible repeat (first|apply ra_|apply rn_|apply rd_));exact HO_5.out) hb);have n1_:=mk_ (rb_ (by (with_reducible repeat (first|apply ra_|apply rn_|apply rd_));exact HO_6.out) hb);have n2_:=mk_ (st_ (by repeat (first|(with_reducible first|exact HB.out|apply ba_|apply bn_|apply bd_)|exact HB.out)) hb);clear HO_5;clear HO_6;clear HB;have HO_5:=n0_;have HO_6:=n1_;have HB:=n2_;clear n0_ n1_ n2_;(try clear hb);(try clear hb2);(try clear hk);(try clear hi)))
         go_roundg k2
         case measure => have:=HK1.out;have:=HK2.out;omega
         case rel => exact ⟨(x5_2),(wrap64 (x8_2 + 1)),(by first|rfl|(simp;done)|(simp [*];done)),H',⟨by have:=HK1.out;have:=HK2.out;omega⟩,⟨by (with_reducible repeat (first|apply ra_|apply rn_|apply rd_));exact HO_5.out⟩,⟨by (with_reducible repeat (first|apply ra_|apply rn_|apply rd_));exact HO_6.out⟩,⟨by repeat (first|(with_reducible first|exact HB.out|apply ba_|apply bn_|apply bd_)|exact HB.out)⟩⟩
       ·rw [if_neg c11] at H
        have c11b0 : decide (x8_2 < a0) = false:=decide_eq_false c11
        clear c11
        have H':=mk_ H
        clear H
        go_wp2
        go_roundg k2
        case measure => have:=HK1.out;have:=HK2.out;omega
        case rel => exact ⟨(x5_2),(wrap64 (x7_1 + 1)),(by first|rfl|(simp;done)|(simp [*];done)),H',⟨by have:=HK1.out;have:=HK2.out;omega⟩,⟨by (with_reducible repeat (first|apply ra_|apply rn_|apply rd_));exact HO_5.out⟩,⟨by (with_reducible repeat (first|apply ra_|apply rn_|apply rd_));exact HO_6.out⟩,⟨by repeat (first|(with_reducible first|exact HB.out|apply ba_|apply bn_|apply bd_)|exact HB.out)⟩⟩
    ·rw [if_neg c10] at H
     have c10b0 : decide (x7_1 < (l1.length : Int)) = false:=decide_eq_false c10
     clear c10
     obtain rfl:=Option.some.inj H
     go_wp2
     go_ret
     exact ⟨_,by first|rfl|(simp [errW_none,errW_some] <;> rfl)|(simp [*,errW_none,errW_some] <;> rfl),by (with_reducible repeat (first|apply ra_|apply rn_|apply rd_));exact rm_ HO_5.out (fun _ hk => trivial),by repeat (first|(with_reducible first|exact HB.out|apply ba_|apply bn_|apply bd_)|exact HB.out)⟩
 ·replace c4:=Bool.eq_false_iff.mpr c4
  subst c4
  have H1 : (some y457) = some r:=by rw [if_neg (show ¬ (false = true) by decide)] at H;exact H
  clear H
  have H:=H1
  clear H1
  obtain rfl:=Option.some.inj H
  go_enter Try.func65,Try.ntmps65
  go_wp2_with (first|((with_reducible refine gate_dst (N:=9) rfl ?_);refine Kd.R_lit (Kd.int .i64) _ 3 ?hg (N:=9) ?hd (xs:=([] : List Int)) (inner:=[]) (ok:=fun _ => True) (okp:=fun _ => True) ?hr ?hp (fun _ hk => hk) trivial (Below.refl _ _) (Nat.le_refl _) (by simp) ?_;(case hd => rfl);(case hg => rfl);(case hr => first|(go_simp;done)|(go_simp;rfl));(case hp => exact (Reps.none _ _));intro v458 w20 ho21 hb hg_ hnew_;clear hg_ hnew_;(first|rw [← Ny457.out] at ho21|(simp only [Int.reduceToNat] at ho21;rw [← Ny457.out] at ho21));have n0_:=mk_ (Kd.R_lower ho21 (bz_ (by repeat (first|(with_reducible first|exact HB.out|apply ba_|apply bn_|apply bd_)|exact HB.out))));have n1_:=mk_ (st_ (by repeat (first|(with_reducible first|exact HB.out|apply ba_|apply bn_|apply bd_)|exact HB.out)) hb);clear HB;have HO459:=n0_;have HB:=n1_;clear n0_ n1_;clear hb ho21)|((with_reducible refine gate_callee (f:=42) rfl ?_);refine goesL_ (some 12) rfl rfl Try.func42 (by kernel_rfl) rfl #[.int .i64 a0,.slice A1 l1.length c1] rfl (by (try simp only [List.map_toArray,List.map_cons,List.map_nil]);first|done|rfl|(simp only [List.length_drop,List.length_take];rfl)) ?_;(with_reducible refine (spec_CablesValid.calls k a0 _ _ l1 false _ ?side1 ?side2 A3.out).mono ?_);(case side1 => repeat (first|exact (cb_ HR1.out HB.out)|(with_reducible refine ca_ ?_ _)|(with_reducible refine cn_ ?_ _)|(with_reducible refine cd_ ?_)));(case side2 => exact HC1.out);rintro e w22 ⟨rfl,hb⟩;refine ⟨_,rfl,?_⟩;have n0_:=mk_ (rb_ (by (with_reducible repeat (first|apply ra_|apply rn_|apply rd_));exact HO459.out) hb);have n1_:=mk_ (st_ (by repeat (first|(with_reducible first|exact HB.out|apply ba_|apply bn_|apply bd_)|exact HB.out)) hb);clear HO459;clear HB;have HO459:=n0_;have HB:=n1_;clear n0_ n1_;(try clear hb);(try clear hb2);(try clear hk);(try clear hi)))
  go_ret
  exact ⟨_,by first|rfl|(simp [errW_none,errW_some] <;> rfl)|(simp [*,errW_none,errW_some] <;> rfl),by (with_reducible repeat (first|apply ra_|apply rn_|apply rd_));exact HO459.out,by repeat (first|(with_reducible first|exact HB.out|apply ba_|apply bn_|apply bd_)|exact HB.out)⟩

end Go.Proofs.Ytdamdcdjodmemaa.PAll
