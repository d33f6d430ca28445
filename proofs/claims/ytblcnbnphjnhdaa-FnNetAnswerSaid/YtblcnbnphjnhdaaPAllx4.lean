/- Proved here: contracts of functions of the given program, or lemmas on them, for the laws of this seat. Written by xprint.py, a program of this session, on the ground of the kit's print; parts by hand: wip/x/ext. -/
import Derived.Test.YtblcnbnphjnhdaaPAllx0
import Derived.Test.YtblcnbnphjnhdaaPAllx1
import Derived.Test.YtblcnbnphjnhdaaPAllx3
namespace Go.Proofs.Ytblcnbnphjnhdaa.PAll
open Go.RowKit Go.Proofs.YtblcnbnphjnhdaaW.PrintWords Go.Proofs.YtblcnbnphjnhdaaW.PrintLast Go.Proofs.YtblcnbnphjnhdaaW.PrintMore
attribute [local go_sem] max2_int min2_int max_two min_two max_three min_three max_four min_four   -- for this text's walks alone
set_option linter.unusedVariables false
set_option linter.unusedSimpArgs false
/-! ### spec_l7Root: function 97 -/
def spec_l7Root.l0 : Nat → List Bool → Int → Option (Int)
 | 0,_,_ => none
 | k + 1,x7,x8 => if 0 ≤ x8 then (if x8 < (x7.length : Int) then (if rdOf false x7 x8 = true then (some x8) else (spec_l7Root.l0 k x7 (wrap64 (x8 + 1)))) else (none)) else (none)
def spec_l7Root.f (k : Nat) (a0 : Int) (l1 : List (S83)) (a2 : Int) : Option (Int):=(spec_l7Joined.f k a0 l1 a2).bind fun t444 => (spec_l7Root.l0 k t444 0)
theorem spec_l7Root.mono_l : ∀ k,(∀ y0 y1,LeO (spec_l7Root.l0 k y0 y1) (spec_l7Root.l0 (k + 1) y0 y1))
 | 0 => fun _ _ r h => by simp [spec_l7Root.l0] at h
 | k + 1 => by
  have ih0:=spec_l7Root.mono_l k
  ·intro y0 y1
   unfold spec_l7Root.l0
   repeat' first
   | (with_reducible exact ih0 _ _)
   | (with_reducible exact spec_l7Joined.mono _ _ _ _)
   | (with_reducible exact LeO.refl _)
   | (with_reducible exact LeO.none _)
   | (with_reducible refine LeO.ite ?_ ?_)
   | (with_reducible refine LeO.bind ?_ (fun _ => ?_))
   | exact ih0 _ _
   | exact spec_l7Joined.mono _ _ _ _
   | exact LeO.none _
   | refine LeO.ite ?_ ?_
   | refine LeO.bind ?_ (fun _ => ?_)
theorem spec_l7Root.mono : ∀ a0 a1 a2 k,LeO (spec_l7Root.f k a0 a1 a2) (spec_l7Root.f (k + 1) a0 a1 a2):=by
 intro a0 a1 a2 k
 have ih0:=spec_l7Root.mono_l k
 unfold spec_l7Root.f
 repeat' first
   | (with_reducible exact ih0 _ _)
   | (with_reducible exact spec_l7Joined.mono _ _ _ _)
   | (with_reducible exact LeO.refl _)
   | (with_reducible exact LeO.none _)
   | (with_reducible refine LeO.ite ?_ ?_)
   | (with_reducible refine LeO.bind ?_ (fun _ => ?_))
   | exact ih0 _ _
   | exact spec_l7Joined.mono _ _ _ _
   | exact LeO.none _
   | refine LeO.ite ?_ ?_
   | refine LeO.bind ?_ (fun _ => ?_)
set_option maxHeartbeats 8000000 in
set_option maxRecDepth 100000 in
theorem spec_l7Root.calls (k : Nat) (a0 : Int) (A1 : Option Addr) (c1 : Nat) (l1 : List (S83)) (a2 : Int) (r : Int) (w : World) (hr1 : Kd.C k83 w A1 l1.length l1) (hc1 : l1.length ≤ c1) (h : spec_l7Root.f k a0 l1 a2 = some r) :
  Calls Try.prog 97 #[.int .i64 a0,.slice A1 l1.length c1,.int .i64 a2] w fun e w' => e = .returned (.int .i64 r) ∧ Below w.heap.size w w':=by
 have HR1:=mk_ hr1
 have HC1:=mk_ hc1
 clear hr1 hc1
 have HB:=mk_ (Below.refl w.heap.size w)
 have H : ((spec_l7Joined.f k a0 l1 a2).bind fun t444 => (spec_l7Root.l0 k t444 0)) = some r:=h
 clear h
 replace H:=Option.bind_eq_some_iff.mp H
 obtain ⟨t444,A40,H⟩:=H
 replace H : (spec_l7Root.l0 k t444 0) = some r:=H
 have A4:=mk_ A40
 clear A40
 have H':=mk_ H
 clear H
 go_enter Try.func97,Try.ntmps97
 go_wp2_with (first|((with_reducible refine gate_callee (f:=113) rfl ?_);refine goesL_ (some 12) rfl rfl Try.func113 (by kernel_rfl) rfl #[.int .i64 a0,.slice A1 l1.length c1,.int .i64 a2] rfl qm_ ?_;(with_reducible refine (spec_l7Joined.calls k a0 _ _ l1 a2 t444 _ ?side1 ?side2 A4.out).mono ?_);(case side1 => repeat (first|exact HR1.out|(with_reducible refine ca_ ?_ _)|(with_reducible refine cn_ ?_ _)|(with_reducible refine cd_ ?_)));(case side2 => exact HC1.out);rintro e w5 ⟨v445,rfl,ho0,hb⟩;refine ⟨_,rfl,?_⟩;have n0_:=mk_ (Kd.R_lower ho0 (bz_ (qb_ HB)));have n1_:=mk_ (st_ (qb_ HB) hb);clear HB;have HO446:=n0_;have HB:=n1_;clear n0_ n1_;(try clear hb);(try clear hb2);(try clear hk);(try clear hi);(try clear ho0)))
 go_loopg [8] k (fun kq v8 w' => ∃ (x8_1 : Int),v8 = .int .i64 x8_1 ∧ Aside0 (spec_l7Root.l0 kq t444 x8_1 = some r) ∧ Aside0 (kq ≤ k) ∧ Aside0 (Kd.R Kd.bool 4 w' w.heap.size (fun _ => True) v445 t444) ∧ Aside0 (Below w.heap.size w w'))
 case atStart => exact ⟨(0),qf_,H',⟨Nat.le_refl _⟩,⟨qr_ HO446⟩,⟨u1_ HB⟩⟩
 case round =>
  clear H'
  try clear c1
  try clear p2
  obtain ⟨x8_1,rfl,HA,HK1,HO_7,HB⟩:=hrel
  cases gk with
  | zero => exact absurd HA.out (by simp [spec_l7Root.l0])
  | succ k1 =>
   have H:=HA.out
   clear HA
   simp only [spec_l7Root.l0] at H
   by_cases c6 : 0 ≤ x8_1
   ·rw [if_pos c6] at H
    have c6b0 : decide (0 ≤ x8_1) = true:=decide_eq_true c6
    clear c6
    by_cases c7 : x8_1 < (t444.length : Int)
    ·rw [if_pos c7] at H
     have c7b0 : decide (x8_1 < (t444.length : Int)) = true:=decide_eq_true c7
     clear c7
     obtain ⟨bq8,hbq8⟩ : ∃ b_ : Bool,b_ = (rdOf false t444 x8_1):=⟨_,rfl⟩
     replace H : (if bq8 = true then (some x8_1) else (spec_l7Root.l0 k1 t444 (wrap64 (x8_1 + 1)))) = some r:=by rw [← hbq8] at H;exact H
     have Nbq8:=mk_ hbq8
     clear hbq8
     by_cases c9 : bq8 = true
     ·subst c9
      have H1 : (some x8_1) = some r:=by rw [if_pos rfl] at H;exact H
      clear H
      have H:=H1
      clear H1
      obtain rfl:=Option.some.inj H
      obtain ⟨Ao10,co10,eo10⟩:=Kd.R_slice HO_7.out
      subst eo10
      have p447 : 0 ≤ (x8_1 : Int):=od_ qa_
      have q447 : x8_1 < (t444.length : Int):=od_ qa_
      obtain ⟨ad447,e447,hx447_0⟩:=Kd.at_bool (rr_ HO_7.out).2.2 x8_1 p447 q447
      (try rw [← Nbq8.out] at hx447_0)
      cases e447
      replace p447:=eq_true p447
      replace q447:=eq_true q447
      go_wp2
      go_ret
      exact ⟨qe_,u1_ HB⟩
     ·replace c9:=Bool.eq_false_iff.mpr c9
      subst c9
      have H1 : (spec_l7Root.l0 k1 t444 (wrap64 (x8_1 + 1))) = some r:=by rw [if_neg (show ¬ (false = true) by decide)] at H;exact H
      clear H
      have H:=H1
      clear H1
      have H':=mk_ H
      clear H
      obtain ⟨Ao11,co11,eo11⟩:=Kd.R_slice HO_7.out
      subst eo11
      have p447 : 0 ≤ (x8_1 : Int):=od_ qa_
      have q447 : x8_1 < (t444.length : Int):=od_ qa_
      obtain ⟨ad447,e447,hx447_0⟩:=Kd.at_bool (rr_ HO_7.out).2.2 x8_1 p447 q447
      (try rw [← Nbq8.out] at hx447_0)
      cases e447
      replace p447:=eq_true p447
      replace q447:=eq_true q447
      go_wp2
      go_roundg k1
      case measure => have:=HK1.out;omega
      case rel => exact ⟨(wrap64 (x8_1 + 1)),qf_,H',⟨by have:=HK1.out;omega⟩,⟨qr_ HO_7⟩,⟨u1_ HB⟩⟩
    ·rw [if_neg c7] at H
     exact absurd H (by simp)
   ·rw [if_neg c6] at H
    exact absurd H (by simp)
/-! ### spec_l7Costs: function 80 -/
mutual
def spec_l7Costs.l0 : Nat → Int → List (S83) → List Int → Int → Option (List Int)
 | 0,_,_,_,_ => none
 | k + 1,x0,x1,x5,x6 => if x6 < x0 then ((spec_l7Root.f k x0 x1 x6).bind fun t451 => (if t451 = x6 then (if x5.length < 17592186044416 then (spec_l7Costs.l0 k x0 x1 (x5 ++ [0]) (wrap64 (x6 + 1))) else (none)) else (if x5.length < 17592186044416 then (spec_l7Costs.l0 k x0 x1 (x5 ++ [10000]) (wrap64 (x6 + 1))) else (none)))) else (spec_l7Costs.l1 k x1 x5 x0 0)
def spec_l7Costs.l1 : Nat → List (S83) → List Int → Int → Int → Option (List Int)
 | 0,_,_,_,_ => none
 | k + 1,x1,x5,x27,x28 => if x28 < x27 then (spec_l7Costs.l2 k x1 x5 0 x27 x28) else (some x5)
def spec_l7Costs.l2 : Nat → List (S83) → List Int → Int → Int → Int → Option (List Int)
 | 0,_,_,_,_,_ => none
 | k + 1,x1,x5,x7,x27,x28 => if x7 < (x1.length : Int) then (if 0 ≤ x7 then (if 0 ≤ ((rd_T83 x1 x7).f0) then (if ((rd_T83 x1 x7).f0) < (x5.length : Int) then (if 0 ≤ ((rd_T83 x1 x7).f1) then (if ((rd_T83 x1 x7).f1) < (x5.length : Int) then ((some (x5.set (((rd_T83 x1 x7).f0) : Int).toNat (mn (rd x5 ((rd_T83 x1 x7).f0)) (wrap64 ((rd x5 ((rd_T83 x1 x7).f1)) + ((rd_T83 x1 x7).f2)))) : List Int)).bind fun y462 => (spec_l7Costs.l2 k x1 (y462.set (((rd_T83 x1 x7).f1) : Int).toNat (mn (rd y462 ((rd_T83 x1 x7).f1)) (wrap64 ((rd y462 ((rd_T83 x1 x7).f0)) + ((rd_T83 x1 x7).f2))))) (wrap64 (x7 + 1)) x27 x28)) else (none)) else (none)) else (none)) else (none)) else (none)) else (spec_l7Costs.l1 k x1 x5 x27 (wrap64 (x28 + 1)))
end
def spec_l7Costs.f (k : Nat) (a0 : Int) (l1 : List (S83)) : Option (List Int):=spec_l7Costs.l0 k a0 l1 (([] : List Int)) 0
theorem spec_l7Costs.mono_l : ∀ k,(∀ y0 y1 y2 y3,LeO (spec_l7Costs.l0 k y0 y1 y2 y3) (spec_l7Costs.l0 (k + 1) y0 y1 y2 y3)) ∧ (∀ y0 y1 y2 y3,LeO (spec_l7Costs.l1 k y0 y1 y2 y3) (spec_l7Costs.l1 (k + 1) y0 y1 y2 y3)) ∧ (∀ y0 y1 y2 y3 y4,LeO (spec_l7Costs.l2 k y0 y1 y2 y3 y4) (spec_l7Costs.l2 (k + 1) y0 y1 y2 y3 y4))
 | 0 => ⟨fun _ _ _ _ r h => by simp [spec_l7Costs.l0] at h,fun _ _ _ _ r h => by simp [spec_l7Costs.l1] at h,fun _ _ _ _ _ r h => by simp [spec_l7Costs.l2] at h⟩
 | k + 1 => by
  obtain ⟨ih0,ih1,ih2⟩:=spec_l7Costs.mono_l k
  refine ⟨?_,?_,?_⟩
  ·intro y0 y1 y2 y3
   unfold spec_l7Costs.l0
   repeat' first
   | (with_reducible exact ih0 _ _ _ _)
   | (with_reducible exact ih1 _ _ _ _)
   | (with_reducible exact ih2 _ _ _ _ _)
   | (with_reducible exact spec_l7Root.mono _ _ _ _)
   | (with_reducible exact LeO.refl _)
   | (with_reducible exact LeO.none _)
   | (with_reducible refine LeO.ite ?_ ?_)
   | (with_reducible refine LeO.bind ?_ (fun _ => ?_))
   | exact ih0 _ _ _ _
   | exact ih1 _ _ _ _
   | exact ih2 _ _ _ _ _
   | exact spec_l7Root.mono _ _ _ _
   | exact LeO.none _
   | refine LeO.ite ?_ ?_
   | refine LeO.bind ?_ (fun _ => ?_)
  ·intro y0 y1 y2 y3
   unfold spec_l7Costs.l1
   repeat' first
   | (with_reducible exact ih0 _ _ _ _)
   | (with_reducible exact ih1 _ _ _ _)
   | (with_reducible exact ih2 _ _ _ _ _)
   | (with_reducible exact spec_l7Root.mono _ _ _ _)
   | (with_reducible exact LeO.refl _)
   | (with_reducible exact LeO.none _)
   | (with_reducible refine LeO.ite ?_ ?_)
   | (with_reducible refine LeO.bind ?_ (fun _ => ?_))
   | exact ih0 _ _ _ _
   | exact ih1 _ _ _ _
   | exact ih2 _ _ _ _ _
   | exact spec_l7Root.mono _ _ _ _
   | exact LeO.none _
   | refine LeO.ite ?_ ?_
   | refine LeO.bind ?_ (fun _ => ?_)
  ·intro y0 y1 y2 y3 y4
   unfold spec_l7Costs.l2
   repeat' first
   | (with_reducible exact ih0 _ _ _ _)
   | (with_reducible exact ih1 _ _ _ _)
   | (with_reducible exact ih2 _ _ _ _ _)
   | (with_reducible exact spec_l7Root.mono _ _ _ _)
   | (with_reducible exact LeO.refl _)
   | (with_reducible exact LeO.none _)
   | (with_reducible refine LeO.ite ?_ ?_)
   | (with_reducible refine LeO.bind ?_ (fun _ => ?_))
   | exact ih0 _ _ _ _
   | exact ih1 _ _ _ _
   | exact ih2 _ _ _ _ _
   | exact spec_l7Root.mono _ _ _ _
   | exact LeO.none _
   | refine LeO.ite ?_ ?_
   | refine LeO.bind ?_ (fun _ => ?_)
theorem spec_l7Costs.mono : ∀ a0 a1 k,LeO (spec_l7Costs.f k a0 a1) (spec_l7Costs.f (k + 1) a0 a1):=by
 intro a0 a1 k
 obtain ⟨ih0,ih1,ih2⟩:=spec_l7Costs.mono_l k
 unfold spec_l7Costs.f
 repeat' first
   | (with_reducible exact ih0 _ _ _ _)
   | (with_reducible exact ih1 _ _ _ _)
   | (with_reducible exact ih2 _ _ _ _ _)
   | (with_reducible exact spec_l7Root.mono _ _ _ _)
   | (with_reducible exact LeO.refl _)
   | (with_reducible exact LeO.none _)
   | (with_reducible refine LeO.ite ?_ ?_)
   | (with_reducible refine LeO.bind ?_ (fun _ => ?_))
   | exact ih0 _ _ _ _
   | exact ih1 _ _ _ _
   | exact ih2 _ _ _ _ _
   | exact spec_l7Root.mono _ _ _ _
   | exact LeO.none _
   | refine LeO.ite ?_ ?_
   | refine LeO.bind ?_ (fun _ => ?_)
def spec_l7Costs.T14 : Bool × List (List Nat × List Nat):=(true,[([],[]),([],[]),([1],[1]),([],[]),([],[]),([4],[4]),([3,5],[3,5]),([6],[6]),([],[]),([],[]),([9],[9]),([8,10],[8,10]),([11],[11]),([],[]),([13],[13]),([12,14],[12,14]),([7,15],[7,15]),([0,2,0,1,2,3,4,5,6,7,8,9,10,11,12,13,14,15,16],[0,2]),([17,16,0,1,2,3,4,5,6,7,8,9,10,11,12,13,14,15,16],[16,17])])
def spec_l7Costs.B14 : List Nat:=[0,0,2,0,0,16,56,120,0,0,512,1792,3840,0,8192,32512,65528,131071,262143]
theorem spec_l7Costs.tab14 : rtab .any (opsOf Try.f80 14) = spec_l7Costs.T14:=by kernel_rfl
theorem spec_l7Costs.bits14 : waitsOk spec_l7Costs.T14.2 spec_l7Costs.B14 = true:=by kernel_rfl
def spec_l7Costs.T15 : Bool × List (List Nat × List Nat):=(true,[([],[]),([],[]),([1],[1]),([],[]),([],[]),([4],[4]),([3,5],[3,5]),([6],[6]),([],[]),([],[]),([9],[9]),([8,10],[8,10]),([11],[11]),([],[]),([13],[13]),([12,14],[12,14]),([7,15],[7,15]),([0,2,0,1,2,3,4,5,6,7,8,9,10,11,12,13,14,15,16],[0,2]),([17,16,0,1,2,3,4,5,6,7,8,9,10,11,12,13,14,15,16],[16,17])])
def spec_l7Costs.B15 : List Nat:=[0,0,2,0,0,16,56,120,0,0,512,1792,3840,0,8192,32512,65528,131071,262143]
theorem spec_l7Costs.tab15 : rtab .any (opsOf Try.f80 15) = spec_l7Costs.T15:=by kernel_rfl
theorem spec_l7Costs.bits15 : waitsOk spec_l7Costs.T15.2 spec_l7Costs.B15 = true:=by kernel_rfl
set_option maxHeartbeats 8000000 in
set_option maxRecDepth 100000 in
theorem spec_l7Costs.calls (k : Nat) (a0 : Int) (A1 : Option Addr) (c1 : Nat) (l1 : List (S83)) (r : List Int) (w : World) (hr1 : Kd.C k83 w A1 l1.length l1) (hc1 : l1.length ≤ c1) (h : spec_l7Costs.f k a0 l1 = some r) :
  Calls Try.prog 80 #[.int .i64 a0,.slice A1 l1.length c1] w fun e w' => ∃ v0_ : Value,e = .returned (v0_) ∧ Kd.R (Kd.int .i64) 3 w' w.heap.size (fun _ => True) v0_ r ∧ Below w.heap.size w w':=by
 have hu83:=Try.underlying83
 have HR1:=mk_ hr1
 have HC1:=mk_ hc1
 clear hr1 hc1
 have HB:=mk_ (Below.refl w.heap.size w)
 have H : (spec_l7Costs.l0 k a0 l1 (([] : List Int)) 0) = some r:=h
 clear h
 obtain ⟨y448,hy448⟩ : ∃ y_ : List Int,y_ = (([] : List Int)):=⟨_,rfl⟩
 replace H : (spec_l7Costs.l0 k a0 l1 y448 0) = some r:=by first|(rw [hy448];with_reducible exact H)|(have H2_:=(Option.bind_some _ _).symm.trans H;rw [hy448];with_reducible exact H2_)|(have H2_:=(Option.bind_some _ _).symm.trans H;with_reducible exact H2_)|with_reducible exact H|(rw [hy448];exact H)|exact H
 have Ny448:=mk_ hy448
 clear hy448
 have H':=mk_ H
 clear H
 go_enter Try.func80,Try.ntmps80
 go_wp2_with (first|((with_reducible refine gate_dst (N:=9) rfl ?_);refine Kd.R_lit (Kd.int .i64) _ 3 ?hg (N:=9) ?hd (xs:=([] : List Int)) (inner:=[]) (ok:=fun _ => True) (okp:=fun _ => True) ?hr ?hp (fun _ hk => hk) trivial (Below.refl _ _) (Nat.le_refl _) (by simp) ?_;(case hd => rfl);(case hg => rfl);(case hr => first|(go_simp;done)|(go_simp;rfl));(case hp => exact (Reps.none _ _));intro v449 w3 ho4 hb hg_ hnew_;clear hg_ hnew_;(first|rw [← Ny448.out] at ho4|(simp only [Int.reduceToNat] at ho4;rw [← Ny448.out] at ho4));have n0_:=mk_ (Kd.R_lower ho4 (bz_ (qb_ HB)));have n1_:=mk_ (st_ (qb_ HB) hb);clear HB;have HO450:=n0_;have HB:=n1_;clear n0_ n1_ hb ho4))
 go_loopg [5,6] k (fun kq v5 v6 w' => ∃ (x5_1 : List Int) (x6_1 : Int),v6 = .int .i64 x6_1 ∧ Aside0 (spec_l7Costs.l0 kq a0 l1 x5_1 x6_1 = some r) ∧ Aside0 (kq ≤ k) ∧ Aside0 (Kd.R (Kd.int .i64) 3 w' w.heap.size (fun _ => True) v5 x5_1) ∧ Aside0 (Below w.heap.size w w'))
 case atStart => exact ⟨(y448),(0),qf_,H',⟨Nat.le_refl _⟩,⟨qr_ HO450⟩,⟨u1_ HB⟩⟩
 case round =>
  clear H'
  try clear c1
  try clear p2
  obtain ⟨x5_1,x6_1,rfl,HA,HK1,HO_5,HB⟩:=hrel
  cases gk with
  | zero => exact absurd HA.out (by simp [spec_l7Costs.l0])
  | succ k1 =>
   have H:=HA.out
   clear HA
   simp only [spec_l7Costs.l0] at H
   by_cases c5 : x6_1 < a0
   ·rw [if_pos c5] at H
    have c5b0 : decide (x6_1 < a0) = true:=decide_eq_true c5
    clear c5
    replace H:=Option.bind_eq_some_iff.mp H
    obtain ⟨t451,A60,H⟩:=H
    replace H : (if t451 = x6_1 then (if x5_1.length < 17592186044416 then (spec_l7Costs.l0 k1 a0 l1 (x5_1 ++ [0]) (wrap64 (x6_1 + 1))) else (none)) else (if x5_1.length < 17592186044416 then (spec_l7Costs.l0 k1 a0 l1 (x5_1 ++ [10000]) (wrap64 (x6_1 + 1))) else (none))) = some r:=H
    have A6:=mk_ A60
    clear A60
    by_cases c7 : t451 = x6_1
    ·rw [if_pos c7] at H
     have c7b0 : (t451 == x6_1) = true:=beq_iff_eq.mpr c7
     have c7b1 : (t451 != x6_1) = false:=bne_eq_false_iff_eq.mpr c7
     clear c7
     by_cases c8 : x5_1.length < 17592186044416
     ·rw [if_pos c8] at H
      have LMc8:=mk_ c8
      clear c8
      obtain ⟨y452,hy452⟩ : ∃ y_ : List Int,y_ = (x5_1 ++ [0]):=⟨_,rfl⟩
      replace H : (spec_l7Costs.l0 k1 a0 l1 y452 (wrap64 (x6_1 + 1))) = some r:=by first|(rw [hy452];with_reducible exact H)|(have H2_:=(Option.bind_some _ _).symm.trans H;rw [hy452];with_reducible exact H2_)|(have H2_:=(Option.bind_some _ _).symm.trans H;with_reducible exact H2_)|with_reducible exact H|(rw [hy452];exact H)|exact H
      have Ny452:=mk_ hy452
      clear hy452
      have H':=mk_ H
      clear H
      go_wp2_with (first|((with_reducible refine gate_callee (f:=97) rfl ?_);refine goesL_ (some 18) rfl rfl Try.func97 (by kernel_rfl) rfl #[.int .i64 a0,.slice A1 l1.length c1,.int .i64 x6_1] rfl qm_ ?_;(with_reducible refine (spec_l7Root.calls k1 a0 _ _ l1 x6_1 t451 _ ?side1 ?side2 A6.out).mono ?_);(case side1 => exact qn_ HR1 HB);(case side2 => exact HC1.out);rintro e w9 ⟨rfl,hb⟩;refine ⟨_,rfl,?_⟩;have n0_:=mk_ (rb_ (qr_ HO_5) hb);have n1_:=mk_ (st_ (qb_ HB) hb);clear HO_5 HB;have HO_5:=n0_;have HB:=n1_;clear n0_ n1_;(try clear hb);(try clear hb2);(try clear hk);(try clear hi))|((with_reducible refine gate_builtin (b:=.append) (xs:=#[.tmp 21,.tmp 22]) rfl ?_);at_builtin;refine Kd.R_append (Kd.int .i64) (w0:=w) w.heap.size rfl (.tmp 21) (.tmp 22) 24 3 (.int .i64 0) 8 rfl Try.underlying24 info3 rfl (by decide) (by omega) u5 x5_1 0 [.int .i64 0] (fun _ => True) (fun _ => False) rfl rfl ?aP (fun _ hk => hk.elim) ?aF ?aO ?aB ?aS ?aL ?_;(case aP => exact rfl);(case aB => exact (qb_ HB));(case aF => exact (fun _ _ => trivial));(case aO => exact (qr_ HO_5));(case aS => exact (bz_ (qb_ HB)));(case aL => have:=LMc8.out;omega);intro v453 w10 ho hb hg hat;rw [← Ny452.out] at ho;have n0_:=mk_ (hb);have n1_:=mk_ (ho);clear HB HO_5;have HB:=n0_;have HO454:=n1_;clear n0_ n1_ ho hb hg hat))
      go_roundg k1
      case measure => have:=HK1.out;omega
      case rel => exact ⟨(y452),(wrap64 (x6_1 + 1)),qf_,H',⟨by have:=HK1.out;omega⟩,⟨qr_ HO454⟩,⟨u1_ HB⟩⟩
     ·rw [if_neg c8] at H
      exact absurd H (by simp)
    ·rw [if_neg c7] at H
     have c7b0 : (t451 == x6_1) = false:=beq_eq_false_iff_ne.mpr c7
     have c7b1 : (t451 != x6_1) = true:=bne_iff_ne.mpr c7
     by_cases c11 : x5_1.length < 17592186044416
     ·rw [if_pos c11] at H
      have LMc11:=mk_ c11
      clear c11
      obtain ⟨y455,hy455⟩ : ∃ y_ : List Int,y_ = (x5_1 ++ [10000]):=⟨_,rfl⟩
      replace H : (spec_l7Costs.l0 k1 a0 l1 y455 (wrap64 (x6_1 + 1))) = some r:=by first|(rw [hy455];with_reducible exact H)|(have H2_:=(Option.bind_some _ _).symm.trans H;rw [hy455];with_reducible exact H2_)|(have H2_:=(Option.bind_some _ _).symm.trans H;with_reducible exact H2_)|with_reducible exact H|(rw [hy455];exact H)|exact H
      have Ny455:=mk_ hy455
      clear hy455
      have H':=mk_ H
      clear H
      go_wp2_with (first|((with_reducible refine gate_callee (f:=97) rfl ?_);refine goesL_ (some 18) rfl rfl Try.func97 (by kernel_rfl) rfl #[.int .i64 a0,.slice A1 l1.length c1,.int .i64 x6_1] rfl qm_ ?_;(with_reducible refine (spec_l7Root.calls k1 a0 _ _ l1 x6_1 t451 _ ?side1 ?side2 A6.out).mono ?_);(case side1 => exact qn_ HR1 HB);(case side2 => exact HC1.out);rintro e w12 ⟨rfl,hb⟩;refine ⟨_,rfl,?_⟩;have n0_:=mk_ (rb_ (qr_ HO_5) hb);have n1_:=mk_ (st_ (qb_ HB) hb);clear HO_5 HB;have HO_5:=n0_;have HB:=n1_;clear n0_ n1_;(try clear hb);(try clear hb2);(try clear hk);(try clear hi))|((with_reducible refine gate_builtin (b:=.append) (xs:=#[.tmp 24,.tmp 25]) rfl ?_);at_builtin;refine Kd.R_append (Kd.int .i64) (w0:=w) w.heap.size rfl (.tmp 24) (.tmp 25) 24 3 (.int .i64 0) 8 rfl Try.underlying24 info3 rfl (by decide) (by omega) u5 x5_1 10000 [.int .i64 10000] (fun _ => True) (fun _ => False) rfl rfl ?aP (fun _ hk => hk.elim) ?aF ?aO ?aB ?aS ?aL ?_;(case aP => exact rfl);(case aB => exact (qb_ HB));(case aF => exact (fun _ _ => trivial));(case aO => exact (qr_ HO_5));(case aS => exact (bz_ (qb_ HB)));(case aL => have:=LMc11.out;omega);intro v456 w13 ho hb hg hat;rw [← Ny455.out] at ho;have n0_:=mk_ (hb);have n1_:=mk_ (ho);clear HB HO_5;have HB:=n0_;have HO457:=n1_;clear n0_ n1_ ho hb hg hat))
      go_roundg k1
      case measure => have:=HK1.out;omega
      case rel => exact ⟨(y455),(wrap64 (x6_1 + 1)),qf_,H',⟨by have:=HK1.out;omega⟩,⟨qr_ HO457⟩,⟨u1_ HB⟩⟩
     ·rw [if_neg c11] at H
      exact absurd H (by simp)
   ·rw [if_neg c5] at H
    have c5b0 : decide (x6_1 < a0) = false:=decide_eq_false c5
    clear c5
    have H':=mk_ H
    clear H
    go_wp2
    go_loopg [28] k1 (fun kq v28 w' => ∃ (x5_2 : List Int) (x28_2 : Int),v28 = .int .i64 x28_2 ∧ Aside0 (spec_l7Costs.l1 kq l1 x5_2 a0 x28_2 = some r) ∧ Aside0 (kq ≤ k1) ∧ Aside0 (Kd.R (Kd.int .i64) 3 w' w.heap.size (fun _ => True) u5 x5_2) ∧ Aside0 (Below w.heap.size w w'))
    case atStart => exact ⟨(x5_1),(0),qf_,H',⟨Nat.le_refl _⟩,⟨qr_ HO_5⟩,⟨u1_ HB⟩⟩
    case round =>
     clear H'
     try clear c1
     try clear p2
     try clear c5
     try clear c5b0
     try clear p6
     try clear c7
     try clear c7b0
     try clear c7b1
     try clear c8
     try clear c9
     try clear c11
     try clear p2
     obtain ⟨x5_2,x28_2,rfl,HA,HK2,HO_5,HB⟩:=hrel
     cases gk with
     | zero => exact absurd HA.out (by simp [spec_l7Costs.l1])
     | succ k2 =>
      have H:=HA.out
      clear HA
      simp only [spec_l7Costs.l1] at H
      by_cases c14 : x28_2 < a0
      ·rw [if_pos c14] at H
       have c14b0 : decide (x28_2 < a0) = true:=decide_eq_true c14
       clear c14
       have H':=mk_ H
       clear H
       go_wp2
       go_loopg [7] k2 (fun kq v7 w' => ∃ (x5_3 : List Int) (x7_3 : Int),v7 = .int .i64 x7_3 ∧ Aside0 (spec_l7Costs.l2 kq l1 x5_3 x7_3 a0 x28_2 = some r) ∧ Aside0 (kq ≤ k2) ∧ Aside0 (Kd.R (Kd.int .i64) 3 w' w.heap.size (fun _ => True) u5 x5_3) ∧ Aside0 (Below w.heap.size w w'))
       case atStart => exact ⟨(x5_2),(0),qf_,H',⟨Nat.le_refl _⟩,⟨qr_ HO_5⟩,⟨u1_ HB⟩⟩
       case round =>
        clear H'
        try clear c1
        try clear p2
        try clear c5
        try clear c5b0
        try clear p6
        try clear c7
        try clear c7b0
        try clear c7b1
        try clear c8
        try clear c9
        try clear c11
        try clear c14
        try clear c14b0
        try clear p2
        try clear p6
        obtain ⟨x5_3,x7_3,rfl,HA,HK3,HO_5,HB⟩:=hrel
        cases gk with
        | zero => exact absurd HA.out (by simp [spec_l7Costs.l2])
        | succ k3 =>
         have H:=HA.out
         clear HA
         simp only [spec_l7Costs.l2] at H
         by_cases c15 : x7_3 < (l1.length : Int)
         ·rw [if_pos c15] at H
          have c15b0 : decide (x7_3 < (l1.length : Int)) = true:=decide_eq_true c15
          clear c15
          by_cases c16 : 0 ≤ x7_3
          ·rw [if_pos c16] at H
           have c16b0 : decide (0 ≤ x7_3) = true:=decide_eq_true c16
           clear c16
           by_cases c17 : 0 ≤ ((rd_T83 l1 x7_3).f0)
           ·rw [if_pos c17] at H
            have c17b0 : decide (0 ≤ ((rd_T83 l1 x7_3).f0)) = true:=decide_eq_true c17
            clear c17
            by_cases c18 : ((rd_T83 l1 x7_3).f0) < (x5_3.length : Int)
            ·rw [if_pos c18] at H
             have c18b0 : decide (((rd_T83 l1 x7_3).f0) < (x5_3.length : Int)) = true:=decide_eq_true c18
             clear c18
             by_cases c19 : 0 ≤ ((rd_T83 l1 x7_3).f1)
             ·rw [if_pos c19] at H
              have c19b0 : decide (0 ≤ ((rd_T83 l1 x7_3).f1)) = true:=decide_eq_true c19
              clear c19
              by_cases c20 : ((rd_T83 l1 x7_3).f1) < (x5_3.length : Int)
              ·rw [if_pos c20] at H
               have c20b0 : decide (((rd_T83 l1 x7_3).f1) < (x5_3.length : Int)) = true:=decide_eq_true c20
               clear c20
               obtain ⟨ji21,hji21⟩ : ∃ j_ : Int,(mn (rd x5_3 ((rd_T83 l1 x7_3).f0)) (wrap64 ((rd x5_3 ((rd_T83 l1 x7_3).f1)) + ((rd_T83 l1 x7_3).f2)))) = j_:=⟨_,rfl⟩
               replace H : ((some (x5_3.set (((rd_T83 l1 x7_3).f0) : Int).toNat (ji21) : List Int)).bind fun y462 => (spec_l7Costs.l2 k3 l1 (y462.set (((rd_T83 l1 x7_3).f1) : Int).toNat (mn (rd y462 ((rd_T83 l1 x7_3).f1)) (wrap64 ((rd y462 ((rd_T83 l1 x7_3).f0)) + ((rd_T83 l1 x7_3).f2))))) (wrap64 (x7_3 + 1)) a0 x28_2)) = some r:=by first|(rw [hji21] at H;exact H)|(simp only [hji21] at H ⊢;exact H)
               have hji21_ : (if (wrap64 ((rd x5_3 ((rd_T83 l1 x7_3).f1)) + ((rd_T83 l1 x7_3).f2))) < (rd x5_3 ((rd_T83 l1 x7_3).f0)) then (wrap64 ((rd x5_3 ((rd_T83 l1 x7_3).f1)) + ((rd_T83 l1 x7_3).f2))) else (rd x5_3 ((rd_T83 l1 x7_3).f0))) = ji21:=hji21
               obtain ⟨y462,hy462⟩ : ∃ y_ : List Int,y_ = (x5_3.set (((rd_T83 l1 x7_3).f0) : Int).toNat (ji21)):=⟨_,rfl⟩
               replace H : (spec_l7Costs.l2 k3 l1 (y462.set (((rd_T83 l1 x7_3).f1) : Int).toNat (mn (rd y462 ((rd_T83 l1 x7_3).f1)) (wrap64 ((rd y462 ((rd_T83 l1 x7_3).f0)) + ((rd_T83 l1 x7_3).f2))))) (wrap64 (x7_3 + 1)) a0 x28_2) = some r:=by first|(rw [hy462];with_reducible exact H)|(have H2_:=(Option.bind_some _ _).symm.trans H;rw [hy462];with_reducible exact H2_)|(have H2_:=(Option.bind_some _ _).symm.trans H;with_reducible exact H2_)|with_reducible exact H|(rw [hy462];exact H)|exact H
               have Ny462:=mk_ hy462
               clear hy462
               obtain ⟨ji23,hji23⟩ : ∃ j_ : Int,(mn (rd y462 ((rd_T83 l1 x7_3).f1)) (wrap64 ((rd y462 ((rd_T83 l1 x7_3).f0)) + ((rd_T83 l1 x7_3).f2)))) = j_:=⟨_,rfl⟩
               replace H : (spec_l7Costs.l2 k3 l1 (y462.set (((rd_T83 l1 x7_3).f1) : Int).toNat (ji23)) (wrap64 (x7_3 + 1)) a0 x28_2) = some r:=by first|(rw [hji23] at H;exact H)|(simp only [hji23] at H ⊢;exact H)
               have hji23_ : (if (wrap64 ((rd y462 ((rd_T83 l1 x7_3).f0)) + ((rd_T83 l1 x7_3).f2))) < (rd y462 ((rd_T83 l1 x7_3).f1)) then (wrap64 ((rd y462 ((rd_T83 l1 x7_3).f0)) + ((rd_T83 l1 x7_3).f2))) else (rd y462 ((rd_T83 l1 x7_3).f1))) = ji23:=hji23
               obtain ⟨y465,hy465⟩ : ∃ y_ : List Int,y_ = (y462.set (((rd_T83 l1 x7_3).f1) : Int).toNat (ji23)):=⟨_,rfl⟩
               replace H : (spec_l7Costs.l2 k3 l1 y465 (wrap64 (x7_3 + 1)) a0 x28_2) = some r:=by first|(rw [hy465];with_reducible exact H)|(have H2_:=(Option.bind_some _ _).symm.trans H;rw [hy465];with_reducible exact H2_)|(have H2_:=(Option.bind_some _ _).symm.trans H;with_reducible exact H2_)|with_reducible exact H|(rw [hy465];exact H)|exact H
               have Ny465:=mk_ hy465
               clear hy465
               have H':=mk_ H
               clear H
               have p458 : 0 ≤ (x7_3 : Int):=od_ qa_
               have q458 : x7_3 < (l1.length : Int):=od_ qa_
               obtain ⟨ad458,e458,hx458_0,hx458_1,hx458_2⟩:=at_T83 HR1.out x7_3 p458 q458
               cases e458
               replace hx458_0:=(HB.out.cell (wl_ w _ hx458_0)).trans hx458_0
               replace hx458_1:=(HB.out.cell (wl_ w _ hx458_1)).trans hx458_1
               replace hx458_2:=(HB.out.cell (wl_ w _ hx458_2)).trans hx458_2
               replace p458:=eq_true p458
               replace q458:=eq_true q458
               try go_wp2_with (first|((with_reducible refine gate_dst (N:=8) rfl ?_);refine box_event ?hg (N:=8) ?hd (cs:=#[.int .i64 0,.int .i64 0,.int .i64 0]) (t:=83) ?hr ?_;(case hd => rfl);(case hg => rfl);(case hr => first|(go_simp;done)|(go_simp;rfl));intro gb459 hg w25 hbox hb;have n0_:=mk_ (rb_ (qr_ HO_5) hb);have n1_:=mk_ (st_ (qb_ HB) hb);have n2_:=mk_ (hbox);have n3_:=mk_ ((by rw [hg];exact (bz_ (qb_ HB)) : w.heap.size ≤ gb459));have n4_:=mk_ ((by rw [hg];exact (bz_ (qb_ HB)) : w.heap.size ≤ gb459));clear HO_5 HB;have HO_5:=n0_;have HB:=n1_;have BK459:=n2_;have GW459:=n3_;have GE459:=n4_;clear n0_ n1_ n2_ n3_ n4_ hb hbox hg;have hcz26_0 : w25.cell? ⟨gb459,0,none⟩ = some (.int .i64 0):=(bc_ BK459.out 0).trans rfl;have hcz26_1 : w25.cell? ⟨gb459,1,none⟩ = some (.int .i64 0):=(bc_ BK459.out 1).trans rfl;have hcz26_2 : w25.cell? ⟨gb459,2,none⟩ = some (.int .i64 0):=(bc_ BK459.out 2).trans rfl;have hfz26_0:=bf_ BK459.out 0;have hfz26_1:=bf_ BK459.out 1;have hfz26_2:=bf_ BK459.out 2))
               have n0_ : Aside0 (Kd.R (Kd.int .i64) 3 (((w25.setCell ⟨gb459,0,none⟩ (.int .i64 ((rd_T83 l1 x7_3).f0))).setCell ⟨gb459,1,none⟩ (.int .i64 ((rd_T83 l1 x7_3).f1))).setCell ⟨gb459,2,none⟩ (.int .i64 ((rd_T83 l1 x7_3).f2))) w.heap.size (fun _ => True) u5 x5_3):=⟨by (with_reducible repeat (first|apply ra_|apply rn_|apply rd_));exact rm_ (rf_ (p:=⟨gb459,2,none⟩) (rf_ (p:=⟨gb459,1,none⟩) (rf_ (p:=⟨gb459,0,none⟩) (rt_ HO_5.out BK459.out (by decide)) (λ_ h=>h.2) (.int .i64 ((rd_T83 l1 x7_3).f0))) (λ_ h=>h.2) (.int .i64 ((rd_T83 l1 x7_3).f1))) (λ_ h=>h.2) (.int .i64 ((rd_T83 l1 x7_3).f2))) (λ_ _=>trivial)⟩
               have n1_ : Aside0 ((((w25.setCell ⟨gb459,0,none⟩ (.int .i64 ((rd_T83 l1 x7_3).f0))).setCell ⟨gb459,1,none⟩ (.int .i64 ((rd_T83 l1 x7_3).f1))).setCell ⟨gb459,2,none⟩ (.int .i64 ((rd_T83 l1 x7_3).f2))).heap[gb459]? = some (.cells #[.int .i64 ((rd_T83 l1 x7_3).f0),.int .i64 ((rd_T83 l1 x7_3).f1),.int .i64 ((rd_T83 l1 x7_3).f2)] 83 (0,0))):=⟨by (with_reducible repeat (first|apply kn_|apply kd_|apply ka_));refine blk_put (cs:=#[.int .i64 ((rd_T83 l1 x7_3).f0),.int .i64 ((rd_T83 l1 x7_3).f1),.int .i64 0]) ?_ 2 _ rfl;(with_reducible repeat (first|apply kn_|apply kd_|apply ka_));refine blk_put (cs:=#[.int .i64 ((rd_T83 l1 x7_3).f0),.int .i64 0,.int .i64 0]) ?_ 1 _ rfl;(with_reducible repeat (first|apply kn_|apply kd_|apply ka_));refine blk_put (cs:=#[.int .i64 0,.int .i64 0,.int .i64 0]) ?_ 0 _ rfl;(with_reducible repeat (first|apply kn_|apply kd_|apply ka_));exact BK459.out⟩
               have n2_ : Aside0 (Below w.heap.size w (((w25.setCell ⟨gb459,0,none⟩ (.int .i64 ((rd_T83 l1 x7_3).f0))).setCell ⟨gb459,1,none⟩ (.int .i64 ((rd_T83 l1 x7_3).f1))).setCell ⟨gb459,2,none⟩ (.int .i64 ((rd_T83 l1 x7_3).f2)))):=⟨u0_ HB GE459⟩
               (try clear HO_5)
               (try clear BK459)
               (try clear HB)
               generalize (((w25.setCell ⟨gb459,0,none⟩ (.int .i64 ((rd_T83 l1 x7_3).f0))).setCell ⟨gb459,1,none⟩ (.int .i64 ((rd_T83 l1 x7_3).f1))).setCell ⟨gb459,2,none⟩ (.int .i64 ((rd_T83 l1 x7_3).f2))) = w27 at n0_ n1_ n2_ ⊢
               have HO_5:=n0_
               have BK459:=n1_
               have HB:=n2_
               clear n0_ n1_ n2_
               have n0_:=mk_ (rd_ HO_5.out)
               have n1_:=mk_ (kd_ BK459.out)
               have n2_:=mk_ (bd_ HB.out)
               clear HO_5
               clear BK459
               clear HB
               have HO_5:=n0_
               have BK459:=n1_
               have HB:=n2_
               clear n0_ n1_ n2_
               obtain ⟨Ao29,co29,eo29⟩:=Kd.R_slice HO_5.out
               (first|subst eo29|(injection eo29 with f1_ f2_ f3_;have f4_:=f1_.symm;have f5_:=f3_.symm;clear f1_ f2_ f3_;subst f4_;subst f5_))
               have p460 : 0 ≤ (((rd_T83 l1 x7_3).f0) : Int):=od_ qa_
               have q460 : ((rd_T83 l1 x7_3).f0) < (x5_3.length : Int):=od_ qa_
               obtain ⟨ad460,e460,hx460_0⟩:=Kd.at_int (rr_ HO_5.out).2.2 ((rd_T83 l1 x7_3).f0) p460 q460
               cases e460
               replace p460:=eq_true p460
               replace q460:=eq_true q460
               have p461 : 0 ≤ (((rd_T83 l1 x7_3).f1) : Int):=od_ qa_
               have q461 : ((rd_T83 l1 x7_3).f1) < (x5_3.length : Int):=od_ qa_
               obtain ⟨ad461,e461,hx461_0⟩:=Kd.at_int (rr_ HO_5.out).2.2 ((rd_T83 l1 x7_3).f1) p461 q461
               obtain rfl : ad460 = ad461:=(by injection e461)
               replace p461:=eq_true p461
               replace q461:=eq_true q461
               have p22 : 0 ≤ (((rd_T83 l1 x7_3).f0) : Int):=od_ qa_
               have q22 : (((rd_T83 l1 x7_3).f0) : Int) < ((x5_3.length : Int) : Int):=od_ qa_
               obtain ⟨go22,co22,eo22,gb22,gl22,cl22,HG22⟩:=Kd.R_form HO_5.out (by omega)
               (first|cases eo22|(injection eo22 with ea_ en_ ec_;(first|subst ea_|(injection ea_ with ea_;subst ea_));subst ec_;clear en_))
               have GB22:=mk_ gb22
               have GG22:=mk_ HG22
               clear gb22 gl22 HG22
               (first|simp only [add_plain] at hx460_0|skip)
               (first|simp only [add_plain] at hx461_0|skip)
               obtain ⟨hx22_0,hf22_0⟩:=Kd.R_celln 0 HO_5.out (((rd_T83 l1 x7_3).f0) : Int) p22 q22
               replace p22:=eq_true p22
               replace q22:=eq_true q22
               have HP30:=Kd.R_putn HO_5.out (((rd_T83 l1 x7_3).f0) : Int) ji21
               rw [← Ny462.out] at HP30
               have HQ30:=mk_ HP30
               clear HP30
               refine start_ (n:=19) (S:=fun w' => w'.cell? ⟨gb459,0,none⟩ = some (.int .i64 ((rd_T83 l1 x7_3).f0)) ∧ w'.cell? ⟨gb459,1,none⟩ = some (.int .i64 ((rd_T83 l1 x7_3).f1)) ∧ w'.cell? ⟨gb459,2,none⟩ = some (.int .i64 ((rd_T83 l1 x7_3).f2)) ∧ w'.cell? ⟨go22,(((rd_T83 l1 x7_3).f0)).toNat,none⟩ = some (.int .i64 (rd x5_3 ((rd_T83 l1 x7_3).f0))) ∧ w'.cell? ⟨go22,(((rd_T83 l1 x7_3).f1)).toNat,none⟩ = some (.int .i64 (rd x5_3 ((rd_T83 l1 x7_3).f1)))) (ds:=[18]) #[false,false,false,false,false,false,false,false,false,false,false,false,false,false,false,false,false,false,false] (by kernel_rfl) rfl rfl ⟨(bc_ BK459.out 0).trans rfl,(bc_ BK459.out 1).trans rfl,(bc_ BK459.out 2).trans rfl,hx460_0,hx461_0⟩ (fun hHeld => ?_);refine with_tabW spec_l7Costs.tab14 spec_l7Costs.bits14 (fun HT_ HW_ => ?_)
               generalize w27.drew = w28 at HO_5 BK459 HB GG22 HQ30 hf22_0 hx22_0 hx460_0 hx461_0 hHeld ⊢
               refine pu_ (i:=0) (N:=some 40) 19 1 ?_
               refine pu_ (i:=1) (N:=some 41) 19 3 ?_
               refine pu_ (i:=3) (N:=some 43) 19 11 ?_
               refine pu_ (i:=4) (N:=some 44) 19 27 ?_
               refine pu_ (i:=8) (N:=some 48) 19 283 ?_
               refine pu_ (i:=9) (N:=some 49) 19 795 ?_
               refine pu_ (i:=13) (N:=some 53) 19 8987 ?_
               refine ta5_ (i:=2) (N:=some 42) 19 8991 hHeld ?_
               refine ta5_ (i:=5) (N:=some 45) 19 9023 hHeld ?_
               refine pu_ (i:=6) (N:=some 46) 19 9087 ?_
               refine ta5_ (i:=7) (N:=some 47) 19 9215 hHeld ?_
               refine ta5_ (i:=10) (N:=some 50) 19 10239 hHeld ?_
               refine pu_ (i:=11) (N:=some 51) 19 12287 ?_
               refine ta5_ (i:=12) (N:=some 52) 19 16383 hHeld ?_
               refine ta5_ (i:=14) (N:=some 54) 19 32767 hHeld ?_
               refine pu_ (i:=15) (N:=some 55) 19 65535 ?_
               refine pu_ (i:=16) (N:=some 56) 19 131071 ?_
               refine pu_ (i:=17) (N:=some 57) 19 262143 ?_
               refine last_ (i:=18) (N:=none) #[true,true,true,true,true,true,true,true,true,true,true,true,true,true,true,true,true,true,true] rfl rfl (one_of HT_.out (by kernel_rfl)) (by decide) (fun K hK => ?_)
               refine skip_ (w1:=?_) (by rfl) rfl ?_ ?_
               rotate_left
               ·go_simp
                rfl
               refine hK.out _ _ ?_
               clear hK K
               refine done_ (done_of HT_.out (by kernel_rfl)) ?_
               try go_wp2
               have n0_ : Aside0 (Kd.R (Kd.int .i64) 3 (w28.setCell ⟨go22,(((rd_T83 l1 x7_3).f0) : Int).toNat,none⟩ (.int .i64 ji21)) w.heap.size (fun _ => True) (.slice (some ⟨go22,0,none⟩) x5_3.length co29) y462):=⟨qr_ HQ30⟩
               have n1_ : Aside0 ((w28.setCell ⟨go22,(((rd_T83 l1 x7_3).f0) : Int).toNat,none⟩ (.int .i64 ji21)).heap[gb459]? = some (.cells #[.int .i64 ((rd_T83 l1 x7_3).f0),.int .i64 ((rd_T83 l1 x7_3).f1),.int .i64 ((rd_T83 l1 x7_3).f2)] 83 (0,0))):=⟨by (with_reducible repeat (first|apply kn_|apply kd_|apply ka_));refine blk_far ?_ (by have h_:=Kd.R_ne HO_5.out BK459.out (by decide);intro e_;exact h_ (by rw [e_];rfl)) _;(with_reducible repeat (first|apply kn_|apply kd_|apply ka_));exact BK459.out⟩
               have n2_ : Aside0 (Below w.heap.size w (w28.setCell ⟨go22,(((rd_T83 l1 x7_3).f0) : Int).toNat,none⟩ (.int .i64 ji21))):=⟨u11_ HB GB22 GE459⟩
               (try clear HO_5)
               (try clear BK459)
               (try clear HB)
               generalize (w28.setCell ⟨go22,(((rd_T83 l1 x7_3).f0) : Int).toNat,none⟩ (.int .i64 ji21)) = w31 at n0_ n1_ n2_ ⊢
               have HO_5:=n0_
               have BK459:=n1_
               have HB:=n2_
               clear n0_ n1_ n2_
               have n0_:=mk_ (rd_ HO_5.out)
               have n1_:=mk_ (kd_ BK459.out)
               have n2_:=mk_ (bd_ HB.out)
               clear HO_5
               clear BK459
               clear HB
               have HO_5:=n0_
               have BK459:=n1_
               have HB:=n2_
               clear n0_ n1_ n2_
               have p463 : 0 ≤ (((rd_T83 l1 x7_3).f1) : Int):=od_ qa_
               have q463 : ((rd_T83 l1 x7_3).f1) < (y462.length : Int):=(by have h_ : (((rd_T83 l1 x7_3).f1) : Int) < ((x5_3.length : Int) : Int):=od_ qa_;first|(have e_:=(rr_ HO_5.out).1;omega)|simpa only [Ny462.out,List.length_set] using h_)
               have ql463 : ((((rd_T83 l1 x7_3).f1) : Int) < ((x5_3.length : Int) : Int)) = True:=eq_true (od_ qa_)
               obtain ⟨ad463,e463,hx463_0⟩:=Kd.at_int (rr_ HO_5.out).2.2 ((rd_T83 l1 x7_3).f1) p463 q463
               obtain rfl : (⟨go22,0,none⟩ : Addr) = ad463:=(by injection e463)
               (first|simp only [add_plain] at hx463_0|simp only [add_at] at hx463_0|simp only [Addr.add,Nat.zero_add] at hx463_0|skip)
               replace p463:=eq_true p463
               replace q463:=eq_true q463
               have p464 : 0 ≤ (((rd_T83 l1 x7_3).f0) : Int):=od_ qa_
               have q464 : ((rd_T83 l1 x7_3).f0) < (y462.length : Int):=(by have h_ : (((rd_T83 l1 x7_3).f0) : Int) < ((x5_3.length : Int) : Int):=od_ qa_;first|(have e_:=(rr_ HO_5.out).1;omega)|simpa only [Ny462.out,List.length_set] using h_)
               have ql464 : ((((rd_T83 l1 x7_3).f0) : Int) < ((x5_3.length : Int) : Int)) = True:=eq_true (od_ qa_)
               obtain ⟨ad464,e464,hx464_0⟩:=Kd.at_int (rr_ HO_5.out).2.2 ((rd_T83 l1 x7_3).f0) p464 q464
               obtain rfl : (⟨go22,0,none⟩ : Addr) = ad464:=(by injection e464)
               (first|simp only [add_plain] at hx464_0|simp only [add_at] at hx464_0|simp only [Addr.add,Nat.zero_add] at hx464_0|skip)
               replace p464:=eq_true p464
               replace q464:=eq_true q464
               have p24 : 0 ≤ (((rd_T83 l1 x7_3).f1) : Int):=od_ qa_
               have q24 : (((rd_T83 l1 x7_3).f1) : Int) < ((x5_3.length : Int) : Int):=od_ qa_
               obtain ⟨hx24_0,hf24_0⟩:=Kd.R_celln 0 HO_5.out (((rd_T83 l1 x7_3).f1) : Int) p24 q24
               replace p24:=eq_true p24
               replace q24:=eq_true q24
               have HP33:=Kd.R_putn HO_5.out (((rd_T83 l1 x7_3).f1) : Int) ji23
               rw [← Ny465.out] at HP33
               have HQ33:=mk_ HP33
               clear HP33
               refine start_ (n:=19) (S:=fun w' => w'.cell? ⟨gb459,0,none⟩ = some (.int .i64 ((rd_T83 l1 x7_3).f0)) ∧ w'.cell? ⟨gb459,1,none⟩ = some (.int .i64 ((rd_T83 l1 x7_3).f1)) ∧ w'.cell? ⟨gb459,2,none⟩ = some (.int .i64 ((rd_T83 l1 x7_3).f2)) ∧ w'.cell? ⟨go22,(((rd_T83 l1 x7_3).f1)).toNat,none⟩ = some (.int .i64 (rd y462 ((rd_T83 l1 x7_3).f1))) ∧ w'.cell? ⟨go22,(((rd_T83 l1 x7_3).f0)).toNat,none⟩ = some (.int .i64 (rd y462 ((rd_T83 l1 x7_3).f0)))) (ds:=[18]) #[false,false,false,false,false,false,false,false,false,false,false,false,false,false,false,false,false,false,false] (by kernel_rfl) rfl rfl ⟨(bc_ BK459.out 0).trans rfl,(bc_ BK459.out 1).trans rfl,(bc_ BK459.out 2).trans rfl,hx463_0,hx464_0⟩ (fun hHeld => ?_);refine with_tabW spec_l7Costs.tab15 spec_l7Costs.bits15 (fun HT_ HW_ => ?_)
               generalize w31.drew = w32 at HO_5 BK459 HB HQ30 HQ33 hf24_0 hx24_0 hx463_0 hx464_0 hHeld ⊢
               refine pu_ (i:=0) (N:=some 58) 19 1 ?_
               refine pu_ (i:=1) (N:=some 59) 19 3 ?_
               refine pu_ (i:=3) (N:=some 61) 19 11 ?_
               refine pu_ (i:=4) (N:=some 62) 19 27 ?_
               refine pu_ (i:=8) (N:=some 66) 19 283 ?_
               refine pu_ (i:=9) (N:=some 67) 19 795 ?_
               refine pu_ (i:=13) (N:=some 71) 19 8987 ?_
               refine ta5_ (i:=2) (N:=some 60) 19 8991 hHeld ?_
               refine ta5_ (i:=5) (N:=some 63) 19 9023 hHeld ?_
               refine pu_ (i:=6) (N:=some 64) 19 9087 ?_
               refine ta5_ (i:=7) (N:=some 65) 19 9215 hHeld ?_
               refine ta5_ (i:=10) (N:=some 68) 19 10239 hHeld ?_
               refine pu_ (i:=11) (N:=some 69) 19 12287 ?_
               refine ta5_ (i:=12) (N:=some 70) 19 16383 hHeld ?_
               refine ta5_ (i:=14) (N:=some 72) 19 32767 hHeld ?_
               refine pu_ (i:=15) (N:=some 73) 19 65535 ?_
               refine pu_ (i:=16) (N:=some 74) 19 131071 ?_
               refine pu_ (i:=17) (N:=some 75) 19 262143 ?_
               refine last_ (i:=18) (N:=none) #[true,true,true,true,true,true,true,true,true,true,true,true,true,true,true,true,true,true,true] rfl rfl (one_of HT_.out (by kernel_rfl)) (by decide) (fun K hK => ?_)
               refine skip_ (w1:=?_) (by rfl) rfl ?_ ?_
               rotate_left
               ·go_simp
                rfl
               refine hK.out _ _ ?_
               clear hK K
               refine done_ (done_of HT_.out (by kernel_rfl)) ?_
               try go_wp2
               go_roundg k3
               case measure => have:=HK1.out;have:=HK2.out;have:=HK3.out;omega
               case rel => exact ⟨(y465),(wrap64 (x7_3 + 1)),qf_,H',⟨by have:=HK1.out;have:=HK2.out;have:=HK3.out;omega⟩,⟨qr_ HQ33⟩,⟨u11_ HB GB22 GE459⟩⟩
              ·rw [if_neg c20] at H
               exact absurd H (by simp)
             ·rw [if_neg c19] at H
              exact absurd H (by simp)
            ·rw [if_neg c18] at H
             exact absurd H (by simp)
           ·rw [if_neg c17] at H
            exact absurd H (by simp)
          ·rw [if_neg c16] at H
           exact absurd H (by simp)
         ·rw [if_neg c15] at H
          have c15b0 : decide (x7_3 < (l1.length : Int)) = false:=decide_eq_false c15
          clear c15
          have H':=mk_ H
          clear H
          go_wp2
          go_roundg k3
          case measure => have:=HK1.out;have:=HK2.out;have:=HK3.out;omega
          case rel => exact ⟨(x5_3),(wrap64 (x28_2 + 1)),qf_,H',⟨by have:=HK1.out;have:=HK2.out;have:=HK3.out;omega⟩,⟨qr_ HO_5⟩,⟨u1_ HB⟩⟩
      ·rw [if_neg c14] at H
       have c14b0 : decide (x28_2 < a0) = false:=decide_eq_false c14
       clear c14
       obtain rfl:=Option.some.inj H
       go_wp2
       go_ret
       exact ⟨_,qe_,qr_ HO_5,u1_ HB⟩
/-! ### spec_l7Other: function 84 -/
def spec_l7Other.f (a0_0 : Int) (a0_1 : Int) (a0_2 : Int) (a1 : Int) : Option (Int):=if a1 = a0_0 then (some a0_1) else (if a1 = a0_1 then (some a0_0) else (some (-1)))
set_option maxHeartbeats 8000000 in
set_option maxRecDepth 100000 in
theorem spec_l7Other.calls (a0_0 : Int) (a0_1 : Int) (a0_2 : Int) (a1 : Int) (r : Int) (w : World) (h : spec_l7Other.f a0_0 a0_1 a0_2 a1 = some r) :
  Calls Try.prog 84 #[.agg #[.int .i64 a0_0,.int .i64 a0_1,.int .i64 a0_2],.int .i64 a1] w fun e w' => e = .returned (.int .i64 r) ∧ Below w.heap.size w w':=by
 have hu83:=Try.underlying83
 have HB:=mk_ (Below.refl w.heap.size w)
 have H : (if a1 = a0_0 then (some a0_1) else (if a1 = a0_1 then (some a0_0) else (some (-1)))) = some r:=h
 clear h
 by_cases c3 : a1 = a0_0
 ·rw [if_pos c3] at H
  have c3b0 : (a1 == a0_0) = true:=beq_iff_eq.mpr c3
  have c3b1 : (a1 != a0_0) = false:=bne_eq_false_iff_eq.mpr c3
  clear c3
  obtain rfl:=Option.some.inj H
  go_enter Try.func84,Try.ntmps84
  go_wp2_with (first|((with_reducible refine gate_dst (N:=2) rfl ?_);refine box_event ?hg (N:=2) ?hd (cs:=#[.int .i64 a0_0,.int .i64 a0_1,.int .i64 a0_2]) (t:=83) ?hr ?_;(case hd => rfl);(case hg => rfl);(case hr => first|(go_simp;done)|(go_simp;rfl));intro gb466 hg w4 hbox hb;have n0_:=mk_ (st_ (qb_ HB) hb);have n1_:=mk_ (hbox);have n2_:=mk_ ((by rw [hg];exact (bz_ (qb_ HB)) : w.heap.size ≤ gb466));have n3_:=mk_ ((by rw [hg];exact (bz_ (qb_ HB)) : w.heap.size ≤ gb466));clear HB;have HB:=n0_;have BK466:=n1_;have GW466:=n2_;have GE466:=n3_;clear n0_ n1_ n2_ n3_ hb hbox hg;have hcz5_0 : w4.cell? ⟨gb466,0,none⟩ = some (.int .i64 a0_0):=(bc_ BK466.out 0).trans rfl;have hcz5_1 : w4.cell? ⟨gb466,1,none⟩ = some (.int .i64 a0_1):=(bc_ BK466.out 1).trans rfl;have hcz5_2 : w4.cell? ⟨gb466,2,none⟩ = some (.int .i64 a0_2):=(bc_ BK466.out 2).trans rfl;have hfz5_0:=bf_ BK466.out 0;have hfz5_1:=bf_ BK466.out 1;have hfz5_2:=bf_ BK466.out 2))
  go_ret
  exact ⟨qe_,u0_ HB GE466⟩
 ·rw [if_neg c3] at H
  have c3b0 : (a1 == a0_0) = false:=beq_eq_false_iff_ne.mpr c3
  have c3b1 : (a1 != a0_0) = true:=bne_iff_ne.mpr c3
  by_cases c6 : a1 = a0_1
  ·rw [if_pos c6] at H
   have c6b0 : (a1 == a0_1) = true:=beq_iff_eq.mpr c6
   have c6b1 : (a1 != a0_1) = false:=bne_eq_false_iff_eq.mpr c6
   clear c6
   obtain rfl:=Option.some.inj H
   go_enter Try.func84,Try.ntmps84
   go_wp2_with (first|((with_reducible refine gate_dst (N:=2) rfl ?_);refine box_event ?hg (N:=2) ?hd (cs:=#[.int .i64 a0_0,.int .i64 a0_1,.int .i64 a0_2]) (t:=83) ?hr ?_;(case hd => rfl);(case hg => rfl);(case hr => first|(go_simp;done)|(go_simp;rfl));intro gb466 hg w7 hbox hb;have n0_:=mk_ (st_ (qb_ HB) hb);have n1_:=mk_ (hbox);have n2_:=mk_ ((by rw [hg];exact (bz_ (qb_ HB)) : w.heap.size ≤ gb466));have n3_:=mk_ ((by rw [hg];exact (bz_ (qb_ HB)) : w.heap.size ≤ gb466));clear HB;have HB:=n0_;have BK466:=n1_;have GW466:=n2_;have GE466:=n3_;clear n0_ n1_ n2_ n3_ hb hbox hg;have hcz8_0 : w7.cell? ⟨gb466,0,none⟩ = some (.int .i64 a0_0):=(bc_ BK466.out 0).trans rfl;have hcz8_1 : w7.cell? ⟨gb466,1,none⟩ = some (.int .i64 a0_1):=(bc_ BK466.out 1).trans rfl;have hcz8_2 : w7.cell? ⟨gb466,2,none⟩ = some (.int .i64 a0_2):=(bc_ BK466.out 2).trans rfl;have hfz8_0:=bf_ BK466.out 0;have hfz8_1:=bf_ BK466.out 1;have hfz8_2:=bf_ BK466.out 2))
   go_ret
   exact ⟨qe_,u0_ HB GE466⟩
  ·rw [if_neg c6] at H
   have c6b0 : (a1 == a0_1) = false:=beq_eq_false_iff_ne.mpr c6
   have c6b1 : (a1 != a0_1) = true:=bne_iff_ne.mpr c6
   obtain rfl:=Option.some.inj H
   go_enter Try.func84,Try.ntmps84
   go_wp2_with (first|((with_reducible refine gate_dst (N:=2) rfl ?_);refine box_event ?hg (N:=2) ?hd (cs:=#[.int .i64 a0_0,.int .i64 a0_1,.int .i64 a0_2]) (t:=83) ?hr ?_;(case hd => rfl);(case hg => rfl);(case hr => first|(go_simp;done)|(go_simp;rfl));intro gb466 hg w9 hbox hb;have n0_:=mk_ (st_ (qb_ HB) hb);have n1_:=mk_ (hbox);have n2_:=mk_ ((by rw [hg];exact (bz_ (qb_ HB)) : w.heap.size ≤ gb466));have n3_:=mk_ ((by rw [hg];exact (bz_ (qb_ HB)) : w.heap.size ≤ gb466));clear HB;have HB:=n0_;have BK466:=n1_;have GW466:=n2_;have GE466:=n3_;clear n0_ n1_ n2_ n3_ hb hbox hg;have hcz10_0 : w9.cell? ⟨gb466,0,none⟩ = some (.int .i64 a0_0):=(bc_ BK466.out 0).trans rfl;have hcz10_1 : w9.cell? ⟨gb466,1,none⟩ = some (.int .i64 a0_1):=(bc_ BK466.out 1).trans rfl;have hcz10_2 : w9.cell? ⟨gb466,2,none⟩ = some (.int .i64 a0_2):=(bc_ BK466.out 2).trans rfl;have hfz10_0:=bf_ BK466.out 0;have hfz10_1:=bf_ BK466.out 1;have hfz10_2:=bf_ BK466.out 2))
   go_ret
   exact ⟨qe_,u0_ HB GE466⟩
/-! ### spec_l7Up: function 81 -/
mutual
def spec_l7Up.l0 : Nat → List (S83) → List Int → Int → Int → Int → Option (Int)
 | 0,_,_,_,_,_ => none
 | k + 1,x0,x1,x2,x7,x8 => if x8 < (x0.length : Int) then (if 0 ≤ x8 then ((spec_l7Other.f ((rd_T83 x0 x8).f0) ((rd_T83 x0 x8).f1) ((rd_T83 x0 x8).f2) x2).bind fun t469 => (if t469 < 0 then (spec_l7Up.j1 k x0 x1 x2 x7 x8 t469 true) else (if 0 ≤ t469 then (if t469 < (x1.length : Int) then (if 0 ≤ x2 then (if x2 < (x1.length : Int) then (spec_l7Up.j1 k x0 x1 x2 x7 x8 t469 ((wrap64 ((rd x1 t469) + ((rd_T83 x0 x8).f2))) != (rd x1 x2))) else (none)) else (none)) else (none)) else (none)))) else (none)) else (some x7)
def spec_l7Up.j1 : Nat → List (S83) → List Int → Int → Int → Int → Int → Bool → Option (Int)
 | 0,_,_,_,_,_,_,_ => none
 | k + 1,x0,x1,x2,x7,x8,x9,x46 => if x46 = true then (spec_l7Up.l0 k x0 x1 x2 x7 (wrap64 (x8 + 1))) else (if x7 < 0 then (spec_l7Up.l0 k x0 x1 x2 x8 (wrap64 (x8 + 1))) else (if 0 ≤ x7 then (if x7 < (x0.length : Int) then ((spec_l7Other.f ((rd_T83 x0 x7).f0) ((rd_T83 x0 x7).f1) ((rd_T83 x0 x7).f2) x2).bind fun t474 => (if x9 < t474 then (spec_l7Up.l0 k x0 x1 x2 x8 (wrap64 (x8 + 1))) else (spec_l7Up.l0 k x0 x1 x2 x7 (wrap64 (x8 + 1))))) else (none)) else (none)))
end
def spec_l7Up.f (k : Nat) (l0 : List (S83)) (l1 : List Int) (a2 : Int) : Option (Int):=if 0 ≤ a2 then (if a2 < (l1.length : Int) then (if (rd l1 a2) = 0 then (some (-1)) else (spec_l7Up.l0 k l0 l1 a2 (-1) 0)) else (none)) else (none)
theorem spec_l7Up.mono_l : ∀ k,(∀ y0 y1 y2 y3 y4,LeO (spec_l7Up.l0 k y0 y1 y2 y3 y4) (spec_l7Up.l0 (k + 1) y0 y1 y2 y3 y4)) ∧ (∀ y0 y1 y2 y3 y4 y5 y6,LeO (spec_l7Up.j1 k y0 y1 y2 y3 y4 y5 y6) (spec_l7Up.j1 (k + 1) y0 y1 y2 y3 y4 y5 y6))
 | 0 => ⟨fun _ _ _ _ _ r h => by simp [spec_l7Up.l0] at h,fun _ _ _ _ _ _ _ r h => by simp [spec_l7Up.j1] at h⟩
 | k + 1 => by
  obtain ⟨ih0,ih1⟩:=spec_l7Up.mono_l k
  refine ⟨?_,?_⟩
  ·intro y0 y1 y2 y3 y4
   unfold spec_l7Up.l0
   repeat' first
   | (with_reducible exact ih0 _ _ _ _ _)
   | (with_reducible exact ih1 _ _ _ _ _ _ _)
   | (with_reducible exact LeO.refl _)
   | (with_reducible exact LeO.none _)
   | (with_reducible refine LeO.ite ?_ ?_)
   | (with_reducible refine LeO.bind ?_ (fun _ => ?_))
   | exact ih0 _ _ _ _ _
   | exact ih1 _ _ _ _ _ _ _
   | exact LeO.none _
   | refine LeO.ite ?_ ?_
   | refine LeO.bind ?_ (fun _ => ?_)
  ·intro y0 y1 y2 y3 y4 y5 y6
   unfold spec_l7Up.j1
   repeat' first
   | (with_reducible exact ih0 _ _ _ _ _)
   | (with_reducible exact ih1 _ _ _ _ _ _ _)
   | (with_reducible exact LeO.refl _)
   | (with_reducible exact LeO.none _)
   | (with_reducible refine LeO.ite ?_ ?_)
   | (with_reducible refine LeO.bind ?_ (fun _ => ?_))
   | exact ih0 _ _ _ _ _
   | exact ih1 _ _ _ _ _ _ _
   | exact LeO.none _
   | refine LeO.ite ?_ ?_
   | refine LeO.bind ?_ (fun _ => ?_)
theorem spec_l7Up.mono : ∀ a0 a1 a2 k,LeO (spec_l7Up.f k a0 a1 a2) (spec_l7Up.f (k + 1) a0 a1 a2):=by
 intro a0 a1 a2 k
 obtain ⟨ih0,ih1⟩:=spec_l7Up.mono_l k
 unfold spec_l7Up.f
 repeat' first
   | (with_reducible exact ih0 _ _ _ _ _)
   | (with_reducible exact ih1 _ _ _ _ _ _ _)
   | (with_reducible exact LeO.refl _)
   | (with_reducible exact LeO.none _)
   | (with_reducible refine LeO.ite ?_ ?_)
   | (with_reducible refine LeO.bind ?_ (fun _ => ?_))
   | exact ih0 _ _ _ _ _
   | exact ih1 _ _ _ _ _ _ _
   | exact LeO.none _
   | refine LeO.ite ?_ ?_
   | refine LeO.bind ?_ (fun _ => ?_)
set_option maxHeartbeats 8000000 in
set_option maxRecDepth 100000 in
theorem spec_l7Up.calls (k : Nat) (A0 : Option Addr) (c0 : Nat) (l0 : List (S83)) (A1 : Option Addr) (c1 : Nat) (l1 : List Int) (a2 : Int) (r : Int) (w : World) (hr0 : Kd.C k83 w A0 l0.length l0) (hc0 : l0.length ≤ c0) (hr1 : Kd.C (Kd.int .i64) w A1 l1.length l1) (hc1 : l1.length ≤ c1) (h : spec_l7Up.f k l0 l1 a2 = some r) :
  Calls Try.prog 81 #[.slice A0 l0.length c0,.slice A1 l1.length c1,.int .i64 a2] w fun e w' => e = .returned (.int .i64 r) ∧ Below w.heap.size w w':=by
 have hu83:=Try.underlying83
 have HR0:=mk_ hr0
 have HC0:=mk_ hc0
 clear hr0 hc0
 have HR1:=mk_ hr1
 have HC1:=mk_ hc1
 clear hr1 hc1
 have HB:=mk_ (Below.refl w.heap.size w)
 have H : (if 0 ≤ a2 then (if a2 < (l1.length : Int) then (if (rd l1 a2) = 0 then (some (-1)) else (spec_l7Up.l0 k l0 l1 a2 (-1) 0)) else (none)) else (none)) = some r:=h
 clear h
 by_cases c4 : 0 ≤ a2
 ·rw [if_pos c4] at H
  have c4b0 : decide (0 ≤ a2) = true:=decide_eq_true c4
  clear c4
  by_cases c5 : a2 < (l1.length : Int)
  ·rw [if_pos c5] at H
   have c5b0 : decide (a2 < (l1.length : Int)) = true:=decide_eq_true c5
   clear c5
   by_cases c6 : (rd l1 a2) = 0
   ·rw [if_pos c6] at H
    have c6b0 : ((rd l1 a2) == 0) = true:=beq_iff_eq.mpr c6
    have c6b1 : ((rd l1 a2) != 0) = false:=bne_eq_false_iff_eq.mpr c6
    clear c6
    obtain rfl:=Option.some.inj H
    have p467 : 0 ≤ (a2 : Int):=od_ qa_
    have q467 : a2 < (l1.length : Int):=od_ qa_
    obtain ⟨ad467,e467,hx467_0⟩:=Kd.at_int HR1.out a2 p467 q467
    cases e467
    replace p467:=eq_true p467
    replace q467:=eq_true q467
    go_enter Try.func81,Try.ntmps81
    go_wp2
    repeat (go_quiet (fail);try go_wp2)
    go_ret
    exact ⟨qe_,u1_ HB⟩
   ·rw [if_neg c6] at H
    have c6b0 : ((rd l1 a2) == 0) = false:=beq_eq_false_iff_ne.mpr c6
    have c6b1 : ((rd l1 a2) != 0) = true:=bne_iff_ne.mpr c6
    have H':=mk_ H
    clear H
    have p467 : 0 ≤ (a2 : Int):=od_ qa_
    have q467 : a2 < (l1.length : Int):=od_ qa_
    obtain ⟨ad467,e467,hx467_0⟩:=Kd.at_int HR1.out a2 p467 q467
    cases e467
    replace p467:=eq_true p467
    replace q467:=eq_true q467
    go_enter Try.func81,Try.ntmps81
    go_wp2
    repeat (go_quiet (fail);try go_wp2)
    go_loopg [7,8] k (fun kq v7 v8 w' => ∃ (x7_1 : Int) (x8_1 : Int),v7 = .int .i64 x7_1 ∧ v8 = .int .i64 x8_1 ∧ Aside0 (spec_l7Up.l0 kq l0 l1 a2 x7_1 x8_1 = some r) ∧ Aside0 (kq ≤ k) ∧ Aside0 (Below w.heap.size w w'))
    case atStart => exact ⟨((-1)),(0),qf_,qf_,H',⟨Nat.le_refl _⟩,⟨u1_ HB⟩⟩
    case round =>
     clear H'
     try clear c1
     try clear p2
     try clear c4
     try clear c4b0
     try clear p4
     try clear q4
     try clear hx4
     try clear c5
     try clear c5b0
     try clear c6
     try clear c6b0
     try clear c6b1
     try clear hx467_0
     try clear p467
     try clear q467
     obtain ⟨x7_1,x8_1,rfl,rfl,HA,HK1,HB⟩:=hrel
     cases gk with
     | zero => exact absurd HA.out (by simp [spec_l7Up.l0])
     | succ k1 =>
      have H:=HA.out
      clear HA
      simp only [spec_l7Up.l0] at H
      by_cases c7 : x8_1 < (l0.length : Int)
      ·rw [if_pos c7] at H
       have c7b0 : decide (x8_1 < (l0.length : Int)) = true:=decide_eq_true c7
       clear c7
       by_cases c8 : 0 ≤ x8_1
       ·rw [if_pos c8] at H
        have c8b0 : decide (0 ≤ x8_1) = true:=decide_eq_true c8
        clear c8
        replace H:=Option.bind_eq_some_iff.mp H
        obtain ⟨t469,A90,H⟩:=H
        replace H : (if t469 < 0 then (spec_l7Up.j1 k1 l0 l1 a2 x7_1 x8_1 t469 true) else (if 0 ≤ t469 then (if t469 < (l1.length : Int) then (if 0 ≤ a2 then (if a2 < (l1.length : Int) then (spec_l7Up.j1 k1 l0 l1 a2 x7_1 x8_1 t469 ((wrap64 ((rd l1 t469) + ((rd_T83 l0 x8_1).f2))) != (rd l1 a2))) else (none)) else (none)) else (none)) else (none))) = some r:=H
        have A9:=mk_ A90
        clear A90
        have HC10:=mk_ H
        clear H
        have p468 : 0 ≤ (x8_1 : Int):=od_ qa_
        have q468 : x8_1 < (l0.length : Int):=od_ qa_
        obtain ⟨ad468,e468,hx468_0,hx468_1,hx468_2⟩:=at_T83 HR0.out x8_1 p468 q468
        cases e468
        replace hx468_0:=(HB.out.cell (wl_ w _ hx468_0)).trans hx468_0
        replace hx468_1:=(HB.out.cell (wl_ w _ hx468_1)).trans hx468_1
        replace hx468_2:=(HB.out.cell (wl_ w _ hx468_2)).trans hx468_2
        replace p468:=eq_true p468
        replace q468:=eq_true q468
        go_upto_region 8 with (first|(go_at_call 84;(with_reducible refine (spec_l7Other.calls ((rd_T83 l0 x8_1).f0) ((rd_T83 l0 x8_1).f1) ((rd_T83 l0 x8_1).f2) a2 t469 _ A9.out).mono ?_);rintro e w11 ⟨rfl,hb⟩;have n0_:=mk_ (st_ (qb_ HB) hb);clear HB;have HB:=n0_;clear n0_;(try clear hb);(try clear hb2);(try clear hk);(try clear hi)))
        repeat (go_quiet (first|(go_at_call 84;(with_reducible refine (spec_l7Other.calls ((rd_T83 l0 x8_1).f0) ((rd_T83 l0 x8_1).f1) ((rd_T83 l0 x8_1).f2) a2 t469 _ A9.out).mono ?_);rintro e w11 ⟨rfl,hb⟩;have n0_:=mk_ (st_ (qb_ HB) hb);clear HB;have HB:=n0_;clear n0_;(try clear hb);(try clear hb2);(try clear hk);(try clear hi)));go_upto_region 8 with (first|(go_at_call 84;(with_reducible refine (spec_l7Other.calls ((rd_T83 l0 x8_1).f0) ((rd_T83 l0 x8_1).f1) ((rd_T83 l0 x8_1).f2) a2 t469 _ A9.out).mono ?_);rintro e w11 ⟨rfl,hb⟩;have n0_:=mk_ (st_ (qb_ HB) hb);clear HB;have HB:=n0_;clear n0_;(try clear hb);(try clear hb2);(try clear hk);(try clear hi))))
        (try simp only [Act.put,sx_,sy_,sz_])
        go_cut [46] (fun v46 wc => ∃ (kq : Nat) (x46_9 : Bool),v46 = .bool x46_9 ∧ Aside0 (spec_l7Up.j1 kq l0 l1 a2 x7_1 x8_1 t469 x46_9 = some r) ∧ Aside0 (kq ≤ k1) ∧ Aside0 (Below w.heap.size w wc))
        case first =>
         have H:=HC10.out
         clear HC10
         by_cases c12 : t469 < 0
         ·rw [if_pos c12] at H
          have c12b0 : decide (t469 < 0) = true:=decide_eq_true c12
          clear c12
          (first|rw [c12b0]|(simp only [i64_w,i32_w];rw [c12b0])|skip)
          have H':=mk_ H
          clear H
          go_wp2
          repeat (go_quiet (fail);try go_wp2)
          go_meet
          case rel => exact ⟨_,(true),qf_,H',⟨by have:=HK1.out;first|omega|exact Nat.le_refl _⟩,⟨u1_ HB⟩⟩
         ·rw [if_neg c12] at H
          have c12b0 : decide (t469 < 0) = false:=decide_eq_false c12
          clear c12
          (first|rw [c12b0]|(simp only [i64_w,i32_w];rw [c12b0])|skip)
          by_cases c13 : 0 ≤ t469
          ·rw [if_pos c13] at H
           have c13b0 : decide (0 ≤ t469) = true:=decide_eq_true c13
           clear c13
           by_cases c14 : t469 < (l1.length : Int)
           ·rw [if_pos c14] at H
            have c14b0 : decide (t469 < (l1.length : Int)) = true:=decide_eq_true c14
            clear c14
            by_cases c15 : 0 ≤ a2
            ·rw [if_pos c15] at H
             have c15b0 : decide (0 ≤ a2) = true:=decide_eq_true c15
             clear c15
             by_cases c16 : a2 < (l1.length : Int)
             ·rw [if_pos c16] at H
              have c16b0 : decide (a2 < (l1.length : Int)) = true:=decide_eq_true c16
              clear c16
              have H':=mk_ H
              clear H
              have p470 : 0 ≤ (t469 : Int):=od_ qa_
              have q470 : t469 < (l1.length : Int):=od_ qa_
              obtain ⟨ad470,e470,hx470_0⟩:=Kd.at_int HR1.out t469 p470 q470
              obtain rfl : ad467 = ad470:=(by injection e470)
              replace hx470_0:=(HB.out.cell (wl_ w _ hx470_0)).trans hx470_0
              replace p470:=eq_true p470
              replace q470:=eq_true q470
              have p471 : 0 ≤ (x8_1 : Int):=od_ qa_
              have q471 : x8_1 < (l0.length : Int):=od_ qa_
              obtain ⟨ad471,e471,hx471_0,hx471_1,hx471_2⟩:=at_T83 HR0.out x8_1 p471 q471
              obtain rfl : ad468 = ad471:=(by injection e471)
              replace hx471_0:=(HB.out.cell (wl_ w _ hx471_0)).trans hx471_0
              replace hx471_1:=(HB.out.cell (wl_ w _ hx471_1)).trans hx471_1
              replace hx471_2:=(HB.out.cell (wl_ w _ hx471_2)).trans hx471_2
              replace p471:=eq_true p471
              replace q471:=eq_true q471
              have p472 : 0 ≤ (a2 : Int):=od_ qa_
              have q472 : a2 < (l1.length : Int):=od_ qa_
              obtain ⟨ad472,e472,hx472_0⟩:=Kd.at_int HR1.out a2 p472 q472
              obtain rfl : ad467 = ad472:=(by injection e472)
              replace hx472_0:=(HB.out.cell (wl_ w _ hx472_0)).trans hx472_0
              replace p472:=eq_true p472
              replace q472:=eq_true q472
              go_wp2
              repeat (go_quiet (fail);try go_wp2)
              go_meet
              case rel => exact ⟨_,(((wrap64 ((rd l1 t469) + ((rd_T83 l0 x8_1).f2))) != (rd l1 a2))),qf_,H',⟨by have:=HK1.out;first|omega|exact Nat.le_refl _⟩,⟨u1_ HB⟩⟩
             ·rw [if_neg c16] at H
              exact absurd H (by simp)
            ·rw [if_neg c15] at H
             exact absurd H (by simp)
           ·rw [if_neg c14] at H
            exact absurd H (by simp)
          ·rw [if_neg c13] at H
           exact absurd H (by simp)
        case rest =>
         clear HC10
         try clear c1
         try clear p2
         try clear c4
         try clear c4b0
         try clear p4
         try clear q4
         try clear hx4
         try clear c5
         try clear c5b0
         try clear c6
         try clear c6b0
         try clear c6b1
         try clear p6
         try clear c7
         try clear c7b0
         try clear c8
         try clear c8b0
         try clear c12
         try clear c12b0
         try clear c13
         try clear c13b0
         try clear c14
         try clear c14b0
         try clear c15
         try clear c15b0
         try clear c16
         try clear c16b0
         try clear hx467_0
         try clear hx468_0
         try clear hx468_1
         try clear hx468_2
         try clear hx470_0
         try clear hx471_0
         try clear hx471_1
         try clear hx471_2
         try clear hx472_0
         try clear p2
         try clear p4
         try clear p467
         try clear p468
         try clear p470
         try clear p471
         try clear p472
         try clear q4
         try clear q467
         try clear q468
         try clear q470
         try clear q471
         try clear q472
         obtain ⟨kq,x46_9,rfl,HA,HJ9,HB⟩:=hcut
         cases kq with
         | zero => exact absurd HA.out (by simp [spec_l7Up.j1])
         | succ kj9 =>
          have H:=HA.out
          clear HA
          simp only [spec_l7Up.j1] at H
          by_cases c17 : x46_9 = true
          ·subst c17
           have H1 : (spec_l7Up.l0 kj9 l0 l1 a2 x7_1 (wrap64 (x8_1 + 1))) = some r:=by rw [if_pos rfl] at H;exact H
           clear H
           have H:=H1
           clear H1
           have H':=mk_ H
           clear H
           go_wp2
           repeat (go_quiet (fail);try go_wp2)
           go_roundg kj9
           case measure => have:=HK1.out;have:=HJ9.out;omega
           case rel => exact ⟨(x7_1),(wrap64 (x8_1 + 1)),qf_,qf_,H',⟨by have:=HK1.out;have:=HJ9.out;omega⟩,⟨u1_ HB⟩⟩
          ·replace c17:=Bool.eq_false_iff.mpr c17
           subst c17
           have H1 : (if x7_1 < 0 then (spec_l7Up.l0 kj9 l0 l1 a2 x8_1 (wrap64 (x8_1 + 1))) else (if 0 ≤ x7_1 then (if x7_1 < (l0.length : Int) then ((spec_l7Other.f ((rd_T83 l0 x7_1).f0) ((rd_T83 l0 x7_1).f1) ((rd_T83 l0 x7_1).f2) a2).bind fun t474 => (if t469 < t474 then (spec_l7Up.l0 kj9 l0 l1 a2 x8_1 (wrap64 (x8_1 + 1))) else (spec_l7Up.l0 kj9 l0 l1 a2 x7_1 (wrap64 (x8_1 + 1))))) else (none)) else (none))) = some r:=by rw [if_neg (show ¬ (false = true) by decide)] at H;exact H
           clear H
           have H:=H1
           clear H1
           by_cases c18 : x7_1 < 0
           ·rw [if_pos c18] at H
            have c18b0 : decide (x7_1 < 0) = true:=decide_eq_true c18
            clear c18
            have H':=mk_ H
            clear H
            go_wp2
            repeat (go_quiet (fail);try go_wp2)
            go_roundg kj9
            case measure => have:=HK1.out;have:=HJ9.out;omega
            case rel => exact ⟨(x8_1),(wrap64 (x8_1 + 1)),qf_,qf_,H',⟨by have:=HK1.out;have:=HJ9.out;omega⟩,⟨u1_ HB⟩⟩
           ·rw [if_neg c18] at H
            have c18b0 : decide (x7_1 < 0) = false:=decide_eq_false c18
            clear c18
            by_cases c19 : 0 ≤ x7_1
            ·rw [if_pos c19] at H
             have c19b0 : decide (0 ≤ x7_1) = true:=decide_eq_true c19
             clear c19
             by_cases c20 : x7_1 < (l0.length : Int)
             ·rw [if_pos c20] at H
              have c20b0 : decide (x7_1 < (l0.length : Int)) = true:=decide_eq_true c20
              clear c20
              replace H:=Option.bind_eq_some_iff.mp H
              obtain ⟨t474,A210,H⟩:=H
              replace H : (if t469 < t474 then (spec_l7Up.l0 kj9 l0 l1 a2 x8_1 (wrap64 (x8_1 + 1))) else (spec_l7Up.l0 kj9 l0 l1 a2 x7_1 (wrap64 (x8_1 + 1)))) = some r:=H
              have A21:=mk_ A210
              clear A210
              by_cases c22 : t469 < t474
              ·rw [if_pos c22] at H
               have c22b0 : decide (t469 < t474) = true:=decide_eq_true c22
               clear c22
               have H':=mk_ H
               clear H
               have p473 : 0 ≤ (x7_1 : Int):=od_ qa_
               have q473 : x7_1 < (l0.length : Int):=od_ qa_
               obtain ⟨ad473,e473,hx473_0,hx473_1,hx473_2⟩:=at_T83 HR0.out x7_1 p473 q473
               obtain rfl : ad468 = ad473:=(by injection e473)
               replace hx473_0:=(HB.out.cell (wl_ w _ hx473_0)).trans hx473_0
               replace hx473_1:=(HB.out.cell (wl_ w _ hx473_1)).trans hx473_1
               replace hx473_2:=(HB.out.cell (wl_ w _ hx473_2)).trans hx473_2
               replace p473:=eq_true p473
               replace q473:=eq_true q473
               go_wp2_with (first|(go_at_call 84;(with_reducible refine (spec_l7Other.calls ((rd_T83 l0 x7_1).f0) ((rd_T83 l0 x7_1).f1) ((rd_T83 l0 x7_1).f2) a2 t474 _ A21.out).mono ?_);rintro e w23 ⟨rfl,hb⟩;have n0_:=mk_ (st_ (qb_ HB) hb);clear HB;have HB:=n0_;clear n0_;(try clear hb);(try clear hb2);(try clear hk);(try clear hi)))
               repeat (go_quiet (first|(go_at_call 84;(with_reducible refine (spec_l7Other.calls ((rd_T83 l0 x7_1).f0) ((rd_T83 l0 x7_1).f1) ((rd_T83 l0 x7_1).f2) a2 t474 _ A21.out).mono ?_);rintro e w23 ⟨rfl,hb⟩;have n0_:=mk_ (st_ (qb_ HB) hb);clear HB;have HB:=n0_;clear n0_;(try clear hb);(try clear hb2);(try clear hk);(try clear hi)));try go_wp2_with (first|(go_at_call 84;(with_reducible refine (spec_l7Other.calls ((rd_T83 l0 x7_1).f0) ((rd_T83 l0 x7_1).f1) ((rd_T83 l0 x7_1).f2) a2 t474 _ A21.out).mono ?_);rintro e w23 ⟨rfl,hb⟩;have n0_:=mk_ (st_ (qb_ HB) hb);clear HB;have HB:=n0_;clear n0_;(try clear hb);(try clear hb2);(try clear hk);(try clear hi))))
               go_roundg kj9
               case measure => have:=HK1.out;have:=HJ9.out;omega
               case rel => exact ⟨(x8_1),(wrap64 (x8_1 + 1)),qf_,qf_,H',⟨by have:=HK1.out;have:=HJ9.out;omega⟩,⟨u1_ HB⟩⟩
              ·rw [if_neg c22] at H
               have c22b0 : decide (t469 < t474) = false:=decide_eq_false c22
               clear c22
               have H':=mk_ H
               clear H
               have p473 : 0 ≤ (x7_1 : Int):=od_ qa_
               have q473 : x7_1 < (l0.length : Int):=od_ qa_
               obtain ⟨ad473,e473,hx473_0,hx473_1,hx473_2⟩:=at_T83 HR0.out x7_1 p473 q473
               obtain rfl : ad468 = ad473:=(by injection e473)
               replace hx473_0:=(HB.out.cell (wl_ w _ hx473_0)).trans hx473_0
               replace hx473_1:=(HB.out.cell (wl_ w _ hx473_1)).trans hx473_1
               replace hx473_2:=(HB.out.cell (wl_ w _ hx473_2)).trans hx473_2
               replace p473:=eq_true p473
               replace q473:=eq_true q473
               go_wp2_with (first|(go_at_call 84;(with_reducible refine (spec_l7Other.calls ((rd_T83 l0 x7_1).f0) ((rd_T83 l0 x7_1).f1) ((rd_T83 l0 x7_1).f2) a2 t474 _ A21.out).mono ?_);rintro e w24 ⟨rfl,hb⟩;have n0_:=mk_ (st_ (qb_ HB) hb);clear HB;have HB:=n0_;clear n0_;(try clear hb);(try clear hb2);(try clear hk);(try clear hi)))
               repeat (go_quiet (first|(go_at_call 84;(with_reducible refine (spec_l7Other.calls ((rd_T83 l0 x7_1).f0) ((rd_T83 l0 x7_1).f1) ((rd_T83 l0 x7_1).f2) a2 t474 _ A21.out).mono ?_);rintro e w24 ⟨rfl,hb⟩;have n0_:=mk_ (st_ (qb_ HB) hb);clear HB;have HB:=n0_;clear n0_;(try clear hb);(try clear hb2);(try clear hk);(try clear hi)));try go_wp2_with (first|(go_at_call 84;(with_reducible refine (spec_l7Other.calls ((rd_T83 l0 x7_1).f0) ((rd_T83 l0 x7_1).f1) ((rd_T83 l0 x7_1).f2) a2 t474 _ A21.out).mono ?_);rintro e w24 ⟨rfl,hb⟩;have n0_:=mk_ (st_ (qb_ HB) hb);clear HB;have HB:=n0_;clear n0_;(try clear hb);(try clear hb2);(try clear hk);(try clear hi))))
               go_roundg kj9
               case measure => have:=HK1.out;have:=HJ9.out;omega
               case rel => exact ⟨(x7_1),(wrap64 (x8_1 + 1)),qf_,qf_,H',⟨by have:=HK1.out;have:=HJ9.out;omega⟩,⟨u1_ HB⟩⟩
             ·rw [if_neg c20] at H
              exact absurd H (by simp)
            ·rw [if_neg c19] at H
             exact absurd H (by simp)
       ·rw [if_neg c8] at H
        exact absurd H (by simp)
      ·rw [if_neg c7] at H
       have c7b0 : decide (x8_1 < (l0.length : Int)) = false:=decide_eq_false c7
       clear c7
       obtain rfl:=Option.some.inj H
       go_wp2
       repeat (go_quiet (fail);try go_wp2)
       go_ret
       exact ⟨qe_,u1_ HB⟩
  ·rw [if_neg c5] at H
   exact absurd H (by simp)
 ·rw [if_neg c4] at H
  exact absurd H (by simp)
/-! ### spec_TreeOf: function 40 -/
mutual
def spec_TreeOf.l0 : Nat → Int → List (S83) → List Int → List Int → Int → Option (List Int)
 | 0,_,_,_,_,_ => none
 | k + 1,x0,x1,x5,x6,x7 => if x7 < (x1.length : Int) then (spec_TreeOf.l1 k x0 x1 x5 x6 x7 0) else (some x5)
def spec_TreeOf.l1 : Nat → Int → List (S83) → List Int → List Int → Int → Int → Option (List Int)
 | 0,_,_,_,_,_,_ => none
 | k + 1,x0,x1,x5,x6,x7,x8 => if x8 < x0 then ((spec_l7Up.f k x1 x6 x8).bind fun t482 => (if t482 = x7 then (if x5.length < 17592186044416 then (spec_TreeOf.l1 k x0 x1 (x5 ++ [x7]) x6 x7 (wrap64 (x8 + 1))) else (none)) else (spec_TreeOf.l1 k x0 x1 x5 x6 x7 (wrap64 (x8 + 1))))) else (spec_TreeOf.l0 k x0 x1 x5 x6 (wrap64 (x7 + 1)))
end
def spec_TreeOf.f (k : Nat) (a0 : Int) (l1 : List (S83)) : Option (List Int):=(some (([] : List Int) : List Int)).bind fun y475 => ((spec_CablesValid.f k a0 l1).bind fun t478 => (if t478 = true then ((spec_l7Costs.f k a0 l1).bind fun t479 => (spec_TreeOf.l0 k a0 l1 y475 t479 0)) else (some y475)))
theorem spec_TreeOf.mono_l : ∀ k,(∀ y0 y1 y2 y3 y4,LeO (spec_TreeOf.l0 k y0 y1 y2 y3 y4) (spec_TreeOf.l0 (k + 1) y0 y1 y2 y3 y4)) ∧ (∀ y0 y1 y2 y3 y4 y5,LeO (spec_TreeOf.l1 k y0 y1 y2 y3 y4 y5) (spec_TreeOf.l1 (k + 1) y0 y1 y2 y3 y4 y5))
 | 0 => ⟨fun _ _ _ _ _ r h => by simp [spec_TreeOf.l0] at h,fun _ _ _ _ _ _ r h => by simp [spec_TreeOf.l1] at h⟩
 | k + 1 => by
  obtain ⟨ih0,ih1⟩:=spec_TreeOf.mono_l k
  refine ⟨?_,?_⟩
  ·intro y0 y1 y2 y3 y4
   unfold spec_TreeOf.l0
   repeat' first
   | (with_reducible exact ih0 _ _ _ _ _)
   | (with_reducible exact ih1 _ _ _ _ _ _)
   | (with_reducible exact spec_CablesValid.mono _ _ _)
   | (with_reducible exact spec_l7Costs.mono _ _ _)
   | (with_reducible exact spec_l7Up.mono _ _ _ _)
   | (with_reducible exact LeO.refl _)
   | (with_reducible exact LeO.none _)
   | (with_reducible refine LeO.ite ?_ ?_)
   | (with_reducible refine LeO.bind ?_ (fun _ => ?_))
   | exact ih0 _ _ _ _ _
   | exact ih1 _ _ _ _ _ _
   | exact spec_CablesValid.mono _ _ _
   | exact spec_l7Costs.mono _ _ _
   | exact spec_l7Up.mono _ _ _ _
   | exact LeO.none _
   | refine LeO.ite ?_ ?_
   | refine LeO.bind ?_ (fun _ => ?_)
  ·intro y0 y1 y2 y3 y4 y5
   unfold spec_TreeOf.l1
   repeat' first
   | (with_reducible exact ih0 _ _ _ _ _)
   | (with_reducible exact ih1 _ _ _ _ _ _)
   | (with_reducible exact spec_CablesValid.mono _ _ _)
   | (with_reducible exact spec_l7Costs.mono _ _ _)
   | (with_reducible exact spec_l7Up.mono _ _ _ _)
   | (with_reducible exact LeO.refl _)
   | (with_reducible exact LeO.none _)
   | (with_reducible refine LeO.ite ?_ ?_)
   | (with_reducible refine LeO.bind ?_ (fun _ => ?_))
   | exact ih0 _ _ _ _ _
   | exact ih1 _ _ _ _ _ _
   | exact spec_CablesValid.mono _ _ _
   | exact spec_l7Costs.mono _ _ _
   | exact spec_l7Up.mono _ _ _ _
   | exact LeO.none _
   | refine LeO.ite ?_ ?_
   | refine LeO.bind ?_ (fun _ => ?_)
theorem spec_TreeOf.mono : ∀ a0 a1 k,LeO (spec_TreeOf.f k a0 a1) (spec_TreeOf.f (k + 1) a0 a1):=by
 intro a0 a1 k
 obtain ⟨ih0,ih1⟩:=spec_TreeOf.mono_l k
 unfold spec_TreeOf.f
 repeat' first
   | (with_reducible exact ih0 _ _ _ _ _)
   | (with_reducible exact ih1 _ _ _ _ _ _)
   | (with_reducible exact spec_CablesValid.mono _ _ _)
   | (with_reducible exact spec_l7Costs.mono _ _ _)
   | (with_reducible exact spec_l7Up.mono _ _ _ _)
   | (with_reducible exact LeO.refl _)
   | (with_reducible exact LeO.none _)
   | (with_reducible refine LeO.ite ?_ ?_)
   | (with_reducible refine LeO.bind ?_ (fun _ => ?_))
   | exact ih0 _ _ _ _ _
   | exact ih1 _ _ _ _ _ _
   | exact spec_CablesValid.mono _ _ _
   | exact spec_l7Costs.mono _ _ _
   | exact spec_l7Up.mono _ _ _ _
   | exact LeO.none _
   | refine LeO.ite ?_ ?_
   | refine LeO.bind ?_ (fun _ => ?_)
set_option maxHeartbeats 8000000 in
set_option maxRecDepth 100000 in
theorem spec_TreeOf.calls (k : Nat) (a0 : Int) (A1 : Option Addr) (c1 : Nat) (l1 : List (S83)) (r : List Int) (w : World) (hr1 : Kd.C k83 w A1 l1.length l1) (hc1 : l1.length ≤ c1) (h : spec_TreeOf.f k a0 l1 = some r) :
  Calls Try.prog 40 #[.int .i64 a0,.slice A1 l1.length c1] w fun e w' => ∃ v0_ : Value,e = .returned (v0_) ∧ Kd.R (Kd.int .i64) 3 w' w.heap.size (fun _ => True) v0_ r ∧ Below w.heap.size w w':=by
 have HR1:=mk_ hr1
 have HC1:=mk_ hc1
 clear hr1 hc1
 have HB:=mk_ (Below.refl w.heap.size w)
 have H : ((some (([] : List Int) : List Int)).bind fun y475 => ((spec_CablesValid.f k a0 l1).bind fun t478 => (if t478 = true then ((spec_l7Costs.f k a0 l1).bind fun t479 => (spec_TreeOf.l0 k a0 l1 y475 t479 0)) else (some y475)))) = some r:=h
 clear h
 obtain ⟨y475,hy475⟩ : ∃ y_ : List Int,y_ = (([] : List Int)):=⟨_,rfl⟩
 replace H : ((spec_CablesValid.f k a0 l1).bind fun t478 => (if t478 = true then ((spec_l7Costs.f k a0 l1).bind fun t479 => (spec_TreeOf.l0 k a0 l1 y475 t479 0)) else (some y475))) = some r:=by first|(rw [hy475];with_reducible exact H)|(have H2_:=(Option.bind_some _ _).symm.trans H;rw [hy475];with_reducible exact H2_)|(have H2_:=(Option.bind_some _ _).symm.trans H;with_reducible exact H2_)|with_reducible exact H|(rw [hy475];exact H)|exact H
 have Ny475:=mk_ hy475
 clear hy475
 replace H:=Option.bind_eq_some_iff.mp H
 obtain ⟨t478,A30,H⟩:=H
 replace H : (if t478 = true then ((spec_l7Costs.f k a0 l1).bind fun t479 => (spec_TreeOf.l0 k a0 l1 y475 t479 0)) else (some y475)) = some r:=H
 have A3:=mk_ A30
 clear A30
 by_cases c4 : t478 = true
 ·subst c4
  have H1 : ((spec_l7Costs.f k a0 l1).bind fun t479 => (spec_TreeOf.l0 k a0 l1 y475 t479 0)) = some r:=by rw [if_pos rfl] at H;exact H
  clear H
  have H:=H1
  clear H1
  replace H:=Option.bind_eq_some_iff.mp H
  obtain ⟨t479,A50,H⟩:=H
  replace H : (spec_TreeOf.l0 k a0 l1 y475 t479 0) = some r:=H
  have A5:=mk_ A50
  clear A50
  have H':=mk_ H
  clear H
  go_enter Try.func40,Try.ntmps40
  go_wp2_with (first|((with_reducible refine gate_dst (N:=9) rfl ?_);refine Kd.R_lit (Kd.int .i64) _ 3 ?hg (N:=9) ?hd (xs:=([] : List Int)) (inner:=[]) (ok:=fun _ => True) (okp:=fun _ => True) ?hr ?hp (fun _ hk => hk) trivial (Below.refl _ _) (Nat.le_refl _) (by simp) ?_;(case hd => rfl);(case hg => rfl);(case hr => first|(go_simp;done)|(go_simp;rfl));(case hp => exact (Reps.none _ _));intro v476 w6 ho7 hb hg_ hnew_;clear hg_ hnew_;(first|rw [← Ny475.out] at ho7|(simp only [Int.reduceToNat] at ho7;rw [← Ny475.out] at ho7));have n0_:=mk_ (Kd.R_lower ho7 (bz_ (qb_ HB)));have n1_:=mk_ (st_ (qb_ HB) hb);clear HB;have HO477:=n0_;have HB:=n1_;clear n0_ n1_ hb ho7)|((with_reducible refine gate_callee (f:=79) rfl ?_);refine goesL_ (some 12) rfl rfl Try.func79 (by kernel_rfl) rfl #[.int .i64 a0,.slice A1 l1.length c1] rfl qm_ ?_;(with_reducible refine (spec_CablesValid.calls k a0 _ _ l1 true _ ?side1 ?side2 A3.out).mono ?_);(case side1 => exact qn_ HR1 HB);(case side2 => exact HC1.out);rintro e w8 ⟨rfl,hb⟩;refine ⟨_,rfl,?_⟩;have n0_:=mk_ (rb_ (qr_ HO477) hb);have n1_:=mk_ (st_ (qb_ HB) hb);clear HO477 HB;have HO477:=n0_;have HB:=n1_;clear n0_ n1_;(try clear hb);(try clear hb2);(try clear hk);(try clear hi))|((with_reducible refine gate_callee (f:=80) rfl ?_);refine goesL_ (some 17) rfl rfl Try.func80 (by kernel_rfl) rfl #[.int .i64 a0,.slice A1 l1.length c1] rfl qm_ ?_;(with_reducible refine (spec_l7Costs.calls k a0 _ _ l1 t479 _ ?side1 ?side2 A5.out).mono ?_);(case side1 => exact qn_ HR1 HB);(case side2 => exact HC1.out);rintro e w9 ⟨v480,rfl,ho0,hb⟩;refine ⟨_,rfl,?_⟩;have n0_:=mk_ (re_ (qr_ HO477) (Kd.R_base ho0) hb);have n1_:=mk_ (Kd.R_lower (Kd.R_new' ho0 (Kd.R_lt (qr_ HO477))) (bz_ (qb_ HB)));have n2_:=mk_ (st_ (qb_ HB) hb);clear HO477 HB;have HO477:=n0_;have HO481:=n1_;have HB:=n2_;clear n0_ n1_ n2_;(try clear hb);(try clear hb2);(try clear hk);(try clear hi);(try clear ho0)))
  go_loopg [5,7] k (fun kq v5 v7 w' => ∃ (x5_1 : List Int) (x7_1 : Int),v7 = .int .i64 x7_1 ∧ Aside0 (spec_TreeOf.l0 kq a0 l1 x5_1 t479 x7_1 = some r) ∧ Aside0 (kq ≤ k) ∧ Aside0 (Kd.R (Kd.int .i64) 3 w' w.heap.size (fun k_ => some k_ ≠ (v480 : Value).ownBlock) v5 x5_1) ∧ Aside0 (Kd.R (Kd.int .i64) 3 w' w.heap.size (fun k_ => some k_ ≠ (v5 : Value).ownBlock) v480 t479) ∧ Aside0 (Below w.heap.size w w'))
  case atStart => exact ⟨(y475),(0),qf_,H',⟨Nat.le_refl _⟩,⟨by (with_reducible repeat (first|apply ra_|apply rn_|apply rd_));exact rm_ HO477.out (λ_ h=>h.2)⟩,⟨by (with_reducible repeat (first|apply ra_|apply rn_|apply rd_));exact rm_ HO481.out (λ_ h=>h.2)⟩,⟨u1_ HB⟩⟩
  case round =>
   clear H'
   try clear c1
   try clear p2
   try clear c4
   try clear c7
   try clear c8
   obtain ⟨x5_1,x7_1,rfl,HA,HK1,HO_5,HO_6,HB⟩:=hrel
   cases gk with
   | zero => exact absurd HA.out (by simp [spec_TreeOf.l0])
   | succ k1 =>
    have H:=HA.out
    clear HA
    simp only [spec_TreeOf.l0] at H
    by_cases c10 : x7_1 < (l1.length : Int)
    ·rw [if_pos c10] at H
     have c10b0 : decide (x7_1 < (l1.length : Int)) = true:=decide_eq_true c10
     clear c10
     have H':=mk_ H
     clear H
     go_wp2
     go_loopg [5,8] k1 (fun kq v5 v8 w' => ∃ (x5_2 : List Int) (x8_2 : Int),v8 = .int .i64 x8_2 ∧ Aside0 (spec_TreeOf.l1 kq a0 l1 x5_2 t479 x7_1 x8_2 = some r) ∧ Aside0 (kq ≤ k1) ∧ Aside0 (Kd.R (Kd.int .i64) 3 w' w.heap.size (fun k_ => some k_ ≠ (v480 : Value).ownBlock) v5 x5_2) ∧ Aside0 (Kd.R (Kd.int .i64) 3 w' w.heap.size (fun k_ => some k_ ≠ (v5 : Value).ownBlock) v480 t479) ∧ Aside0 (Below w.heap.size w w'))
     case atStart => exact ⟨(x5_1),(0),qf_,H',⟨Nat.le_refl _⟩,⟨qr_ HO_5⟩,⟨qr_ HO_6⟩,⟨u1_ HB⟩⟩
     case round =>
      clear H'
      try clear c1
      try clear p2
      try clear c4
      try clear c7
      try clear c8
      try clear c10
      try clear c10b0
      try clear p2
      obtain ⟨x5_2,x8_2,rfl,HA,HK2,HO_5,HO_6,HB⟩:=hrel
      cases gk with
      | zero => exact absurd HA.out (by simp [spec_TreeOf.l1])
      | succ k2 =>
       have H:=HA.out
       clear HA
       simp only [spec_TreeOf.l1] at H
       by_cases c11 : x8_2 < a0
       ·rw [if_pos c11] at H
        have c11b0 : decide (x8_2 < a0) = true:=decide_eq_true c11
        clear c11
        replace H:=Option.bind_eq_some_iff.mp H
        obtain ⟨t482,A120,H⟩:=H
        replace H : (if t482 = x7_1 then (if x5_2.length < 17592186044416 then (spec_TreeOf.l1 k2 a0 l1 (x5_2 ++ [x7_1]) t479 x7_1 (wrap64 (x8_2 + 1))) else (none)) else (spec_TreeOf.l1 k2 a0 l1 x5_2 t479 x7_1 (wrap64 (x8_2 + 1)))) = some r:=H
        have A12:=mk_ A120
        clear A120
        by_cases c13 : t482 = x7_1
        ·rw [if_pos c13] at H
         have c13b0 : (t482 == x7_1) = true:=beq_iff_eq.mpr c13
         have c13b1 : (t482 != x7_1) = false:=bne_eq_false_iff_eq.mpr c13
         clear c13
         by_cases c14 : x5_2.length < 17592186044416
         ·rw [if_pos c14] at H
          have LMc14:=mk_ c14
          clear c14
          obtain ⟨y483,hy483⟩ : ∃ y_ : List Int,y_ = (x5_2 ++ [x7_1]):=⟨_,rfl⟩
          replace H : (spec_TreeOf.l1 k2 a0 l1 y483 t479 x7_1 (wrap64 (x8_2 + 1))) = some r:=by first|(rw [hy483];with_reducible exact H)|(have H2_:=(Option.bind_some _ _).symm.trans H;rw [hy483];with_reducible exact H2_)|(have H2_:=(Option.bind_some _ _).symm.trans H;with_reducible exact H2_)|with_reducible exact H|(rw [hy483];exact H)|exact H
          have Ny483:=mk_ hy483
          clear hy483
          have H':=mk_ H
          clear H
          obtain ⟨Ao15,co15,eo15⟩:=Kd.R_slice HO_6.out
          subst eo15
          go_wp2_with (first|((with_reducible refine gate_callee (f:=81) rfl ?_);refine goesL_ (some 32) rfl rfl Try.func81 (by kernel_rfl) rfl #[.slice A1 l1.length c1,.slice Ao15 t479.length co15,.int .i64 x8_2] rfl qm_ ?_;(with_reducible refine (spec_l7Up.calls k2 _ _ l1 _ _ t479 x8_2 t482 _ ?side1 ?side2 ?side3 ?side4 A12.out).mono ?_);(case side1 => exact qn_ HR1 HB);(case side2 => exact HC1.out);(case side3 => repeat (first|exact (rr_ HO_6.out).2.2|(with_reducible refine ca_ ?_ _)|(with_reducible refine cn_ ?_ _)|(with_reducible refine cd_ ?_)));(case side4 => exact (rr_ HO_6.out).2.1);rintro e w16 ⟨rfl,hb⟩;refine ⟨_,rfl,?_⟩;have n0_:=mk_ (rb_ (qr_ HO_5) hb);have n1_:=mk_ (rb_ (qr_ HO_6) hb);have n2_:=mk_ (st_ (qb_ HB) hb);clear HO_5 HO_6 HB;have HO_5:=n0_;have HO_6:=n1_;have HB:=n2_;clear n0_ n1_ n2_;(try clear hb);(try clear hb2);(try clear hk);(try clear hi))|((with_reducible refine gate_builtin (b:=.append) (xs:=#[.tmp 35,.tmp 37]) rfl ?_);at_builtin;refine Kd.R_append (Kd.int .i64) (w0:=w) w.heap.size rfl (.tmp 35) (.tmp 37) 24 3 (.int .i64 0) 8 rfl Try.underlying24 info3 rfl (by decide) (by omega) u5 x5_2 x7_1 [.int .i64 x7_1] (fun k_ => some k_ ≠ (.slice Ao15 t479.length co15 : Value).ownBlock) (fun _ => False) rfl rfl ?aP (fun _ hk => hk.elim) ?aF ?aO ?aB ?aS ?aL ?_;(case aP => exact rfl);(case aB => exact (qb_ HB));(case aF => exact (fun k_ hk => Kd.fresh' (Kd.R_lt (qr_ HO_6)) k_ hk));(case aO => exact (qr_ HO_5));(case aS => exact (bz_ (qb_ HB)));(case aL => have:=LMc14.out;omega);intro v484 w17 ho hb hg hat;rw [← Ny483.out] at ho;have n0_:=mk_ (Kd.R_after (ok:=(fun _ => True)) (by (with_reducible repeat (first|apply ra_|apply rn_|apply rd_));exact rm_ HO_6.out (fun _ hk => ⟨trivial,hk⟩)) hg hat);have n1_:=mk_ (hb);have n2_:=mk_ (ho);clear HO_6 HB HO_5;have HO_6:=n0_;have HB:=n1_;have HO485:=n2_;clear n0_ n1_ n2_ ho hb hg hat))
          go_roundg k2
          case measure => have:=HK1.out;have:=HK2.out;omega
          case rel => exact ⟨(y483),(wrap64 (x8_2 + 1)),qf_,H',⟨by have:=HK1.out;have:=HK2.out;omega⟩,⟨qr_ HO485⟩,⟨by (with_reducible repeat (first|apply ra_|apply rn_|apply rd_));exact rm_ HO_6.out (λ_ h=>h.2)⟩,⟨u1_ HB⟩⟩
         ·rw [if_neg c14] at H
          exact absurd H (by simp)
        ·rw [if_neg c13] at H
         have c13b0 : (t482 == x7_1) = false:=beq_eq_false_iff_ne.mpr c13
         have c13b1 : (t482 != x7_1) = true:=bne_iff_ne.mpr c13
         have H':=mk_ H
         clear H
         obtain ⟨Ao18,co18,eo18⟩:=Kd.R_slice HO_6.out
         subst eo18
         go_wp2_with (first|((with_reducible refine gate_callee (f:=81) rfl ?_);refine goesL_ (some 32) rfl rfl Try.func81 (by kernel_rfl) rfl #[.slice A1 l1.length c1,.slice Ao18 t479.length co18,.int .i64 x8_2] rfl qm_ ?_;(with_reducible refine (spec_l7Up.calls k2 _ _ l1 _ _ t479 x8_2 t482 _ ?side1 ?side2 ?side3 ?side4 A12.out).mono ?_);(case side1 => exact qn_ HR1 HB);(case side2 => exact HC1.out);(case side3 => repeat (first|exact (rr_ HO_6.out).2.2|(with_reducible refine ca_ ?_ _)|(with_reducible refine cn_ ?_ _)|(with_reducible refine cd_ ?_)));(case side4 => exact (rr_ HO_6.out).2.1);rintro e w19 ⟨rfl,hb⟩;refine ⟨_,rfl,?_⟩;have n0_:=mk_ (rb_ (qr_ HO_5) hb);have n1_:=mk_ (rb_ (qr_ HO_6) hb);have n2_:=mk_ (st_ (qb_ HB) hb);clear HO_5 HO_6 HB;have HO_5:=n0_;have HO_6:=n1_;have HB:=n2_;clear n0_ n1_ n2_;(try clear hb);(try clear hb2);(try clear hk);(try clear hi)))
         go_roundg k2
         case measure => have:=HK1.out;have:=HK2.out;omega
         case rel => exact ⟨(x5_2),(wrap64 (x8_2 + 1)),qf_,H',⟨by have:=HK1.out;have:=HK2.out;omega⟩,⟨qr_ HO_5⟩,⟨qr_ HO_6⟩,⟨u1_ HB⟩⟩
       ·rw [if_neg c11] at H
        have c11b0 : decide (x8_2 < a0) = false:=decide_eq_false c11
        clear c11
        have H':=mk_ H
        clear H
        go_wp2
        go_roundg k2
        case measure => have:=HK1.out;have:=HK2.out;omega
        case rel => exact ⟨(x5_2),(wrap64 (x7_1 + 1)),qf_,H',⟨by have:=HK1.out;have:=HK2.out;omega⟩,⟨qr_ HO_5⟩,⟨qr_ HO_6⟩,⟨u1_ HB⟩⟩
    ·rw [if_neg c10] at H
     have c10b0 : decide (x7_1 < (l1.length : Int)) = false:=decide_eq_false c10
     clear c10
     obtain rfl:=Option.some.inj H
     go_wp2
     go_ret
     exact ⟨_,qe_,by (with_reducible repeat (first|apply ra_|apply rn_|apply rd_));exact rm_ HO_5.out (λ_ _=>trivial),u1_ HB⟩
 ·replace c4:=Bool.eq_false_iff.mpr c4
  subst c4
  have H1 : (some y475) = some r:=by rw [if_neg (show ¬ (false = true) by decide)] at H;exact H
  clear H
  have H:=H1
  clear H1
  obtain rfl:=Option.some.inj H
  go_enter Try.func40,Try.ntmps40
  go_wp2_with (first|((with_reducible refine gate_dst (N:=9) rfl ?_);refine Kd.R_lit (Kd.int .i64) _ 3 ?hg (N:=9) ?hd (xs:=([] : List Int)) (inner:=[]) (ok:=fun _ => True) (okp:=fun _ => True) ?hr ?hp (fun _ hk => hk) trivial (Below.refl _ _) (Nat.le_refl _) (by simp) ?_;(case hd => rfl);(case hg => rfl);(case hr => first|(go_simp;done)|(go_simp;rfl));(case hp => exact (Reps.none _ _));intro v476 w20 ho21 hb hg_ hnew_;clear hg_ hnew_;(first|rw [← Ny475.out] at ho21|(simp only [Int.reduceToNat] at ho21;rw [← Ny475.out] at ho21));have n0_:=mk_ (Kd.R_lower ho21 (bz_ (qb_ HB)));have n1_:=mk_ (st_ (qb_ HB) hb);clear HB;have HO477:=n0_;have HB:=n1_;clear n0_ n1_ hb ho21)|((with_reducible refine gate_callee (f:=79) rfl ?_);refine goesL_ (some 12) rfl rfl Try.func79 (by kernel_rfl) rfl #[.int .i64 a0,.slice A1 l1.length c1] rfl qm_ ?_;(with_reducible refine (spec_CablesValid.calls k a0 _ _ l1 false _ ?side1 ?side2 A3.out).mono ?_);(case side1 => exact qn_ HR1 HB);(case side2 => exact HC1.out);rintro e w22 ⟨rfl,hb⟩;refine ⟨_,rfl,?_⟩;have n0_:=mk_ (rb_ (qr_ HO477) hb);have n1_:=mk_ (st_ (qb_ HB) hb);clear HO477 HB;have HO477:=n0_;have HB:=n1_;clear n0_ n1_;(try clear hb);(try clear hb2);(try clear hk);(try clear hi)))
  go_ret
  exact ⟨_,qe_,qr_ HO477,u1_ HB⟩
end Go.Proofs.Ytblcnbnphjnhdaa.PAll
