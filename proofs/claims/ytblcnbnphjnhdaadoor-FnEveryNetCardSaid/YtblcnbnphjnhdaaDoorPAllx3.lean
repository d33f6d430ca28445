/- Proved here: contracts of functions of the given program, or lemmas on them, for the laws of this seat. Written by xprint.py, a program of this session, on the ground of the kit's print; parts by hand: wip/x/ext. -/
import Derived.Test.YtblcnbnphjnhdaaDoorPAllx0
import Derived.Test.YtblcnbnphjnhdaaDoorPAllx1
import Derived.Test.YtblcnbnphjnhdaaDoorPAllx2
namespace Go.Proofs.YtblcnbnphjnhdaaDoor.PAll
open Go.RowKit Go.Proofs.YtblcnbnphjnhdaaDoorW.PrintWords Go.Proofs.YtblcnbnphjnhdaaDoorW.PrintLast Go.Proofs.YtblcnbnphjnhdaaDoorW.PrintMore
attribute [local go_sem] max2_int min2_int max_two min_two max_three min_three max_four min_four   -- for this text's walks alone
set_option linter.unusedVariables false
set_option linter.unusedSimpArgs false

/-! ### spec_l7Root: function 61 -/
def spec_l7Root.l0 : Nat → List Bool → Int → Option (Int)
 | 0,_,_ => none
 | k + 1,x7,x8 => if 0 ≤ x8 then (if x8 < (x7.length : Int) then (if rdOf false x7 x8 = true then (some x8) else (spec_l7Root.l0 k x7 (wrap64 (x8 + 1)))) else (none)) else (none)
def spec_l7Root.f (k : Nat) (a0 : Int) (l1 : List (S71)) (a2 : Int) : Option (Int):=(spec_l7Joined.f k a0 l1 a2).bind fun t311 => (spec_l7Root.l0 k t311 0)
theorem spec_l7Root.mono_l : ∀ k,(∀ y0 y1,LeO (spec_l7Root.l0 k y0 y1) (spec_l7Root.l0 (k + 1) y0 y1))
 | 0 => fun _ _ r h => by simp [spec_l7Root.l0] at h
 | k + 1 => by
  have ih0:=spec_l7Root.mono_l k
  ·intro y0 y1
   unfold spec_l7Root.l0
   repeat' first
   | (with_reducible exact ih0 _ _)
   | (with_reducible exact spec_l7Joined.mono _ _ _ _)
   | (with_reducible exact LeO.refl _)
   | (with_reducible exact LeO.none _)
   | (with_reducible refine LeO.ite ?_ ?_)
   | (with_reducible refine LeO.bind ?_ (fun _ => ?_))
   | exact ih0 _ _
   | exact spec_l7Joined.mono _ _ _ _
   | exact LeO.none _
   | refine LeO.ite ?_ ?_
   | refine LeO.bind ?_ (fun _ => ?_)
theorem spec_l7Root.mono : ∀ a0 a1 a2 k,LeO (spec_l7Root.f k a0 a1 a2) (spec_l7Root.f (k + 1) a0 a1 a2):=by
 intro a0 a1 a2 k
 have ih0:=spec_l7Root.mono_l k
 unfold spec_l7Root.f
 repeat' first
   | (with_reducible exact ih0 _ _)
   | (with_reducible exact spec_l7Joined.mono _ _ _ _)
   | (with_reducible exact LeO.refl _)
   | (with_reducible exact LeO.none _)
   | (with_reducible refine LeO.ite ?_ ?_)
   | (with_reducible refine LeO.bind ?_ (fun _ => ?_))
   | exact ih0 _ _
   | exact spec_l7Joined.mono _ _ _ _
   | exact LeO.none _
   | refine LeO.ite ?_ ?_
   | refine LeO.bind ?_ (fun _ => ?_)
set_option maxHeartbeats 8000000 in
set_option maxRecDepth 100000 in
theorem spec_l7Root.calls (k : Nat) (a0 : Int) (A1 : Option Addr) (c1 : Nat) (l1 : List (S71)) (a2 : Int) (r : Int) (w : World) (hr1 : Kd.C k71 w A1 l1.length l1) (hc1 : l1.length ≤ c1) (h : spec_l7Root.f k a0 l1 a2 = some r) :
  Calls Tryd.prog 61 #[.int .i64 a0,.slice A1 l1.length c1,.int .i64 a2] w fun e w' => e = .returned (.int .i64 r) ∧ Below w.heap.size w w':=by
 have HR1:=mk_ hr1
 have HC1:=mk_ hc1
 clear hr1 hc1
 have HB:=mk_ (Below.refl w.heap.size w)
 have H : ((spec_l7Joined.f k a0 l1 a2).bind fun t311 => (spec_l7Root.l0 k t311 0)) = some r:=h
 clear h
 replace H:=Option.bind_eq_some_iff.mp H
 obtain ⟨t311,A40,H⟩:=H
 replace H : (spec_l7Root.l0 k t311 0) = some r:=H
 have A4:=mk_ A40
 clear A40
 have H':=mk_ H
 clear H
 go_enter Tryd.func61,Tryd.ntmps61
 go_wp2_with (first|((with_reducible refine gate_callee (f:=79) rfl ?_);refine goesL_ (some 12) rfl rfl Tryd.func79 (by kernel_rfl) rfl #[.int .i64 a0,.slice A1 l1.length c1,.int .i64 a2] rfl qm_ ?_;(with_reducible refine (spec_l7Joined.calls k a0 _ _ l1 a2 t311 _ ?side1 ?side2 A4.out).mono ?_);(case side1 => repeat (first|exact HR1.out|(with_reducible refine ca_ ?_ _)|(with_reducible refine cn_ ?_ _)|(with_reducible refine cd_ ?_)));(case side2 => exact HC1.out);rintro e w5 ⟨v312,rfl,ho0,hb⟩;refine ⟨_,rfl,?_⟩;have n0_:=mk_ (Kd.R_lower ho0 (bz_ (qb_ HB)));have n1_:=mk_ (st_ (qb_ HB) hb);clear HB;have HO313:=n0_;have HB:=n1_;clear n0_ n1_;(try clear hb);(try clear hb2);(try clear hk);(try clear hi);(try clear ho0)))
 go_loopg [8] k (fun kq v8 w' => ∃ (x8_1 : Int),v8 = .int .i64 x8_1 ∧ Aside0 (spec_l7Root.l0 kq t311 x8_1 = some r) ∧ Aside0 (kq ≤ k) ∧ Aside0 (Kd.R Kd.bool 4 w' w.heap.size (fun _ => True) v312 t311) ∧ Aside0 (Below w.heap.size w w'))
 case atStart => exact ⟨(0),qf_,H',⟨Nat.le_refl _⟩,⟨qr_ HO313⟩,⟨u1_ HB⟩⟩
 case round =>
  clear H'
  try clear c1
  try clear p2
  obtain ⟨x8_1,rfl,HA,HK1,HO_7,HB⟩:=hrel
  cases gk with
  | zero => exact absurd HA.out (by simp [spec_l7Root.l0])
  | succ k1 =>
   have H:=HA.out
   clear HA
   simp only [spec_l7Root.l0] at H
   by_cases c6 : 0 ≤ x8_1
   ·rw [if_pos c6] at H
    have c6b0 : decide (0 ≤ x8_1) = true:=decide_eq_true c6
    clear c6
    by_cases c7 : x8_1 < (t311.length : Int)
    ·rw [if_pos c7] at H
     have c7b0 : decide (x8_1 < (t311.length : Int)) = true:=decide_eq_true c7
     clear c7
     obtain ⟨bq8,hbq8⟩ : ∃ b_ : Bool,b_ = (rdOf false t311 x8_1):=⟨_,rfl⟩
     replace H : (if bq8 = true then (some x8_1) else (spec_l7Root.l0 k1 t311 (wrap64 (x8_1 + 1)))) = some r:=by rw [← hbq8] at H;exact H
     have Nbq8:=mk_ hbq8
     clear hbq8
     by_cases c9 : bq8 = true
     ·subst c9
      have H1 : (some x8_1) = some r:=by rw [if_pos rfl] at H;exact H
      clear H
      have H:=H1
      clear H1
      obtain rfl:=Option.some.inj H
      obtain ⟨Ao10,co10,eo10⟩:=Kd.R_slice HO_7.out
      subst eo10
      have p314 : 0 ≤ (x8_1 : Int):=od_ qa_
      have q314 : x8_1 < (t311.length : Int):=od_ qa_
      obtain ⟨ad314,e314,hx314_0⟩:=Kd.at_bool (rr_ HO_7.out).2.2 x8_1 p314 q314
      (try rw [← Nbq8.out] at hx314_0)
      cases e314
      replace p314:=eq_true p314
      replace q314:=eq_true q314
      go_wp2
      go_ret
      exact ⟨qe_,u1_ HB⟩
     ·replace c9:=Bool.eq_false_iff.mpr c9
      subst c9
      have H1 : (spec_l7Root.l0 k1 t311 (wrap64 (x8_1 + 1))) = some r:=by rw [if_neg (show ¬ (false = true) by decide)] at H;exact H
      clear H
      have H:=H1
      clear H1
      have H':=mk_ H
      clear H
      obtain ⟨Ao11,co11,eo11⟩:=Kd.R_slice HO_7.out
      subst eo11
      have p314 : 0 ≤ (x8_1 : Int):=od_ qa_
      have q314 : x8_1 < (t311.length : Int):=od_ qa_
      obtain ⟨ad314,e314,hx314_0⟩:=Kd.at_bool (rr_ HO_7.out).2.2 x8_1 p314 q314
      (try rw [← Nbq8.out] at hx314_0)
      cases e314
      replace p314:=eq_true p314
      replace q314:=eq_true q314
      go_wp2
      go_roundg k1
      case measure => have:=HK1.out;omega
      case rel => exact ⟨(wrap64 (x8_1 + 1)),qf_,H',⟨by have:=HK1.out;omega⟩,⟨qr_ HO_7⟩,⟨u1_ HB⟩⟩
    ·rw [if_neg c7] at H
     exact absurd H (by simp)
   ·rw [if_neg c6] at H
    exact absurd H (by simp)

/-! ### spec_l7Costs: function 46 -/
mutual
def spec_l7Costs.l0 : Nat → Int → List (S71) → List Int → Int → Option (List Int)
 | 0,_,_,_,_ => none
 | k + 1,x0,x1,x5,x6 => if x6 < x0 then ((spec_l7Root.f k x0 x1 x6).bind fun t318 => (if t318 = x6 then (if x5.length < 17592186044416 then (spec_l7Costs.l0 k x0 x1 (x5 ++ [0]) (wrap64 (x6 + 1))) else (none)) else (if x5.length < 17592186044416 then (spec_l7Costs.l0 k x0 x1 (x5 ++ [10000]) (wrap64 (x6 + 1))) else (none)))) else (spec_l7Costs.l1 k x1 x5 x0 0)
def spec_l7Costs.l1 : Nat → List (S71) → List Int → Int → Int → Option (List Int)
 | 0,_,_,_,_ => none
 | k + 1,x1,x5,x27,x28 => if x28 < x27 then (spec_l7Costs.l2 k x1 x5 0 x27 x28) else (some x5)
def spec_l7Costs.l2 : Nat → List (S71) → List Int → Int → Int → Int → Option (List Int)
 | 0,_,_,_,_,_ => none
 | k + 1,x1,x5,x7,x27,x28 => if x7 < (x1.length : Int) then (if 0 ≤ x7 then (if 0 ≤ ((rd_T71 x1 x7).f0) then (if ((rd_T71 x1 x7).f0) < (x5.length : Int) then (if 0 ≤ ((rd_T71 x1 x7).f1) then (if ((rd_T71 x1 x7).f1) < (x5.length : Int) then ((some (x5.set (((rd_T71 x1 x7).f0) : Int).toNat (mn (rd x5 ((rd_T71 x1 x7).f0)) (wrap64 ((rd x5 ((rd_T71 x1 x7).f1)) + ((rd_T71 x1 x7).f2)))) : List Int)).bind fun y329 => (spec_l7Costs.l2 k x1 (y329.set (((rd_T71 x1 x7).f1) : Int).toNat (mn (rd y329 ((rd_T71 x1 x7).f1)) (wrap64 ((rd y329 ((rd_T71 x1 x7).f0)) + ((rd_T71 x1 x7).f2))))) (wrap64 (x7 + 1)) x27 x28)) else (none)) else (none)) else (none)) else (none)) else (none)) else (spec_l7Costs.l1 k x1 x5 x27 (wrap64 (x28 + 1)))
end
def spec_l7Costs.f (k : Nat) (a0 : Int) (l1 : List (S71)) : Option (List Int):=spec_l7Costs.l0 k a0 l1 (([] : List Int)) 0
theorem spec_l7Costs.mono_l : ∀ k,(∀ y0 y1 y2 y3,LeO (spec_l7Costs.l0 k y0 y1 y2 y3) (spec_l7Costs.l0 (k + 1) y0 y1 y2 y3)) ∧ (∀ y0 y1 y2 y3,LeO (spec_l7Costs.l1 k y0 y1 y2 y3) (spec_l7Costs.l1 (k + 1) y0 y1 y2 y3)) ∧ (∀ y0 y1 y2 y3 y4,LeO (spec_l7Costs.l2 k y0 y1 y2 y3 y4) (spec_l7Costs.l2 (k + 1) y0 y1 y2 y3 y4))
 | 0 => ⟨fun _ _ _ _ r h => by simp [spec_l7Costs.l0] at h,fun _ _ _ _ r h => by simp [spec_l7Costs.l1] at h,fun _ _ _ _ _ r h => by simp [spec_l7Costs.l2] at h⟩
 | k + 1 => by
  obtain ⟨ih0,ih1,ih2⟩:=spec_l7Costs.mono_l k
  refine ⟨?_,?_,?_⟩
  ·intro y0 y1 y2 y3
   unfold spec_l7Costs.l0
   repeat' first
   | (with_reducible exact ih0 _ _ _ _)
   | (with_reducible exact ih1 _ _ _ _)
   | (with_reducible exact ih2 _ _ _ _ _)
   | (with_reducible exact spec_l7Root.mono _ _ _ _)
   | (with_reducible exact LeO.refl _)
   | (with_reducible exact LeO.none _)
   | (with_reducible refine LeO.ite ?_ ?_)
   | (with_reducible refine LeO.bind ?_ (fun _ => ?_))
   | exact ih0 _ _ _ _
   | exact ih1 _ _ _ _
   | exact ih2 _ _ _ _ _
   | exact spec_l7Root.mono _ _ _ _
   | exact LeO.none _
   | refine LeO.ite ?_ ?_
   | refine LeO.bind ?_ (fun _ => ?_)
  ·intro y0 y1 y2 y3
   unfold spec_l7Costs.l1
   repeat' first
   | (with_reducible exact ih0 _ _ _ _)
   | (with_reducible exact ih1 _ _ _ _)
   | (with_reducible exact ih2 _ _ _ _ _)
   | (with_reducible exact spec_l7Root.mono _ _ _ _)
   | (with_reducible exact LeO.refl _)
   | (with_reducible exact LeO.none _)
   | (with_reducible refine LeO.ite ?_ ?_)
   | (with_reducible refine LeO.bind ?_ (fun _ => ?_))
   | exact ih0 _ _ _ _
   | exact ih1 _ _ _ _
   | exact ih2 _ _ _ _ _
   | exact spec_l7Root.mono _ _ _ _
   | exact LeO.none _
   | refine LeO.ite ?_ ?_
   | refine LeO.bind ?_ (fun _ => ?_)
  ·intro y0 y1 y2 y3 y4
   unfold spec_l7Costs.l2
   repeat' first
   | (with_reducible exact ih0 _ _ _ _)
   | (with_reducible exact ih1 _ _ _ _)
   | (with_reducible exact ih2 _ _ _ _ _)
   | (with_reducible exact spec_l7Root.mono _ _ _ _)
   | (with_reducible exact LeO.refl _)
   | (with_reducible exact LeO.none _)
   | (with_reducible refine LeO.ite ?_ ?_)
   | (with_reducible refine LeO.bind ?_ (fun _ => ?_))
   | exact ih0 _ _ _ _
   | exact ih1 _ _ _ _
   | exact ih2 _ _ _ _ _
   | exact spec_l7Root.mono _ _ _ _
   | exact LeO.none _
   | refine LeO.ite ?_ ?_
   | refine LeO.bind ?_ (fun _ => ?_)
theorem spec_l7Costs.mono : ∀ a0 a1 k,LeO (spec_l7Costs.f k a0 a1) (spec_l7Costs.f (k + 1) a0 a1):=by
 intro a0 a1 k
 obtain ⟨ih0,ih1,ih2⟩:=spec_l7Costs.mono_l k
 unfold spec_l7Costs.f
 repeat' first
   | (with_reducible exact ih0 _ _ _ _)
   | (with_reducible exact ih1 _ _ _ _)
   | (with_reducible exact ih2 _ _ _ _ _)
   | (with_reducible exact spec_l7Root.mono _ _ _ _)
   | (with_reducible exact LeO.refl _)
   | (with_reducible exact LeO.none _)
   | (with_reducible refine LeO.ite ?_ ?_)
   | (with_reducible refine LeO.bind ?_ (fun _ => ?_))
   | exact ih0 _ _ _ _
   | exact ih1 _ _ _ _
   | exact ih2 _ _ _ _ _
   | exact spec_l7Root.mono _ _ _ _
   | exact LeO.none _
   | refine LeO.ite ?_ ?_
   | refine LeO.bind ?_ (fun _ => ?_)
def spec_l7Costs.T14 : Bool × List (List Nat × List Nat):=(true,[([],[]),([],[]),([1],[1]),([],[]),([],[]),([4],[4]),([3,5],[3,5]),([6],[6]),([],[]),([],[]),([9],[9]),([8,10],[8,10]),([11],[11]),([],[]),([13],[13]),([12,14],[12,14]),([7,15],[7,15]),([0,2,0,1,2,3,4,5,6,7,8,9,10,11,12,13,14,15,16],[0,2]),([17,16,0,1,2,3,4,5,6,7,8,9,10,11,12,13,14,15,16],[16,17])])
def spec_l7Costs.B14 : List Nat:=[0,0,2,0,0,16,56,120,0,0,512,1792,3840,0,8192,32512,65528,131071,262143]
theorem spec_l7Costs.tab14 : rtab .any (opsOf Tryd.f46 14) = spec_l7Costs.T14:=by kernel_rfl
theorem spec_l7Costs.bits14 : waitsOk spec_l7Costs.T14.2 spec_l7Costs.B14 = true:=by kernel_rfl
def spec_l7Costs.T15 : Bool × List (List Nat × List Nat):=(true,[([],[]),([],[]),([1],[1]),([],[]),([],[]),([4],[4]),([3,5],[3,5]),([6],[6]),([],[]),([],[]),([9],[9]),([8,10],[8,10]),([11],[11]),([],[]),([13],[13]),([12,14],[12,14]),([7,15],[7,15]),([0,2,0,1,2,3,4,5,6,7,8,9,10,11,12,13,14,15,16],[0,2]),([17,16,0,1,2,3,4,5,6,7,8,9,10,11,12,13,14,15,16],[16,17])])
def spec_l7Costs.B15 : List Nat:=[0,0,2,0,0,16,56,120,0,0,512,1792,3840,0,8192,32512,65528,131071,262143]
theorem spec_l7Costs.tab15 : rtab .any (opsOf Tryd.f46 15) = spec_l7Costs.T15:=by kernel_rfl
theorem spec_l7Costs.bits15 : waitsOk spec_l7Costs.T15.2 spec_l7Costs.B15 = true:=by kernel_rfl
set_option maxHeartbeats 8000000 in
set_option maxRecDepth 100000 in
theorem spec_l7Costs.calls (k : Nat) (a0 : Int) (A1 : Option Addr) (c1 : Nat) (l1 : List (S71)) (r : List Int) (w : World) (hr1 : Kd.C k71 w A1 l1.length l1) (hc1 : l1.length ≤ c1) (h : spec_l7Costs.f k a0 l1 = some r) :
  Calls Tryd.prog 46 #[.int .i64 a0,.slice A1 l1.length c1] w fun e w' => ∃ v0_ : Value,e = .returned (v0_) ∧ Kd.R (Kd.int .i64) 3 w' w.heap.size (fun _ => True) v0_ r ∧ Below w.heap.size w w':=by
 have hu71:=Tryd.underlying71
 have HR1:=mk_ hr1
 have HC1:=mk_ hc1
 clear hr1 hc1
 have HB:=mk_ (Below.refl w.heap.size w)
 have H : (spec_l7Costs.l0 k a0 l1 (([] : List Int)) 0) = some r:=h
 clear h
 obtain ⟨y315,hy315⟩ : ∃ y_ : List Int,y_ = (([] : List Int)):=⟨_,rfl⟩
 replace H : (spec_l7Costs.l0 k a0 l1 y315 0) = some r:=by first|(rw [hy315];with_reducible exact H)|(have H2_:=(Option.bind_some _ _).symm.trans H;rw [hy315];with_reducible exact H2_)|(have H2_:=(Option.bind_some _ _).symm.trans H;with_reducible exact H2_)|with_reducible exact H|(rw [hy315];exact H)|exact H
 have Ny315:=mk_ hy315
 clear hy315
 have H':=mk_ H
 clear H
 go_enter Tryd.func46,Tryd.ntmps46
 go_wp2_with (first|((with_reducible refine gate_dst (N:=9) rfl ?_);refine Kd.R_lit (Kd.int .i64) _ 3 ?hg (N:=9) ?hd (xs:=([] : List Int)) (inner:=[]) (ok:=fun _ => True) (okp:=fun _ => True) ?hr ?hp (fun _ hk => hk) trivial (Below.refl _ _) (Nat.le_refl _) (by simp) ?_;(case hd => rfl);(case hg => rfl);(case hr => first|(go_simp;done)|(go_simp;rfl));(case hp => exact (Reps.none _ _));intro v316 w3 ho4 hb hg_ hnew_;clear hg_ hnew_;(first|rw [← Ny315.out] at ho4|(simp only [Int.reduceToNat] at ho4;rw [← Ny315.out] at ho4));have n0_:=mk_ (Kd.R_lower ho4 (bz_ (qb_ HB)));have n1_:=mk_ (st_ (qb_ HB) hb);clear HB;have HO317:=n0_;have HB:=n1_;clear n0_ n1_ hb ho4))
 go_loopg [5,6] k (fun kq v5 v6 w' => ∃ (x5_1 : List Int) (x6_1 : Int),v6 = .int .i64 x6_1 ∧ Aside0 (spec_l7Costs.l0 kq a0 l1 x5_1 x6_1 = some r) ∧ Aside0 (kq ≤ k) ∧ Aside0 (Kd.R (Kd.int .i64) 3 w' w.heap.size (fun _ => True) v5 x5_1) ∧ Aside0 (Below w.heap.size w w'))
 case atStart => exact ⟨(y315),(0),qf_,H',⟨Nat.le_refl _⟩,⟨qr_ HO317⟩,⟨u1_ HB⟩⟩
 case round =>
  clear H'
  try clear c1
  try clear p2
  try clear c4
  obtain ⟨x5_1,x6_1,rfl,HA,HK1,HO_5,HB⟩:=hrel
  cases gk with
  | zero => exact absurd HA.out (by simp [spec_l7Costs.l0])
  | succ k1 =>
   have H:=HA.out
   clear HA
   simp only [spec_l7Costs.l0] at H
   by_cases c5 : x6_1 < a0
   ·rw [if_pos c5] at H
    have c5b0 : decide (x6_1 < a0) = true:=decide_eq_true c5
    clear c5
    replace H:=Option.bind_eq_some_iff.mp H
    obtain ⟨t318,A60,H⟩:=H
    replace H : (if t318 = x6_1 then (if x5_1.length < 17592186044416 then (spec_l7Costs.l0 k1 a0 l1 (x5_1 ++ [0]) (wrap64 (x6_1 + 1))) else (none)) else (if x5_1.length < 17592186044416 then (spec_l7Costs.l0 k1 a0 l1 (x5_1 ++ [10000]) (wrap64 (x6_1 + 1))) else (none))) = some r:=H
    have A6:=mk_ A60
    clear A60
    by_cases c7 : t318 = x6_1
    ·rw [if_pos c7] at H
     have c7b0 : (t318 == x6_1) = true:=beq_iff_eq.mpr c7
     have c7b1 : (t318 != x6_1) = false:=bne_eq_false_iff_eq.mpr c7
     clear c7
     by_cases c8 : x5_1.length < 17592186044416
     ·rw [if_pos c8] at H
      have LMc8:=mk_ c8
      clear c8
      obtain ⟨y319,hy319⟩ : ∃ y_ : List Int,y_ = (x5_1 ++ [0]):=⟨_,rfl⟩
      replace H : (spec_l7Costs.l0 k1 a0 l1 y319 (wrap64 (x6_1 + 1))) = some r:=by first|(rw [hy319];with_reducible exact H)|(have H2_:=(Option.bind_some _ _).symm.trans H;rw [hy319];with_reducible exact H2_)|(have H2_:=(Option.bind_some _ _).symm.trans H;with_reducible exact H2_)|with_reducible exact H|(rw [hy319];exact H)|exact H
      have Ny319:=mk_ hy319
      clear hy319
      have H':=mk_ H
      clear H
      go_wp2_with (first|((with_reducible refine gate_callee (f:=61) rfl ?_);refine goesL_ (some 18) rfl rfl Tryd.func61 (by kernel_rfl) rfl #[.int .i64 a0,.slice A1 l1.length c1,.int .i64 x6_1] rfl qm_ ?_;(with_reducible refine (spec_l7Root.calls k1 a0 _ _ l1 x6_1 t318 _ ?side1 ?side2 A6.out).mono ?_);(case side1 => exact qn_ HR1 HB);(case side2 => exact HC1.out);rintro e w9 ⟨rfl,hb⟩;refine ⟨_,rfl,?_⟩;have n0_:=mk_ (rb_ (qr_ HO_5) hb);have n1_:=mk_ (st_ (qb_ HB) hb);clear HO_5 HB;have HO_5:=n0_;have HB:=n1_;clear n0_ n1_;(try clear hb);(try clear hb2);(try clear hk);(try clear hi))|((with_reducible refine gate_builtin (b:=.append) (xs:=#[.tmp 21,.tmp 22]) rfl ?_);at_builtin;refine Kd.R_append (Kd.int .i64) (w0:=w) w.heap.size rfl (.tmp 21) (.tmp 22) 23 3 (.int .i64 0) 8 rfl Tryd.underlying23 info3 rfl (by decide) (by omega) u5 x5_1 0 [.int .i64 0] (fun _ => True) (fun _ => False) rfl rfl ?aP (fun _ hk => hk.elim) ?aF ?aO ?aB ?aS ?aL ?_;(case aP => exact rfl);(case aB => exact (qb_ HB));(case aF => exact (fun _ _ => trivial));(case aO => exact (qr_ HO_5));(case aS => exact (bz_ (qb_ HB)));(case aL => have:=LMc8.out;omega);intro v320 w10 ho hb hg hat;rw [← Ny319.out] at ho;have n0_:=mk_ (hb);have n1_:=mk_ (ho);clear HB HO_5;have HB:=n0_;have HO321:=n1_;clear n0_ n1_ ho hb hg hat))
      go_roundg k1
      case measure => have:=HK1.out;omega
      case rel => exact ⟨(y319),(wrap64 (x6_1 + 1)),qf_,H',⟨by have:=HK1.out;omega⟩,⟨qr_ HO321⟩,⟨u1_ HB⟩⟩
     ·rw [if_neg c8] at H
      exact absurd H (by simp)
    ·rw [if_neg c7] at H
     have c7b0 : (t318 == x6_1) = false:=beq_eq_false_iff_ne.mpr c7
     have c7b1 : (t318 != x6_1) = true:=bne_iff_ne.mpr c7
     by_cases c11 : x5_1.length < 17592186044416
     ·rw [if_pos c11] at H
      have LMc11:=mk_ c11
      clear c11
      obtain ⟨y322,hy322⟩ : ∃ y_ : List Int,y_ = (x5_1 ++ [10000]):=⟨_,rfl⟩
      replace H : (spec_l7Costs.l0 k1 a0 l1 y322 (wrap64 (x6_1 + 1))) = some r:=by first|(rw [hy322];with_reducible exact H)|(have H2_:=(Option.bind_some _ _).symm.trans H;rw [hy322];with_reducible exact H2_)|(have H2_:=(Option.bind_some _ _).symm.trans H;with_reducible exact H2_)|with_reducible exact H|(rw [hy322];exact H)|exact H
      have Ny322:=mk_ hy322
      clear hy322
      have H':=mk_ H
      clear H
      go_wp2_with (first|((with_reducible refine gate_callee (f:=61) rfl ?_);refine goesL_ (some 18) rfl rfl Tryd.func61 (by kernel_rfl) rfl #[.int .i64 a0,.slice A1 l1.length c1,.int .i64 x6_1] rfl qm_ ?_;(with_reducible refine (spec_l7Root.calls k1 a0 _ _ l1 x6_1 t318 _ ?side1 ?side2 A6.out).mono ?_);(case side1 => exact qn_ HR1 HB);(case side2 => exact HC1.out);rintro e w12 ⟨rfl,hb⟩;refine ⟨_,rfl,?_⟩;have n0_:=mk_ (rb_ (qr_ HO_5) hb);have n1_:=mk_ (st_ (qb_ HB) hb);clear HO_5 HB;have HO_5:=n0_;have HB:=n1_;clear n0_ n1_;(try clear hb);(try clear hb2);(try clear hk);(try clear hi))|((with_reducible refine gate_builtin (b:=.append) (xs:=#[.tmp 24,.tmp 25]) rfl ?_);at_builtin;refine Kd.R_append (Kd.int .i64) (w0:=w) w.heap.size rfl (.tmp 24) (.tmp 25) 23 3 (.int .i64 0) 8 rfl Tryd.underlying23 info3 rfl (by decide) (by omega) u5 x5_1 10000 [.int .i64 10000] (fun _ => True) (fun _ => False) rfl rfl ?aP (fun _ hk => hk.elim) ?aF ?aO ?aB ?aS ?aL ?_;(case aP => exact rfl);(case aB => exact (qb_ HB));(case aF => exact (fun _ _ => trivial));(case aO => exact (qr_ HO_5));(case aS => exact (bz_ (qb_ HB)));(case aL => have:=LMc11.out;omega);intro v323 w13 ho hb hg hat;rw [← Ny322.out] at ho;have n0_:=mk_ (hb);have n1_:=mk_ (ho);clear HB HO_5;have HB:=n0_;have HO324:=n1_;clear n0_ n1_ ho hb hg hat))
      go_roundg k1
      case measure => have:=HK1.out;omega
      case rel => exact ⟨(y322),(wrap64 (x6_1 + 1)),qf_,H',⟨by have:=HK1.out;omega⟩,⟨qr_ HO324⟩,⟨u1_ HB⟩⟩
     ·rw [if_neg c11] at H
      exact absurd H (by simp)
   ·rw [if_neg c5] at H
    have c5b0 : decide (x6_1 < a0) = false:=decide_eq_false c5
    clear c5
    have H':=mk_ H
    clear H
    go_wp2
    go_loopg [28] k1 (fun kq v28 w' => ∃ (x5_2 : List Int) (x28_2 : Int),v28 = .int .i64 x28_2 ∧ Aside0 (spec_l7Costs.l1 kq l1 x5_2 a0 x28_2 = some r) ∧ Aside0 (kq ≤ k1) ∧ Aside0 (Kd.R (Kd.int .i64) 3 w' w.heap.size (fun _ => True) u5 x5_2) ∧ Aside0 (Below w.heap.size w w'))
    case atStart => exact ⟨(x5_1),(0),qf_,H',⟨Nat.le_refl _⟩,⟨qr_ HO_5⟩,⟨u1_ HB⟩⟩
    case round =>
     clear H'
     try clear c1
     try clear p2
     try clear c4
     try clear c5
     try clear c5b0
     try clear c6
     try clear p6
     try clear c7
     try clear c7b0
     try clear c7b1
     try clear c8
     try clear c11
     try clear p2
     obtain ⟨x5_2,x28_2,rfl,HA,HK2,HO_5,HB⟩:=hrel
     cases gk with
     | zero => exact absurd HA.out (by simp [spec_l7Costs.l1])
     | succ k2 =>
      have H:=HA.out
      clear HA
      simp only [spec_l7Costs.l1] at H
      by_cases c14 : x28_2 < a0
      ·rw [if_pos c14] at H
       have c14b0 : decide (x28_2 < a0) = true:=decide_eq_true c14
       clear c14
       have H':=mk_ H
       clear H
       go_wp2
       go_loopg [7] k2 (fun kq v7 w' => ∃ (x5_3 : List Int) (x7_3 : Int),v7 = .int .i64 x7_3 ∧ Aside0 (spec_l7Costs.l2 kq l1 x5_3 x7_3 a0 x28_2 = some r) ∧ Aside0 (kq ≤ k2) ∧ Aside0 (Kd.R (Kd.int .i64) 3 w' w.heap.size (fun _ => True) u5 x5_3) ∧ Aside0 (Below w.heap.size w w'))
       case atStart => exact ⟨(x5_2),(0),qf_,H',⟨Nat.le_refl _⟩,⟨qr_ HO_5⟩,⟨u1_ HB⟩⟩
       case round =>
        clear H'
        try clear c1
        try clear p2
        try clear c4
        try clear c5
        try clear c5b0
        try clear c6
        try clear p6
        try clear c7
        try clear c7b0
        try clear c7b1
        try clear c8
        try clear c11
        try clear c14
        try clear c14b0
        try clear p2
        try clear p6
        obtain ⟨x5_3,x7_3,rfl,HA,HK3,HO_5,HB⟩:=hrel
        cases gk with
        | zero => exact absurd HA.out (by simp [spec_l7Costs.l2])
        | succ k3 =>
         have H:=HA.out
         clear HA
         simp only [spec_l7Costs.l2] at H
         by_cases c15 : x7_3 < (l1.length : Int)
         ·rw [if_pos c15] at H
          have c15b0 : decide (x7_3 < (l1.length : Int)) = true:=decide_eq_true c15
          clear c15
          by_cases c16 : 0 ≤ x7_3
          ·rw [if_pos c16] at H
           have c16b0 : decide (0 ≤ x7_3) = true:=decide_eq_true c16
           clear c16
           by_cases c17 : 0 ≤ ((rd_T71 l1 x7_3).f0)
           ·rw [if_pos c17] at H
            have c17b0 : decide (0 ≤ ((rd_T71 l1 x7_3).f0)) = true:=decide_eq_true c17
            clear c17
            by_cases c18 : ((rd_T71 l1 x7_3).f0) < (x5_3.length : Int)
            ·rw [if_pos c18] at H
             have c18b0 : decide (((rd_T71 l1 x7_3).f0) < (x5_3.length : Int)) = true:=decide_eq_true c18
             clear c18
             by_cases c19 : 0 ≤ ((rd_T71 l1 x7_3).f1)
             ·rw [if_pos c19] at H
              have c19b0 : decide (0 ≤ ((rd_T71 l1 x7_3).f1)) = true:=decide_eq_true c19
              clear c19
              by_cases c20 : ((rd_T71 l1 x7_3).f1) < (x5_3.length : Int)
              ·rw [if_pos c20] at H
               have c20b0 : decide (((rd_T71 l1 x7_3).f1) < (x5_3.length : Int)) = true:=decide_eq_true c20
               clear c20
               obtain ⟨ji21,hji21⟩ : ∃ j_ : Int,(mn (rd x5_3 ((rd_T71 l1 x7_3).f0)) (wrap64 ((rd x5_3 ((rd_T71 l1 x7_3).f1)) + ((rd_T71 l1 x7_3).f2)))) = j_:=⟨_,rfl⟩
               replace H : ((some (x5_3.set (((rd_T71 l1 x7_3).f0) : Int).toNat (ji21) : List Int)).bind fun y329 => (spec_l7Costs.l2 k3 l1 (y329.set (((rd_T71 l1 x7_3).f1) : Int).toNat (mn (rd y329 ((rd_T71 l1 x7_3).f1)) (wrap64 ((rd y329 ((rd_T71 l1 x7_3).f0)) + ((rd_T71 l1 x7_3).f2))))) (wrap64 (x7_3 + 1)) a0 x28_2)) = some r:=by first|(rw [hji21] at H;exact H)|(simp only [hji21] at H ⊢;exact H)
               have hji21_ : (if (wrap64 ((rd x5_3 ((rd_T71 l1 x7_3).f1)) + ((rd_T71 l1 x7_3).f2))) < (rd x5_3 ((rd_T71 l1 x7_3).f0)) then (wrap64 ((rd x5_3 ((rd_T71 l1 x7_3).f1)) + ((rd_T71 l1 x7_3).f2))) else (rd x5_3 ((rd_T71 l1 x7_3).f0))) = ji21:=hji21
               obtain ⟨y329,hy329⟩ : ∃ y_ : List Int,y_ = (x5_3.set (((rd_T71 l1 x7_3).f0) : Int).toNat (ji21)):=⟨_,rfl⟩
               replace H : (spec_l7Costs.l2 k3 l1 (y329.set (((rd_T71 l1 x7_3).f1) : Int).toNat (mn (rd y329 ((rd_T71 l1 x7_3).f1)) (wrap64 ((rd y329 ((rd_T71 l1 x7_3).f0)) + ((rd_T71 l1 x7_3).f2))))) (wrap64 (x7_3 + 1)) a0 x28_2) = some r:=by first|(rw [hy329];with_reducible exact H)|(have H2_:=(Option.bind_some _ _).symm.trans H;rw [hy329];with_reducible exact H2_)|(have H2_:=(Option.bind_some _ _).symm.trans H;with_reducible exact H2_)|with_reducible exact H|(rw [hy329];exact H)|exact H
               have Ny329:=mk_ hy329
               clear hy329
               obtain ⟨ji23,hji23⟩ : ∃ j_ : Int,(mn (rd y329 ((rd_T71 l1 x7_3).f1)) (wrap64 ((rd y329 ((rd_T71 l1 x7_3).f0)) + ((rd_T71 l1 x7_3).f2)))) = j_:=⟨_,rfl⟩
               replace H : (spec_l7Costs.l2 k3 l1 (y329.set (((rd_T71 l1 x7_3).f1) : Int).toNat (ji23)) (wrap64 (x7_3 + 1)) a0 x28_2) = some r:=by first|(rw [hji23] at H;exact H)|(simp only [hji23] at H ⊢;exact H)
               have hji23_ : (if (wrap64 ((rd y329 ((rd_T71 l1 x7_3).f0)) + ((rd_T71 l1 x7_3).f2))) < (rd y329 ((rd_T71 l1 x7_3).f1)) then (wrap64 ((rd y329 ((rd_T71 l1 x7_3).f0)) + ((rd_T71 l1 x7_3).f2))) else (rd y329 ((rd_T71 l1 x7_3).f1))) = ji23:=hji23
               obtain ⟨y332,hy332⟩ : ∃ y_ : List Int,y_ = (y329.set (((rd_T71 l1 x7_3).f1) : Int).toNat (ji23)):=⟨_,rfl⟩
               replace H : (spec_l7Costs.l2 k3 l1 y332 (wrap64 (x7_3 + 1)) a0 x28_2) = some r:=by first|(rw [hy332];with_reducible exact H)|(have H2_:=(Option.bind_some _ _).symm.trans H;rw [hy332];with_reducible exact H2_)|(have H2_:=(Option.bind_some _ _).symm.trans H;with_reducible exact H2_)|with_reducible exact H|(rw [hy332];exact H)|exact H
               have Ny332:=mk_ hy332
               clear hy332
               have H':=mk_ H
               clear H
               have p325 : 0 ≤ (x7_3 : Int):=od_ qa_
               have q325 : x7_3 < (l1.length : Int):=od_ qa_
               obtain ⟨ad325,e325,hx325_0,hx325_1,hx325_2⟩:=at_T71 HR1.out x7_3 p325 q325
               cases e325
               replace hx325_0:=(HB.out.cell (wl_ w _ hx325_0)).trans hx325_0
               replace hx325_1:=(HB.out.cell (wl_ w _ hx325_1)).trans hx325_1
               replace hx325_2:=(HB.out.cell (wl_ w _ hx325_2)).trans hx325_2
               replace p325:=eq_true p325
               replace q325:=eq_true q325
               try go_wp2_with (first|((with_reducible refine gate_dst (N:=8) rfl ?_);refine box_event ?hg (N:=8) ?hd (cs:=#[.int .i64 0,.int .i64 0,.int .i64 0]) (t:=71) ?hr ?_;(case hd => rfl);(case hg => rfl);(case hr => first|(go_simp;done)|(go_simp;rfl));intro gb326 hg w25 hbox hb;have n0_:=mk_ (rb_ (qr_ HO_5) hb);have n1_:=mk_ (st_ (qb_ HB) hb);have n2_:=mk_ (hbox);have n3_:=mk_ ((by rw [hg];exact (bz_ (qb_ HB)) : w.heap.size ≤ gb326));have n4_:=mk_ ((by rw [hg];exact (bz_ (qb_ HB)) : w.heap.size ≤ gb326));clear HO_5 HB;have HO_5:=n0_;have HB:=n1_;have BK326:=n2_;have GW326:=n3_;have GE326:=n4_;clear n0_ n1_ n2_ n3_ n4_ hb hbox hg;have hcz26_0 : w25.cell? ⟨gb326,0,none⟩ = some (.int .i64 0):=(bc_ BK326.out 0).trans rfl;have hcz26_1 : w25.cell? ⟨gb326,1,none⟩ = some (.int .i64 0):=(bc_ BK326.out 1).trans rfl;have hcz26_2 : w25.cell? ⟨gb326,2,none⟩ = some (.int .i64 0):=(bc_ BK326.out 2).trans rfl;have hfz26_0:=bf_ BK326.out 0;have hfz26_1:=bf_ BK326.out 1;have hfz26_2:=bf_ BK326.out 2))
               have n0_ : Aside0 (Kd.R (Kd.int .i64) 3 (((w25.setCell ⟨gb326,0,none⟩ (.int .i64 ((rd_T71 l1 x7_3).f0))).setCell ⟨gb326,1,none⟩ (.int .i64 ((rd_T71 l1 x7_3).f1))).setCell ⟨gb326,2,none⟩ (.int .i64 ((rd_T71 l1 x7_3).f2))) w.heap.size (fun _ => True) u5 x5_3):=⟨by (with_reducible repeat (first|apply ra_|apply rn_|apply rd_));exact rm_ (rf_ (p:=⟨gb326,2,none⟩) (rf_ (p:=⟨gb326,1,none⟩) (rf_ (p:=⟨gb326,0,none⟩) (rt_ HO_5.out BK326.out (by decide)) (λ_ h=>h.2) (.int .i64 ((rd_T71 l1 x7_3).f0))) (λ_ h=>h.2) (.int .i64 ((rd_T71 l1 x7_3).f1))) (λ_ h=>h.2) (.int .i64 ((rd_T71 l1 x7_3).f2))) (λ_ _=>trivial)⟩
               have n1_ : Aside0 ((((w25.setCell ⟨gb326,0,none⟩ (.int .i64 ((rd_T71 l1 x7_3).f0))).setCell ⟨gb326,1,none⟩ (.int .i64 ((rd_T71 l1 x7_3).f1))).setCell ⟨gb326,2,none⟩ (.int .i64 ((rd_T71 l1 x7_3).f2))).heap[gb326]? = some (.cells #[.int .i64 ((rd_T71 l1 x7_3).f0),.int .i64 ((rd_T71 l1 x7_3).f1),.int .i64 ((rd_T71 l1 x7_3).f2)] 71 (0,0))):=⟨by (with_reducible repeat (first|apply kn_|apply kd_|apply ka_));refine blk_put (cs:=#[.int .i64 ((rd_T71 l1 x7_3).f0),.int .i64 ((rd_T71 l1 x7_3).f1),.int .i64 0]) ?_ 2 _ rfl;(with_reducible repeat (first|apply kn_|apply kd_|apply ka_));refine blk_put (cs:=#[.int .i64 ((rd_T71 l1 x7_3).f0),.int .i64 0,.int .i64 0]) ?_ 1 _ rfl;(with_reducible repeat (first|apply kn_|apply kd_|apply ka_));refine blk_put (cs:=#[.int .i64 0,.int .i64 0,.int .i64 0]) ?_ 0 _ rfl;(with_reducible repeat (first|apply kn_|apply kd_|apply ka_));exact BK326.out⟩
               have n2_ : Aside0 (Below w.heap.size w (((w25.setCell ⟨gb326,0,none⟩ (.int .i64 ((rd_T71 l1 x7_3).f0))).setCell ⟨gb326,1,none⟩ (.int .i64 ((rd_T71 l1 x7_3).f1))).setCell ⟨gb326,2,none⟩ (.int .i64 ((rd_T71 l1 x7_3).f2)))):=⟨u0_ HB GE326⟩
               (try clear HO_5)
               (try clear BK326)
               (try clear HB)
               generalize (((w25.setCell ⟨gb326,0,none⟩ (.int .i64 ((rd_T71 l1 x7_3).f0))).setCell ⟨gb326,1,none⟩ (.int .i64 ((rd_T71 l1 x7_3).f1))).setCell ⟨gb326,2,none⟩ (.int .i64 ((rd_T71 l1 x7_3).f2))) = w27 at n0_ n1_ n2_ ⊢
               have HO_5:=n0_
               have BK326:=n1_
               have HB:=n2_
               clear n0_ n1_ n2_
               have n0_:=mk_ (rd_ HO_5.out)
               have n1_:=mk_ (kd_ BK326.out)
               have n2_:=mk_ (bd_ HB.out)
               clear HO_5
               clear BK326
               clear HB
               have HO_5:=n0_
               have BK326:=n1_
               have HB:=n2_
               clear n0_ n1_ n2_
               obtain ⟨Ao29,co29,eo29⟩:=Kd.R_slice HO_5.out
               (first|subst eo29|(injection eo29 with f1_ f2_ f3_;have f4_:=f1_.symm;have f5_:=f3_.symm;clear f1_ f2_ f3_;subst f4_;subst f5_))
               have p327 : 0 ≤ (((rd_T71 l1 x7_3).f0) : Int):=od_ qa_
               have q327 : ((rd_T71 l1 x7_3).f0) < (x5_3.length : Int):=od_ qa_
               obtain ⟨ad327,e327,hx327_0⟩:=Kd.at_int (rr_ HO_5.out).2.2 ((rd_T71 l1 x7_3).f0) p327 q327
               cases e327
               replace p327:=eq_true p327
               replace q327:=eq_true q327
               have p328 : 0 ≤ (((rd_T71 l1 x7_3).f1) : Int):=od_ qa_
               have q328 : ((rd_T71 l1 x7_3).f1) < (x5_3.length : Int):=od_ qa_
               obtain ⟨ad328,e328,hx328_0⟩:=Kd.at_int (rr_ HO_5.out).2.2 ((rd_T71 l1 x7_3).f1) p328 q328
               obtain rfl : ad327 = ad328:=(by injection e328)
               replace p328:=eq_true p328
               replace q328:=eq_true q328
               have p22 : 0 ≤ (((rd_T71 l1 x7_3).f0) : Int):=od_ qa_
               have q22 : (((rd_T71 l1 x7_3).f0) : Int) < ((x5_3.length : Int) : Int):=od_ qa_
               obtain ⟨go22,co22,eo22,gb22,gl22,cl22,HG22⟩:=Kd.R_form HO_5.out (by omega)
               (first|cases eo22|(injection eo22 with ea_ en_ ec_;(first|subst ea_|(injection ea_ with ea_;subst ea_));subst ec_;clear en_))
               have GB22:=mk_ gb22
               have GG22:=mk_ HG22
               clear gb22 gl22 HG22
               (first|simp only [add_plain] at hx327_0|skip)
               (first|simp only [add_plain] at hx328_0|skip)
               obtain ⟨hx22_0,hf22_0⟩:=Kd.R_celln 0 HO_5.out (((rd_T71 l1 x7_3).f0) : Int) p22 q22
               replace p22:=eq_true p22
               replace q22:=eq_true q22
               have HP30:=Kd.R_putn HO_5.out (((rd_T71 l1 x7_3).f0) : Int) ji21
               rw [← Ny329.out] at HP30
               have HQ30:=mk_ HP30
               clear HP30
               refine start_ (n:=19) (S:=fun w' => w'.cell? ⟨gb326,0,none⟩ = some (.int .i64 ((rd_T71 l1 x7_3).f0)) ∧ w'.cell? ⟨gb326,1,none⟩ = some (.int .i64 ((rd_T71 l1 x7_3).f1)) ∧ w'.cell? ⟨gb326,2,none⟩ = some (.int .i64 ((rd_T71 l1 x7_3).f2)) ∧ w'.cell? ⟨go22,(((rd_T71 l1 x7_3).f0)).toNat,none⟩ = some (.int .i64 (rd x5_3 ((rd_T71 l1 x7_3).f0))) ∧ w'.cell? ⟨go22,(((rd_T71 l1 x7_3).f1)).toNat,none⟩ = some (.int .i64 (rd x5_3 ((rd_T71 l1 x7_3).f1)))) (ds:=[18]) #[false,false,false,false,false,false,false,false,false,false,false,false,false,false,false,false,false,false,false] (by kernel_rfl) rfl rfl ⟨(bc_ BK326.out 0).trans rfl,(bc_ BK326.out 1).trans rfl,(bc_ BK326.out 2).trans rfl,hx327_0,hx328_0⟩ (fun hHeld => ?_);refine with_tabW spec_l7Costs.tab14 spec_l7Costs.bits14 (fun HT_ HW_ => ?_)
               generalize w27.drew = w28 at HO_5 BK326 HB GG22 HQ30 hf22_0 hx22_0 hx327_0 hx328_0 hHeld ⊢
               refine pu_ (i:=0) (N:=some 40) 19 1 ?_
               refine pu_ (i:=1) (N:=some 41) 19 3 ?_
               refine pu_ (i:=3) (N:=some 43) 19 11 ?_
               refine pu_ (i:=4) (N:=some 44) 19 27 ?_
               refine pu_ (i:=8) (N:=some 48) 19 283 ?_
               refine pu_ (i:=9) (N:=some 49) 19 795 ?_
               refine pu_ (i:=13) (N:=some 53) 19 8987 ?_
               refine ta5_ (i:=2) (N:=some 42) 19 8991 hHeld ?_
               refine ta5_ (i:=5) (N:=some 45) 19 9023 hHeld ?_
               refine pu_ (i:=6) (N:=some 46) 19 9087 ?_
               refine ta5_ (i:=7) (N:=some 47) 19 9215 hHeld ?_
               refine ta5_ (i:=10) (N:=some 50) 19 10239 hHeld ?_
               refine pu_ (i:=11) (N:=some 51) 19 12287 ?_
               refine ta5_ (i:=12) (N:=some 52) 19 16383 hHeld ?_
               refine ta5_ (i:=14) (N:=some 54) 19 32767 hHeld ?_
               refine pu_ (i:=15) (N:=some 55) 19 65535 ?_
               refine pu_ (i:=16) (N:=some 56) 19 131071 ?_
               refine pu_ (i:=17) (N:=some 57) 19 262143 ?_
               refine last_ (i:=18) (N:=none) #[true,true,true,true,true,true,true,true,true,true,true,true,true,true,true,true,true,true,true] rfl rfl (one_of HT_.out (by kernel_rfl)) (by decide) (fun K hK => ?_)
               refine skip_ (w1:=?_) (by rfl) rfl ?_ ?_
               rotate_left
               ·go_simp
                rfl
               refine hK.out _ _ ?_
               clear hK K
               refine done_ (done_of HT_.out (by kernel_rfl)) ?_
               try go_wp2
               have n0_ : Aside0 (Kd.R (Kd.int .i64) 3 (w28.setCell ⟨go22,(((rd_T71 l1 x7_3).f0) : Int).toNat,none⟩ (.int .i64 ji21)) w.heap.size (fun _ => True) (.slice (some ⟨go22,0,none⟩) x5_3.length co29) y329):=⟨qr_ HQ30⟩
               have n1_ : Aside0 ((w28.setCell ⟨go22,(((rd_T71 l1 x7_3).f0) : Int).toNat,none⟩ (.int .i64 ji21)).heap[gb326]? = some (.cells #[.int .i64 ((rd_T71 l1 x7_3).f0),.int .i64 ((rd_T71 l1 x7_3).f1),.int .i64 ((rd_T71 l1 x7_3).f2)] 71 (0,0))):=⟨by (with_reducible repeat (first|apply kn_|apply kd_|apply ka_));refine blk_far ?_ (by have h_:=Kd.R_ne HO_5.out BK326.out (by decide);intro e_;exact h_ (by rw [e_];rfl)) _;(with_reducible repeat (first|apply kn_|apply kd_|apply ka_));exact BK326.out⟩
               have n2_ : Aside0 (Below w.heap.size w (w28.setCell ⟨go22,(((rd_T71 l1 x7_3).f0) : Int).toNat,none⟩ (.int .i64 ji21))):=⟨u2_ HB GB22 GE326⟩
               (try clear HO_5)
               (try clear BK326)
               (try clear HB)
               generalize (w28.setCell ⟨go22,(((rd_T71 l1 x7_3).f0) : Int).toNat,none⟩ (.int .i64 ji21)) = w31 at n0_ n1_ n2_ ⊢
               have HO_5:=n0_
               have BK326:=n1_
               have HB:=n2_
               clear n0_ n1_ n2_
               have n0_:=mk_ (rd_ HO_5.out)
               have n1_:=mk_ (kd_ BK326.out)
               have n2_:=mk_ (bd_ HB.out)
               clear HO_5
               clear BK326
               clear HB
               have HO_5:=n0_
               have BK326:=n1_
               have HB:=n2_
               clear n0_ n1_ n2_
               have p330 : 0 ≤ (((rd_T71 l1 x7_3).f1) : Int):=od_ qa_
               have q330 : ((rd_T71 l1 x7_3).f1) < (y329.length : Int):=(by have h_ : (((rd_T71 l1 x7_3).f1) : Int) < ((x5_3.length : Int) : Int):=od_ qa_;first|(have e_:=(rr_ HO_5.out).1;omega)|simpa only [Ny329.out,List.length_set] using h_)
               have ql330 : ((((rd_T71 l1 x7_3).f1) : Int) < ((x5_3.length : Int) : Int)) = True:=eq_true (od_ qa_)
               obtain ⟨ad330,e330,hx330_0⟩:=Kd.at_int (rr_ HO_5.out).2.2 ((rd_T71 l1 x7_3).f1) p330 q330
               obtain rfl : (⟨go22,0,none⟩ : Addr) = ad330:=(by injection e330)
               (first|simp only [add_plain] at hx330_0|simp only [add_at] at hx330_0|simp only [Addr.add,Nat.zero_add] at hx330_0|skip)
               replace p330:=eq_true p330
               replace q330:=eq_true q330
               have p331 : 0 ≤ (((rd_T71 l1 x7_3).f0) : Int):=od_ qa_
               have q331 : ((rd_T71 l1 x7_3).f0) < (y329.length : Int):=(by have h_ : (((rd_T71 l1 x7_3).f0) : Int) < ((x5_3.length : Int) : Int):=od_ qa_;first|(have e_:=(rr_ HO_5.out).1;omega)|simpa only [Ny329.out,List.length_set] using h_)
               have ql331 : ((((rd_T71 l1 x7_3).f0) : Int) < ((x5_3.length : Int) : Int)) = True:=eq_true (od_ qa_)
               obtain ⟨ad331,e331,hx331_0⟩:=Kd.at_int (rr_ HO_5.out).2.2 ((rd_T71 l1 x7_3).f0) p331 q331
               obtain rfl : (⟨go22,0,none⟩ : Addr) = ad331:=(by injection e331)
               (first|simp only [add_plain] at hx331_0|simp only [add_at] at hx331_0|simp only [Addr.add,Nat.zero_add] at hx331_0|skip)
               replace p331:=eq_true p331
               replace q331:=eq_true q331
               have p24 : 0 ≤ (((rd_T71 l1 x7_3).f1) : Int):=od_ qa_
               have q24 : (((rd_T71 l1 x7_3).f1) : Int) < ((x5_3.length : Int) : Int):=od_ qa_
               obtain ⟨hx24_0,hf24_0⟩:=Kd.R_celln 0 HO_5.out (((rd_T71 l1 x7_3).f1) : Int) p24 q24
               replace p24:=eq_true p24
               replace q24:=eq_true q24
               have HP33:=Kd.R_putn HO_5.out (((rd_T71 l1 x7_3).f1) : Int) ji23
               rw [← Ny332.out] at HP33
               have HQ33:=mk_ HP33
               clear HP33
               refine start_ (n:=19) (S:=fun w' => w'.cell? ⟨gb326,0,none⟩ = some (.int .i64 ((rd_T71 l1 x7_3).f0)) ∧ w'.cell? ⟨gb326,1,none⟩ = some (.int .i64 ((rd_T71 l1 x7_3).f1)) ∧ w'.cell? ⟨gb326,2,none⟩ = some (.int .i64 ((rd_T71 l1 x7_3).f2)) ∧ w'.cell? ⟨go22,(((rd_T71 l1 x7_3).f1)).toNat,none⟩ = some (.int .i64 (rd y329 ((rd_T71 l1 x7_3).f1))) ∧ w'.cell? ⟨go22,(((rd_T71 l1 x7_3).f0)).toNat,none⟩ = some (.int .i64 (rd y329 ((rd_T71 l1 x7_3).f0)))) (ds:=[18]) #[false,false,false,false,false,false,false,false,false,false,false,false,false,false,false,false,false,false,false] (by kernel_rfl) rfl rfl ⟨(bc_ BK326.out 0).trans rfl,(bc_ BK326.out 1).trans rfl,(bc_ BK326.out 2).trans rfl,hx330_0,hx331_0⟩ (fun hHeld => ?_);refine with_tabW spec_l7Costs.tab15 spec_l7Costs.bits15 (fun HT_ HW_ => ?_)
               generalize w31.drew = w32 at HO_5 BK326 HB HQ30 HQ33 hf24_0 hx24_0 hx330_0 hx331_0 hHeld ⊢
               refine pu_ (i:=0) (N:=some 58) 19 1 ?_
               refine pu_ (i:=1) (N:=some 59) 19 3 ?_
               refine pu_ (i:=3) (N:=some 61) 19 11 ?_
               refine pu_ (i:=4) (N:=some 62) 19 27 ?_
               refine pu_ (i:=8) (N:=some 66) 19 283 ?_
               refine pu_ (i:=9) (N:=some 67) 19 795 ?_
               refine pu_ (i:=13) (N:=some 71) 19 8987 ?_
               refine ta5_ (i:=2) (N:=some 60) 19 8991 hHeld ?_
               refine ta5_ (i:=5) (N:=some 63) 19 9023 hHeld ?_
               refine pu_ (i:=6) (N:=some 64) 19 9087 ?_
               refine ta5_ (i:=7) (N:=some 65) 19 9215 hHeld ?_
               refine ta5_ (i:=10) (N:=some 68) 19 10239 hHeld ?_
               refine pu_ (i:=11) (N:=some 69) 19 12287 ?_
               refine ta5_ (i:=12) (N:=some 70) 19 16383 hHeld ?_
               refine ta5_ (i:=14) (N:=some 72) 19 32767 hHeld ?_
               refine pu_ (i:=15) (N:=some 73) 19 65535 ?_
               refine pu_ (i:=16) (N:=some 74) 19 131071 ?_
               refine pu_ (i:=17) (N:=some 75) 19 262143 ?_
               refine last_ (i:=18) (N:=none) #[true,true,true,true,true,true,true,true,true,true,true,true,true,true,true,true,true,true,true] rfl rfl (one_of HT_.out (by kernel_rfl)) (by decide) (fun K hK => ?_)
               refine skip_ (w1:=?_) (by rfl) rfl ?_ ?_
               rotate_left
               ·go_simp
                rfl
               refine hK.out _ _ ?_
               clear hK K
               refine done_ (done_of HT_.out (by kernel_rfl)) ?_
               try go_wp2
               go_roundg k3
               case measure => have:=HK1.out;have:=HK2.out;have:=HK3.out;omega
               case rel => exact ⟨(y332),(wrap64 (x7_3 + 1)),qf_,H',⟨by have:=HK1.out;have:=HK2.out;have:=HK3.out;omega⟩,⟨qr_ HQ33⟩,⟨u2_ HB GB22 GE326⟩⟩
              ·rw [if_neg c20] at H
               exact absurd H (by simp)
             ·rw [if_neg c19] at H
              exact absurd H (by simp)
            ·rw [if_neg c18] at H
             exact absurd H (by simp)
           ·rw [if_neg c17] at H
            exact absurd H (by simp)
          ·rw [if_neg c16] at H
           exact absurd H (by simp)
         ·rw [if_neg c15] at H
          have c15b0 : decide (x7_3 < (l1.length : Int)) = false:=decide_eq_false c15
          clear c15
          have H':=mk_ H
          clear H
          go_wp2
          go_roundg k3
          case measure => have:=HK1.out;have:=HK2.out;have:=HK3.out;omega
          case rel => exact ⟨(x5_3),(wrap64 (x28_2 + 1)),qf_,H',⟨by have:=HK1.out;have:=HK2.out;have:=HK3.out;omega⟩,⟨qr_ HO_5⟩,⟨u1_ HB⟩⟩
      ·rw [if_neg c14] at H
       have c14b0 : decide (x28_2 < a0) = false:=decide_eq_false c14
       clear c14
       obtain rfl:=Option.some.inj H
       go_wp2
       go_ret
       exact ⟨_,qe_,qr_ HO_5,u1_ HB⟩

/-! ### spec_l7Other: function 50 -/
def spec_l7Other.f (a0_0 : Int) (a0_1 : Int) (a0_2 : Int) (a1 : Int) : Option (Int):=if a1 = a0_0 then (some a0_1) else (if a1 = a0_1 then (some a0_0) else (some (-1)))
set_option maxHeartbeats 8000000 in
set_option maxRecDepth 100000 in
theorem spec_l7Other.calls (a0_0 : Int) (a0_1 : Int) (a0_2 : Int) (a1 : Int) (r : Int) (w : World) (h : spec_l7Other.f a0_0 a0_1 a0_2 a1 = some r) :
  Calls Tryd.prog 50 #[.agg #[.int .i64 a0_0,.int .i64 a0_1,.int .i64 a0_2],.int .i64 a1] w fun e w' => e = .returned (.int .i64 r) ∧ Below w.heap.size w w':=by
 have hu71:=Tryd.underlying71
 have HB:=mk_ (Below.refl w.heap.size w)
 have H : (if a1 = a0_0 then (some a0_1) else (if a1 = a0_1 then (some a0_0) else (some (-1)))) = some r:=h
 clear h
 by_cases c3 : a1 = a0_0
 ·rw [if_pos c3] at H
  have c3b0 : (a1 == a0_0) = true:=beq_iff_eq.mpr c3
  have c3b1 : (a1 != a0_0) = false:=bne_eq_false_iff_eq.mpr c3
  clear c3
  obtain rfl:=Option.some.inj H
  go_enter Tryd.func50,Tryd.ntmps50
  go_wp2_with (first|((with_reducible refine gate_dst (N:=2) rfl ?_);refine box_event ?hg (N:=2) ?hd (cs:=#[.int .i64 a0_0,.int .i64 a0_1,.int .i64 a0_2]) (t:=71) ?hr ?_;(case hd => rfl);(case hg => rfl);(case hr => first|(go_simp;done)|(go_simp;rfl));intro gb333 hg w4 hbox hb;have n0_:=mk_ (st_ (qb_ HB) hb);have n1_:=mk_ (hbox);have n2_:=mk_ ((by rw [hg];exact (bz_ (qb_ HB)) : w.heap.size ≤ gb333));have n3_:=mk_ ((by rw [hg];exact (bz_ (qb_ HB)) : w.heap.size ≤ gb333));clear HB;have HB:=n0_;have BK333:=n1_;have GW333:=n2_;have GE333:=n3_;clear n0_ n1_ n2_ n3_ hb hbox hg;have hcz5_0 : w4.cell? ⟨gb333,0,none⟩ = some (.int .i64 a0_0):=(bc_ BK333.out 0).trans rfl;have hcz5_1 : w4.cell? ⟨gb333,1,none⟩ = some (.int .i64 a0_1):=(bc_ BK333.out 1).trans rfl;have hcz5_2 : w4.cell? ⟨gb333,2,none⟩ = some (.int .i64 a0_2):=(bc_ BK333.out 2).trans rfl;have hfz5_0:=bf_ BK333.out 0;have hfz5_1:=bf_ BK333.out 1;have hfz5_2:=bf_ BK333.out 2))
  go_ret
  exact ⟨qe_,u0_ HB GE333⟩
 ·rw [if_neg c3] at H
  have c3b0 : (a1 == a0_0) = false:=beq_eq_false_iff_ne.mpr c3
  have c3b1 : (a1 != a0_0) = true:=bne_iff_ne.mpr c3
  by_cases c6 : a1 = a0_1
  ·rw [if_pos c6] at H
   have c6b0 : (a1 == a0_1) = true:=beq_iff_eq.mpr c6
   have c6b1 : (a1 != a0_1) = false:=bne_eq_false_iff_eq.mpr c6
   clear c6
   obtain rfl:=Option.some.inj H
   go_enter Tryd.func50,Tryd.ntmps50
   go_wp2_with (first|((with_reducible refine gate_dst (N:=2) rfl ?_);refine box_event ?hg (N:=2) ?hd (cs:=#[.int .i64 a0_0,.int .i64 a0_1,.int .i64 a0_2]) (t:=71) ?hr ?_;(case hd => rfl);(case hg => rfl);(case hr => first|(go_simp;done)|(go_simp;rfl));intro gb333 hg w7 hbox hb;have n0_:=mk_ (st_ (qb_ HB) hb);have n1_:=mk_ (hbox);have n2_:=mk_ ((by rw [hg];exact (bz_ (qb_ HB)) : w.heap.size ≤ gb333));have n3_:=mk_ ((by rw [hg];exact (bz_ (qb_ HB)) : w.heap.size ≤ gb333));clear HB;have HB:=n0_;have BK333:=n1_;have GW333:=n2_;have GE333:=n3_;clear n0_ n1_ n2_ n3_ hb hbox hg;have hcz8_0 : w7.cell? ⟨gb333,0,none⟩ = some (.int .i64 a0_0):=(bc_ BK333.out 0).trans rfl;have hcz8_1 : w7.cell? ⟨gb333,1,none⟩ = some (.int .i64 a0_1):=(bc_ BK333.out 1).trans rfl;have hcz8_2 : w7.cell? ⟨gb333,2,none⟩ = some (.int .i64 a0_2):=(bc_ BK333.out 2).trans rfl;have hfz8_0:=bf_ BK333.out 0;have hfz8_1:=bf_ BK333.out 1;have hfz8_2:=bf_ BK333.out 2))
   go_ret
   exact ⟨qe_,u0_ HB GE333⟩
  ·rw [if_neg c6] at H
   have c6b0 : (a1 == a0_1) = false:=beq_eq_false_iff_ne.mpr c6
   have c6b1 : (a1 != a0_1) = true:=bne_iff_ne.mpr c6
   obtain rfl:=Option.some.inj H
   go_enter Tryd.func50,Tryd.ntmps50
   go_wp2_with (first|((with_reducible refine gate_dst (N:=2) rfl ?_);refine box_event ?hg (N:=2) ?hd (cs:=#[.int .i64 a0_0,.int .i64 a0_1,.int .i64 a0_2]) (t:=71) ?hr ?_;(case hd => rfl);(case hg => rfl);(case hr => first|(go_simp;done)|(go_simp;rfl));intro gb333 hg w9 hbox hb;have n0_:=mk_ (st_ (qb_ HB) hb);have n1_:=mk_ (hbox);have n2_:=mk_ ((by rw [hg];exact (bz_ (qb_ HB)) : w.heap.size ≤ gb333));have n3_:=mk_ ((by rw [hg];exact (bz_ (qb_ HB)) : w.heap.size ≤ gb333));clear HB;have HB:=n0_;have BK333:=n1_;have GW333:=n2_;have GE333:=n3_;clear n0_ n1_ n2_ n3_ hb hbox hg;have hcz10_0 : w9.cell? ⟨gb333,0,none⟩ = some (.int .i64 a0_0):=(bc_ BK333.out 0).trans rfl;have hcz10_1 : w9.cell? ⟨gb333,1,none⟩ = some (.int .i64 a0_1):=(bc_ BK333.out 1).trans rfl;have hcz10_2 : w9.cell? ⟨gb333,2,none⟩ = some (.int .i64 a0_2):=(bc_ BK333.out 2).trans rfl;have hfz10_0:=bf_ BK333.out 0;have hfz10_1:=bf_ BK333.out 1;have hfz10_2:=bf_ BK333.out 2))
   go_ret
   exact ⟨qe_,u0_ HB GE333⟩

/-! ### spec_l7Up: function 47 -/
mutual
def spec_l7Up.l0 : Nat → List (S71) → List Int → Int → Int → Int → Option (Int)
 | 0,_,_,_,_,_ => none
 | k + 1,x0,x1,x2,x7,x8 => if x8 < (x0.length : Int) then (if 0 ≤ x8 then ((spec_l7Other.f ((rd_T71 x0 x8).f0) ((rd_T71 x0 x8).f1) ((rd_T71 x0 x8).f2) x2).bind fun t336 => (if t336 < 0 then (spec_l7Up.j1 k x0 x1 x2 x7 x8 t336 true) else (if 0 ≤ t336 then (if t336 < (x1.length : Int) then (if 0 ≤ x2 then (if x2 < (x1.length : Int) then (spec_l7Up.j1 k x0 x1 x2 x7 x8 t336 ((wrap64 ((rd x1 t336) + ((rd_T71 x0 x8).f2))) != (rd x1 x2))) else (none)) else (none)) else (none)) else (none)))) else (none)) else (some x7)
def spec_l7Up.j1 : Nat → List (S71) → List Int → Int → Int → Int → Int → Bool → Option (Int)
 | 0,_,_,_,_,_,_,_ => none
 | k + 1,x0,x1,x2,x7,x8,x9,x46 => if x46 = true then (spec_l7Up.l0 k x0 x1 x2 x7 (wrap64 (x8 + 1))) else (if x7 < 0 then (spec_l7Up.l0 k x0 x1 x2 x8 (wrap64 (x8 + 1))) else (if 0 ≤ x7 then (if x7 < (x0.length : Int) then ((spec_l7Other.f ((rd_T71 x0 x7).f0) ((rd_T71 x0 x7).f1) ((rd_T71 x0 x7).f2) x2).bind fun t341 => (if x9 < t341 then (spec_l7Up.l0 k x0 x1 x2 x8 (wrap64 (x8 + 1))) else (spec_l7Up.l0 k x0 x1 x2 x7 (wrap64 (x8 + 1))))) else (none)) else (none)))
end
def spec_l7Up.f (k : Nat) (l0 : List (S71)) (l1 : List Int) (a2 : Int) : Option (Int):=if 0 ≤ a2 then (if a2 < (l1.length : Int) then (if (rd l1 a2) = 0 then (some (-1)) else (spec_l7Up.l0 k l0 l1 a2 (-1) 0)) else (none)) else (none)
theorem spec_l7Up.mono_l : ∀ k,(∀ y0 y1 y2 y3 y4,LeO (spec_l7Up.l0 k y0 y1 y2 y3 y4) (spec_l7Up.l0 (k + 1) y0 y1 y2 y3 y4)) ∧ (∀ y0 y1 y2 y3 y4 y5 y6,LeO (spec_l7Up.j1 k y0 y1 y2 y3 y4 y5 y6) (spec_l7Up.j1 (k + 1) y0 y1 y2 y3 y4 y5 y6))
 | 0 => ⟨fun _ _ _ _ _ r h => by simp [spec_l7Up.l0] at h,fun _ _ _ _ _ _ _ r h => by simp [spec_l7Up.j1] at h⟩
 | k + 1 => by
  obtain ⟨ih0,ih1⟩:=spec_l7Up.mono_l k
  refine ⟨?_,?_⟩
  ·intro y0 y1 y2 y3 y4
   unfold spec_l7Up.l0
   repeat' first
   | (with_reducible exact ih0 _ _ _ _ _)
   | (with_reducible exact ih1 _ _ _ _ _ _ _)
   | (with_reducible exact LeO.refl _)
   | (with_reducible exact LeO.none _)
   | (with_reducible refine LeO.ite ?_ ?_)
   | (with_reducible refine LeO.bind ?_ (fun _ => ?_))
   | exact ih0 _ _ _ _ _
   | exact ih1 _ _ _ _ _ _ _
   | exact LeO.none _
   | refine LeO.ite ?_ ?_
   | refine LeO.bind ?_ (fun _ => ?_)
  ·intro y0 y1 y2 y3 y4 y5 y6
   unfold spec_l7Up.j1
   repeat' first
   | (with_reducible exact ih0 _ _ _ _ _)
   | (with_reducible exact ih1 _ _ _ _ _ _ _)
   | (with_reducible exact LeO.refl _)
   | (with_reducible exact LeO.none _)
   | (with_reducible refine LeO.ite ?_ ?_)
   | (with_reducible refine LeO.bind ?_ (fun _ => ?_))
   | exact ih0 _ _ _ _ _
   | exact ih1 _ _ _ _ _ _ _
   | exact LeO.none _
   | refine LeO.ite ?_ ?_
   | refine LeO.bind ?_ (fun _ => ?_)
theorem spec_l7Up.mono : ∀ a0 a1 a2 k,LeO (spec_l7Up.f k a0 a1 a2) (spec_l7Up.f (k + 1) a0 a1 a2):=by
 intro a0 a1 a2 k
 obtain ⟨ih0,ih1⟩:=spec_l7Up.mono_l k
 unfold spec_l7Up.f
 repeat' first
   | (with_reducible exact ih0 _ _ _ _ _)
   | (with_reducible exact ih1 _ _ _ _ _ _ _)
   | (with_reducible exact LeO.refl _)
   | (with_reducible exact LeO.none _)
   | (with_reducible refine LeO.ite ?_ ?_)
   | (with_reducible refine LeO.bind ?_ (fun _ => ?_))
   | exact ih0 _ _ _ _ _
   | exact ih1 _ _ _ _ _ _ _
   | exact LeO.none _
   | refine LeO.ite ?_ ?_
   | refine LeO.bind ?_ (fun _ => ?_)
set_option maxHeartbeats 8000000 in
set_option maxRecDepth 100000 in
theorem spec_l7Up.calls (k : Nat) (A0 : Option Addr) (c0 : Nat) (l0 : List (S71)) (A1 : Option Addr) (c1 : Nat) (l1 : List Int) (a2 : Int) (r : Int) (w : World) (hr0 : Kd.C k71 w A0 l0.length l0) (hc0 : l0.length ≤ c0) (hr1 : Kd.C (Kd.int .i64) w A1 l1.length l1) (hc1 : l1.length ≤ c1) (h : spec_l7Up.f k l0 l1 a2 = some r) :
  Calls Tryd.prog 47 #[.slice A0 l0.length c0,.slice A1 l1.length c1,.int .i64 a2] w fun e w' => e = .returned (.int .i64 r) ∧ Below w.heap.size w w':=by
 have hu71:=Tryd.underlying71
 have HR0:=mk_ hr0
 have HC0:=mk_ hc0
 clear hr0 hc0
 have HR1:=mk_ hr1
 have HC1:=mk_ hc1
 clear hr1 hc1
 have HB:=mk_ (Below.refl w.heap.size w)
 have H : (if 0 ≤ a2 then (if a2 < (l1.length : Int) then (if (rd l1 a2) = 0 then (some (-1)) else (spec_l7Up.l0 k l0 l1 a2 (-1) 0)) else (none)) else (none)) = some r:=h
 clear h
 by_cases c4 : 0 ≤ a2
 ·rw [if_pos c4] at H
  have c4b0 : decide (0 ≤ a2) = true:=decide_eq_true c4
  clear c4
  by_cases c5 : a2 < (l1.length : Int)
  ·rw [if_pos c5] at H
   have c5b0 : decide (a2 < (l1.length : Int)) = true:=decide_eq_true c5
   clear c5
   by_cases c6 : (rd l1 a2) = 0
   ·rw [if_pos c6] at H
    have c6b0 : ((rd l1 a2) == 0) = true:=beq_iff_eq.mpr c6
    have c6b1 : ((rd l1 a2) != 0) = false:=bne_eq_false_iff_eq.mpr c6
    clear c6
    obtain rfl:=Option.some.inj H
    have p334 : 0 ≤ (a2 : Int):=od_ qa_
    have q334 : a2 < (l1.length : Int):=od_ qa_
    obtain ⟨ad334,e334,hx334_0⟩:=Kd.at_int HR1.out a2 p334 q334
    cases e334
    replace p334:=eq_true p334
    replace q334:=eq_true q334
    go_enter Tryd.func47,Tryd.ntmps47
    go_wp2
    repeat (go_quiet (fail);try go_wp2)
    go_ret
    exact ⟨qe_,u1_ HB⟩
   ·rw [if_neg c6] at H
    have c6b0 : ((rd l1 a2) == 0) = false:=beq_eq_false_iff_ne.mpr c6
    have c6b1 : ((rd l1 a2) != 0) = true:=bne_iff_ne.mpr c6
    have H':=mk_ H
    clear H
    have p334 : 0 ≤ (a2 : Int):=od_ qa_
    have q334 : a2 < (l1.length : Int):=od_ qa_
    obtain ⟨ad334,e334,hx334_0⟩:=Kd.at_int HR1.out a2 p334 q334
    cases e334
    replace p334:=eq_true p334
    replace q334:=eq_true q334
    go_enter Tryd.func47,Tryd.ntmps47
    go_wp2
    repeat (go_quiet (fail);try go_wp2)
    go_loopg [7,8] k (fun kq v7 v8 w' => ∃ (x7_1 : Int) (x8_1 : Int),v7 = .int .i64 x7_1 ∧ v8 = .int .i64 x8_1 ∧ Aside0 (spec_l7Up.l0 kq l0 l1 a2 x7_1 x8_1 = some r) ∧ Aside0 (kq ≤ k) ∧ Aside0 (Below w.heap.size w w'))
    case atStart => exact ⟨((-1)),(0),qf_,qf_,H',⟨Nat.le_refl _⟩,⟨u1_ HB⟩⟩
    case round =>
     clear H'
     try clear c1
     try clear p2
     try clear p3
     try clear q3
     try clear hx3
     try clear c4
     try clear c4b0
     try clear c5
     try clear c5b0
     try clear c6
     try clear c6b0
     try clear c6b1
     try clear hx334_0
     try clear p334
     try clear q334
     obtain ⟨x7_1,x8_1,rfl,rfl,HA,HK1,HB⟩:=hrel
     cases gk with
     | zero => exact absurd HA.out (by simp [spec_l7Up.l0])
     | succ k1 =>
      have H:=HA.out
      clear HA
      simp only [spec_l7Up.l0] at H
      by_cases c7 : x8_1 < (l0.length : Int)
      ·rw [if_pos c7] at H
       have c7b0 : decide (x8_1 < (l0.length : Int)) = true:=decide_eq_true c7
       clear c7
       by_cases c8 : 0 ≤ x8_1
       ·rw [if_pos c8] at H
        have c8b0 : decide (0 ≤ x8_1) = true:=decide_eq_true c8
        clear c8
        replace H:=Option.bind_eq_some_iff.mp H
        obtain ⟨t336,A90,H⟩:=H
        replace H : (if t336 < 0 then (spec_l7Up.j1 k1 l0 l1 a2 x7_1 x8_1 t336 true) else (if 0 ≤ t336 then (if t336 < (l1.length : Int) then (if 0 ≤ a2 then (if a2 < (l1.length : Int) then (spec_l7Up.j1 k1 l0 l1 a2 x7_1 x8_1 t336 ((wrap64 ((rd l1 t336) + ((rd_T71 l0 x8_1).f2))) != (rd l1 a2))) else (none)) else (none)) else (none)) else (none))) = some r:=H
        have A9:=mk_ A90
        clear A90
        have HC10:=mk_ H
        clear H
        have p335 : 0 ≤ (x8_1 : Int):=od_ qa_
        have q335 : x8_1 < (l0.length : Int):=od_ qa_
        obtain ⟨ad335,e335,hx335_0,hx335_1,hx335_2⟩:=at_T71 HR0.out x8_1 p335 q335
        cases e335
        replace hx335_0:=(HB.out.cell (wl_ w _ hx335_0)).trans hx335_0
        replace hx335_1:=(HB.out.cell (wl_ w _ hx335_1)).trans hx335_1
        replace hx335_2:=(HB.out.cell (wl_ w _ hx335_2)).trans hx335_2
        replace p335:=eq_true p335
        replace q335:=eq_true q335
        go_upto_region 8 with (first|(go_at_call 50;(with_reducible refine (spec_l7Other.calls ((rd_T71 l0 x8_1).f0) ((rd_T71 l0 x8_1).f1) ((rd_T71 l0 x8_1).f2) a2 t336 _ A9.out).mono ?_);rintro e w11 ⟨rfl,hb⟩;have n0_:=mk_ (st_ (qb_ HB) hb);clear HB;have HB:=n0_;clear n0_;(try clear hb);(try clear hb2);(try clear hk);(try clear hi)))
        repeat (go_quiet (first|(go_at_call 50;(with_reducible refine (spec_l7Other.calls ((rd_T71 l0 x8_1).f0) ((rd_T71 l0 x8_1).f1) ((rd_T71 l0 x8_1).f2) a2 t336 _ A9.out).mono ?_);rintro e w11 ⟨rfl,hb⟩;have n0_:=mk_ (st_ (qb_ HB) hb);clear HB;have HB:=n0_;clear n0_;(try clear hb);(try clear hb2);(try clear hk);(try clear hi)));go_upto_region 8 with (first|(go_at_call 50;(with_reducible refine (spec_l7Other.calls ((rd_T71 l0 x8_1).f0) ((rd_T71 l0 x8_1).f1) ((rd_T71 l0 x8_1).f2) a2 t336 _ A9.out).mono ?_);rintro e w11 ⟨rfl,hb⟩;have n0_:=mk_ (st_ (qb_ HB) hb);clear HB;have HB:=n0_;clear n0_;(try clear hb);(try clear hb2);(try clear hk);(try clear hi))))
        (try simp only [Act.put,sx_,sy_,sz_])
        go_cut [46] (fun v46 wc => ∃ (kq : Nat) (x46_9 : Bool),v46 = .bool x46_9 ∧ Aside0 (spec_l7Up.j1 kq l0 l1 a2 x7_1 x8_1 t336 x46_9 = some r) ∧ Aside0 (kq ≤ k1) ∧ Aside0 (Below w.heap.size w wc))
        case first =>
         have H:=HC10.out
         clear HC10
         by_cases c12 : t336 < 0
         ·rw [if_pos c12] at H
          have c12b0 : decide (t336 < 0) = true:=decide_eq_true c12
          clear c12
          (first|rw [c12b0]|(simp only [i64_w,i32_w];rw [c12b0])|skip)
          have H':=mk_ H
          clear H
          go_wp2
          repeat (go_quiet (fail);try go_wp2)
          go_meet
          case rel => exact ⟨_,(true),qf_,H',⟨by have:=HK1.out;first|omega|exact Nat.le_refl _⟩,⟨u1_ HB⟩⟩
         ·rw [if_neg c12] at H
          have c12b0 : decide (t336 < 0) = false:=decide_eq_false c12
          clear c12
          (first|rw [c12b0]|(simp only [i64_w,i32_w];rw [c12b0])|skip)
          by_cases c13 : 0 ≤ t336
          ·rw [if_pos c13] at H
           have c13b0 : decide (0 ≤ t336) = true:=decide_eq_true c13
           clear c13
           by_cases c14 : t336 < (l1.length : Int)
           ·rw [if_pos c14] at H
            have c14b0 : decide (t336 < (l1.length : Int)) = true:=decide_eq_true c14
            clear c14
            by_cases c15 : 0 ≤ a2
            ·rw [if_pos c15] at H
             have c15b0 : decide (0 ≤ a2) = true:=decide_eq_true c15
             clear c15
             by_cases c16 : a2 < (l1.length : Int)
             ·rw [if_pos c16] at H
              have c16b0 : decide (a2 < (l1.length : Int)) = true:=decide_eq_true c16
              clear c16
              have H':=mk_ H
              clear H
              have p337 : 0 ≤ (t336 : Int):=od_ qa_
              have q337 : t336 < (l1.length : Int):=od_ qa_
              obtain ⟨ad337,e337,hx337_0⟩:=Kd.at_int HR1.out t336 p337 q337
              obtain rfl : ad334 = ad337:=(by injection e337)
              replace hx337_0:=(HB.out.cell (wl_ w _ hx337_0)).trans hx337_0
              replace p337:=eq_true p337
              replace q337:=eq_true q337
              have p338 : 0 ≤ (x8_1 : Int):=od_ qa_
              have q338 : x8_1 < (l0.length : Int):=od_ qa_
              obtain ⟨ad338,e338,hx338_0,hx338_1,hx338_2⟩:=at_T71 HR0.out x8_1 p338 q338
              obtain rfl : ad335 = ad338:=(by injection e338)
              replace hx338_0:=(HB.out.cell (wl_ w _ hx338_0)).trans hx338_0
              replace hx338_1:=(HB.out.cell (wl_ w _ hx338_1)).trans hx338_1
              replace hx338_2:=(HB.out.cell (wl_ w _ hx338_2)).trans hx338_2
              replace p338:=eq_true p338
              replace q338:=eq_true q338
              have p339 : 0 ≤ (a2 : Int):=od_ qa_
              have q339 : a2 < (l1.length : Int):=od_ qa_
              obtain ⟨ad339,e339,hx339_0⟩:=Kd.at_int HR1.out a2 p339 q339
              obtain rfl : ad334 = ad339:=(by injection e339)
              replace hx339_0:=(HB.out.cell (wl_ w _ hx339_0)).trans hx339_0
              replace p339:=eq_true p339
              replace q339:=eq_true q339
              go_wp2
              repeat (go_quiet (fail);try go_wp2)
              go_meet
              case rel => exact ⟨_,(((wrap64 ((rd l1 t336) + ((rd_T71 l0 x8_1).f2))) != (rd l1 a2))),qf_,H',⟨by have:=HK1.out;first|omega|exact Nat.le_refl _⟩,⟨u1_ HB⟩⟩
             ·rw [if_neg c16] at H
              exact absurd H (by simp)
            ·rw [if_neg c15] at H
             exact absurd H (by simp)
           ·rw [if_neg c14] at H
            exact absurd H (by simp)
          ·rw [if_neg c13] at H
           exact absurd H (by simp)
        case rest =>
         clear HC10
         try clear c1
         try clear p2
         try clear p3
         try clear q3
         try clear hx3
         try clear c4
         try clear c4b0
         try clear c5
         try clear c5b0
         try clear c6
         try clear c6b0
         try clear c6b1
         try clear p6
         try clear c7
         try clear c7b0
         try clear c8
         try clear c8b0
         try clear c12
         try clear c12b0
         try clear c13
         try clear c13b0
         try clear c14
         try clear c14b0
         try clear c15
         try clear c15b0
         try clear c16
         try clear c16b0
         try clear hx334_0
         try clear hx335_0
         try clear hx335_1
         try clear hx335_2
         try clear hx337_0
         try clear hx338_0
         try clear hx338_1
         try clear hx338_2
         try clear hx339_0
         try clear p2
         try clear p3
         try clear p334
         try clear p335
         try clear p337
         try clear p338
         try clear p339
         try clear q3
         try clear q334
         try clear q335
         try clear q337
         try clear q338
         try clear q339
         obtain ⟨kq,x46_9,rfl,HA,HJ9,HB⟩:=hcut
         cases kq with
         | zero => exact absurd HA.out (by simp [spec_l7Up.j1])
         | succ kj9 =>
          have H:=HA.out
          clear HA
          simp only [spec_l7Up.j1] at H
          by_cases c17 : x46_9 = true
          ·subst c17
           have H1 : (spec_l7Up.l0 kj9 l0 l1 a2 x7_1 (wrap64 (x8_1 + 1))) = some r:=by rw [if_pos rfl] at H;exact H
           clear H
           have H:=H1
           clear H1
           have H':=mk_ H
           clear H
           go_wp2
           repeat (go_quiet (fail);try go_wp2)
           go_roundg kj9
           case measure => have:=HK1.out;have:=HJ9.out;omega
           case rel => exact ⟨(x7_1),(wrap64 (x8_1 + 1)),qf_,qf_,H',⟨by have:=HK1.out;have:=HJ9.out;omega⟩,⟨u1_ HB⟩⟩
          ·replace c17:=Bool.eq_false_iff.mpr c17
           subst c17
           have H1 : (if x7_1 < 0 then (spec_l7Up.l0 kj9 l0 l1 a2 x8_1 (wrap64 (x8_1 + 1))) else (if 0 ≤ x7_1 then (if x7_1 < (l0.length : Int) then ((spec_l7Other.f ((rd_T71 l0 x7_1).f0) ((rd_T71 l0 x7_1).f1) ((rd_T71 l0 x7_1).f2) a2).bind fun t341 => (if t336 < t341 then (spec_l7Up.l0 kj9 l0 l1 a2 x8_1 (wrap64 (x8_1 + 1))) else (spec_l7Up.l0 kj9 l0 l1 a2 x7_1 (wrap64 (x8_1 + 1))))) else (none)) else (none))) = some r:=by rw [if_neg (show ¬ (false = true) by decide)] at H;exact H
           clear H
           have H:=H1
           clear H1
           by_cases c18 : x7_1 < 0
           ·rw [if_pos c18] at H
            have c18b0 : decide (x7_1 < 0) = true:=decide_eq_true c18
            clear c18
            have H':=mk_ H
            clear H
            go_wp2
            repeat (go_quiet (fail);try go_wp2)
            go_roundg kj9
            case measure => have:=HK1.out;have:=HJ9.out;omega
            case rel => exact ⟨(x8_1),(wrap64 (x8_1 + 1)),qf_,qf_,H',⟨by have:=HK1.out;have:=HJ9.out;omega⟩,⟨u1_ HB⟩⟩
           ·rw [if_neg c18] at H
            have c18b0 : decide (x7_1 < 0) = false:=decide_eq_false c18
            clear c18
            by_cases c19 : 0 ≤ x7_1
            ·rw [if_pos c19] at H
             have c19b0 : decide (0 ≤ x7_1) = true:=decide_eq_true c19
             clear c19
             by_cases c20 : x7_1 < (l0.length : Int)
             ·rw [if_pos c20] at H
              have c20b0 : decide (x7_1 < (l0.length : Int)) = true:=decide_eq_true c20
              clear c20
              replace H:=Option.bind_eq_some_iff.mp H
              obtain ⟨t341,A210,H⟩:=H
              replace H : (if t336 < t341 then (spec_l7Up.l0 kj9 l0 l1 a2 x8_1 (wrap64 (x8_1 + 1))) else (spec_l7Up.l0 kj9 l0 l1 a2 x7_1 (wrap64 (x8_1 + 1)))) = some r:=H
              have A21:=mk_ A210
              clear A210
              by_cases c22 : t336 < t341
              ·rw [if_pos c22] at H
               have c22b0 : decide (t336 < t341) = true:=decide_eq_true c22
               clear c22
               have H':=mk_ H
               clear H
               have p340 : 0 ≤ (x7_1 : Int):=od_ qa_
               have q340 : x7_1 < (l0.length : Int):=od_ qa_
               obtain ⟨ad340,e340,hx340_0,hx340_1,hx340_2⟩:=at_T71 HR0.out x7_1 p340 q340
               obtain rfl : ad335 = ad340:=(by injection e340)
               replace hx340_0:=(HB.out.cell (wl_ w _ hx340_0)).trans hx340_0
               replace hx340_1:=(HB.out.cell (wl_ w _ hx340_1)).trans hx340_1
               replace hx340_2:=(HB.out.cell (wl_ w _ hx340_2)).trans hx340_2
               replace p340:=eq_true p340
               replace q340:=eq_true q340
               go_wp2_with (first|(go_at_call 50;(with_reducible refine (spec_l7Other.calls ((rd_T71 l0 x7_1).f0) ((rd_T71 l0 x7_1).f1) ((rd_T71 l0 x7_1).f2) a2 t341 _ A21.out).mono ?_);rintro e w23 ⟨rfl,hb⟩;have n0_:=mk_ (st_ (qb_ HB) hb);clear HB;have HB:=n0_;clear n0_;(try clear hb);(try clear hb2);(try clear hk);(try clear hi)))
               repeat (go_quiet (first|(go_at_call 50;(with_reducible refine (spec_l7Other.calls ((rd_T71 l0 x7_1).f0) ((rd_T71 l0 x7_1).f1) ((rd_T71 l0 x7_1).f2) a2 t341 _ A21.out).mono ?_);rintro e w23 ⟨rfl,hb⟩;have n0_:=mk_ (st_ (qb_ HB) hb);clear HB;have HB:=n0_;clear n0_;(try clear hb);(try clear hb2);(try clear hk);(try clear hi)));try go_wp2_with (first|(go_at_call 50;(with_reducible refine (spec_l7Other.calls ((rd_T71 l0 x7_1).f0) ((rd_T71 l0 x7_1).f1) ((rd_T71 l0 x7_1).f2) a2 t341 _ A21.out).mono ?_);rintro e w23 ⟨rfl,hb⟩;have n0_:=mk_ (st_ (qb_ HB) hb);clear HB;have HB:=n0_;clear n0_;(try clear hb);(try clear hb2);(try clear hk);(try clear hi))))
               go_roundg kj9
               case measure => have:=HK1.out;have:=HJ9.out;omega
               case rel => exact ⟨(x8_1),(wrap64 (x8_1 + 1)),qf_,qf_,H',⟨by have:=HK1.out;have:=HJ9.out;omega⟩,⟨u1_ HB⟩⟩
              ·rw [if_neg c22] at H
               have c22b0 : decide (t336 < t341) = false:=decide_eq_false c22
               clear c22
               have H':=mk_ H
               clear H
               have p340 : 0 ≤ (x7_1 : Int):=od_ qa_
               have q340 : x7_1 < (l0.length : Int):=od_ qa_
               obtain ⟨ad340,e340,hx340_0,hx340_1,hx340_2⟩:=at_T71 HR0.out x7_1 p340 q340
               obtain rfl : ad335 = ad340:=(by injection e340)
               replace hx340_0:=(HB.out.cell (wl_ w _ hx340_0)).trans hx340_0
               replace hx340_1:=(HB.out.cell (wl_ w _ hx340_1)).trans hx340_1
               replace hx340_2:=(HB.out.cell (wl_ w _ hx340_2)).trans hx340_2
               replace p340:=eq_true p340
               replace q340:=eq_true q340
               go_wp2_with (first|(go_at_call 50;(with_reducible refine (spec_l7Other.calls ((rd_T71 l0 x7_1).f0) ((rd_T71 l0 x7_1).f1) ((rd_T71 l0 x7_1).f2) a2 t341 _ A21.out).mono ?_);rintro e w24 ⟨rfl,hb⟩;have n0_:=mk_ (st_ (qb_ HB) hb);clear HB;have HB:=n0_;clear n0_;(try clear hb);(try clear hb2);(try clear hk);(try clear hi)))
               repeat (go_quiet (first|(go_at_call 50;(with_reducible refine (spec_l7Other.calls ((rd_T71 l0 x7_1).f0) ((rd_T71 l0 x7_1).f1) ((rd_T71 l0 x7_1).f2) a2 t341 _ A21.out).mono ?_);rintro e w24 ⟨rfl,hb⟩;have n0_:=mk_ (st_ (qb_ HB) hb);clear HB;have HB:=n0_;clear n0_;(try clear hb);(try clear hb2);(try clear hk);(try clear hi)));try go_wp2_with (first|(go_at_call 50;(with_reducible refine (spec_l7Other.calls ((rd_T71 l0 x7_1).f0) ((rd_T71 l0 x7_1).f1) ((rd_T71 l0 x7_1).f2) a2 t341 _ A21.out).mono ?_);rintro e w24 ⟨rfl,hb⟩;have n0_:=mk_ (st_ (qb_ HB) hb);clear HB;have HB:=n0_;clear n0_;(try clear hb);(try clear hb2);(try clear hk);(try clear hi))))
               go_roundg kj9
               case measure => have:=HK1.out;have:=HJ9.out;omega
               case rel => exact ⟨(x7_1),(wrap64 (x8_1 + 1)),qf_,qf_,H',⟨by have:=HK1.out;have:=HJ9.out;omega⟩,⟨u1_ HB⟩⟩
             ·rw [if_neg c20] at H
              exact absurd H (by simp)
            ·rw [if_neg c19] at H
             exact absurd H (by simp)
       ·rw [if_neg c8] at H
        exact absurd H (by simp)
      ·rw [if_neg c7] at H
       have c7b0 : decide (x8_1 < (l0.length : Int)) = false:=decide_eq_false c7
       clear c7
       obtain rfl:=Option.some.inj H
       go_wp2
       repeat (go_quiet (fail);try go_wp2)
       go_ret
       exact ⟨qe_,u1_ HB⟩
  ·rw [if_neg c5] at H
   exact absurd H (by simp)
 ·rw [if_neg c4] at H
  exact absurd H (by simp)

/-! ### spec_TreeOf: function 21 -/
mutual
def spec_TreeOf.l0 : Nat → Int → List (S71) → List Int → List Int → Int → Option (List Int)
 | 0,_,_,_,_,_ => none
 | k + 1,x0,x1,x5,x6,x7 => if x7 < (x1.length : Int) then (spec_TreeOf.l1 k x0 x1 x5 x6 x7 0) else (some x5)
def spec_TreeOf.l1 : Nat → Int → List (S71) → List Int → List Int → Int → Int → Option (List Int)
 | 0,_,_,_,_,_,_ => none
 | k + 1,x0,x1,x5,x6,x7,x8 => if x8 < x0 then ((spec_l7Up.f k x1 x6 x8).bind fun t349 => (if t349 = x7 then (if x5.length < 17592186044416 then (spec_TreeOf.l1 k x0 x1 (x5 ++ [x7]) x6 x7 (wrap64 (x8 + 1))) else (none)) else (spec_TreeOf.l1 k x0 x1 x5 x6 x7 (wrap64 (x8 + 1))))) else (spec_TreeOf.l0 k x0 x1 x5 x6 (wrap64 (x7 + 1)))
end
def spec_TreeOf.f (k : Nat) (a0 : Int) (l1 : List (S71)) : Option (List Int):=(some (([] : List Int) : List Int)).bind fun y342 => ((spec_CablesValid.f k a0 l1).bind fun t345 => (if t345 = true then ((spec_l7Costs.f k a0 l1).bind fun t346 => (spec_TreeOf.l0 k a0 l1 y342 t346 0)) else (some y342)))
theorem spec_TreeOf.mono_l : ∀ k,(∀ y0 y1 y2 y3 y4,LeO (spec_TreeOf.l0 k y0 y1 y2 y3 y4) (spec_TreeOf.l0 (k + 1) y0 y1 y2 y3 y4)) ∧ (∀ y0 y1 y2 y3 y4 y5,LeO (spec_TreeOf.l1 k y0 y1 y2 y3 y4 y5) (spec_TreeOf.l1 (k + 1) y0 y1 y2 y3 y4 y5))
 | 0 => ⟨fun _ _ _ _ _ r h => by simp [spec_TreeOf.l0] at h,fun _ _ _ _ _ _ r h => by simp [spec_TreeOf.l1] at h⟩
 | k + 1 => by
  obtain ⟨ih0,ih1⟩:=spec_TreeOf.mono_l k
  refine ⟨?_,?_⟩
  ·intro y0 y1 y2 y3 y4
   unfold spec_TreeOf.l0
   repeat' first
   | (with_reducible exact ih0 _ _ _ _ _)
   | (with_reducible exact ih1 _ _ _ _ _ _)
   | (with_reducible exact spec_CablesValid.mono _ _ _)
   | (with_reducible exact spec_l7Costs.mono _ _ _)
   | (with_reducible exact spec_l7Up.mono _ _ _ _)
   | (with_reducible exact LeO.refl _)
   | (with_reducible exact LeO.none _)
   | (with_reducible refine LeO.ite ?_ ?_)
   | (with_reducible refine LeO.bind ?_ (fun _ => ?_))
   | exact ih0 _ _ _ _ _
   | exact ih1 _ _ _ _ _ _
   | exact spec_CablesValid.mono _ _ _
   | exact spec_l7Costs.mono _ _ _
   | exact spec_l7Up.mono _ _ _ _
   | exact LeO.none _
   | refine LeO.ite ?_ ?_
   | refine LeO.bind ?_ (fun _ => ?_)
  ·intro y0 y1 y2 y3 y4 y5
   unfold spec_TreeOf.l1
   repeat' first
   | (with_reducible exact ih0 _ _ _ _ _)
   | (with_reducible exact ih1 _ _ _ _ _ _)
   | (with_reducible exact spec_CablesValid.mono _ _ _)
   | (with_reducible exact spec_l7Costs.mono _ _ _)
   | (with_reducible exact spec_l7Up.mono _ _ _ _)
   | (with_reducible exact LeO.refl _)
   | (with_reducible exact LeO.none _)
   | (with_reducible refine LeO.ite ?_ ?_)
   | (with_reducible refine LeO.bind ?_ (fun _ => ?_))
   | exact ih0 _ _ _ _ _
   | exact ih1 _ _ _ _ _ _
   | exact spec_CablesValid.mono _ _ _
   | exact spec_l7Costs.mono _ _ _
   | exact spec_l7Up.mono _ _ _ _
   | exact LeO.none _
   | refine LeO.ite ?_ ?_
   | refine LeO.bind ?_ (fun _ => ?_)
theorem spec_TreeOf.mono : ∀ a0 a1 k,LeO (spec_TreeOf.f k a0 a1) (spec_TreeOf.f (k + 1) a0 a1):=by
 intro a0 a1 k
 obtain ⟨ih0,ih1⟩:=spec_TreeOf.mono_l k
 unfold spec_TreeOf.f
 repeat' first
   | (with_reducible exact ih0 _ _ _ _ _)
   | (with_reducible exact ih1 _ _ _ _ _ _)
   | (with_reducible exact spec_CablesValid.mono _ _ _)
   | (with_reducible exact spec_l7Costs.mono _ _ _)
   | (with_reducible exact spec_l7Up.mono _ _ _ _)
   | (with_reducible exact LeO.refl _)
   | (with_reducible exact LeO.none _)
   | (with_reducible refine LeO.ite ?_ ?_)
   | (with_reducible refine LeO.bind ?_ (fun _ => ?_))
   | exact ih0 _ _ _ _ _
   | exact ih1 _ _ _ _ _ _
   | exact spec_CablesValid.mono _ _ _
   | exact spec_l7Costs.mono _ _ _
   | exact spec_l7Up.mono _ _ _ _
   | exact LeO.none _
   | refine LeO.ite ?_ ?_
   | refine LeO.bind ?_ (fun _ => ?_)
set_option maxHeartbeats 8000000 in
set_option maxRecDepth 100000 in
theorem spec_TreeOf.calls (k : Nat) (a0 : Int) (A1 : Option Addr) (c1 : Nat) (l1 : List (S71)) (r : List Int) (w : World) (hr1 : Kd.C k71 w A1 l1.length l1) (hc1 : l1.length ≤ c1) (h : spec_TreeOf.f k a0 l1 = some r) :
  Calls Tryd.prog 21 #[.int .i64 a0,.slice A1 l1.length c1] w fun e w' => ∃ v0_ : Value,e = .returned (v0_) ∧ Kd.R (Kd.int .i64) 3 w' w.heap.size (fun _ => True) v0_ r ∧ Below w.heap.size w w':=by
 have HR1:=mk_ hr1
 have HC1:=mk_ hc1
 clear hr1 hc1
 have HB:=mk_ (Below.refl w.heap.size w)
 have H : ((some (([] : List Int) : List Int)).bind fun y342 => ((spec_CablesValid.f k a0 l1).bind fun t345 => (if t345 = true then ((spec_l7Costs.f k a0 l1).bind fun t346 => (spec_TreeOf.l0 k a0 l1 y342 t346 0)) else (some y342)))) = some r:=h
 clear h
 obtain ⟨y342,hy342⟩ : ∃ y_ : List Int,y_ = (([] : List Int)):=⟨_,rfl⟩
 replace H : ((spec_CablesValid.f k a0 l1).bind fun t345 => (if t345 = true then ((spec_l7Costs.f k a0 l1).bind fun t346 => (spec_TreeOf.l0 k a0 l1 y342 t346 0)) else (some y342))) = some r:=by first|(rw [hy342];with_reducible exact H)|(have H2_:=(Option.bind_some _ _).symm.trans H;rw [hy342];with_reducible exact H2_)|(have H2_:=(Option.bind_some _ _).symm.trans H;with_reducible exact H2_)|with_reducible exact H|(rw [hy342];exact H)|exact H
 have Ny342:=mk_ hy342
 clear hy342
 replace H:=Option.bind_eq_some_iff.mp H
 obtain ⟨t345,A30,H⟩:=H
 replace H : (if t345 = true then ((spec_l7Costs.f k a0 l1).bind fun t346 => (spec_TreeOf.l0 k a0 l1 y342 t346 0)) else (some y342)) = some r:=H
 have A3:=mk_ A30
 clear A30
 by_cases c4 : t345 = true
 ·subst c4
  have H1 : ((spec_l7Costs.f k a0 l1).bind fun t346 => (spec_TreeOf.l0 k a0 l1 y342 t346 0)) = some r:=by rw [if_pos rfl] at H;exact H
  clear H
  have H:=H1
  clear H1
  replace H:=Option.bind_eq_some_iff.mp H
  obtain ⟨t346,A50,H⟩:=H
  replace H : (spec_TreeOf.l0 k a0 l1 y342 t346 0) = some r:=H
  have A5:=mk_ A50
  clear A50
  have H':=mk_ H
  clear H
  go_enter Tryd.func21,Tryd.ntmps21
  go_wp2_with (first|((with_reducible refine gate_dst (N:=9) rfl ?_);refine Kd.R_lit (Kd.int .i64) _ 3 ?hg (N:=9) ?hd (xs:=([] : List Int)) (inner:=[]) (ok:=fun _ => True) (okp:=fun _ => True) ?hr ?hp (fun _ hk => hk) trivial (Below.refl _ _) (Nat.le_refl _) (by simp) ?_;(case hd => rfl);(case hg => rfl);(case hr => first|(go_simp;done)|(go_simp;rfl));(case hp => exact (Reps.none _ _));intro v343 w6 ho7 hb hg_ hnew_;clear hg_ hnew_;(first|rw [← Ny342.out] at ho7|(simp only [Int.reduceToNat] at ho7;rw [← Ny342.out] at ho7));have n0_:=mk_ (Kd.R_lower ho7 (bz_ (qb_ HB)));have n1_:=mk_ (st_ (qb_ HB) hb);clear HB;have HO344:=n0_;have HB:=n1_;clear n0_ n1_ hb ho7)|((with_reducible refine gate_callee (f:=31) rfl ?_);refine goesL_ (some 12) rfl rfl Tryd.func31 (by kernel_rfl) rfl #[.int .i64 a0,.slice A1 l1.length c1] rfl qm_ ?_;(with_reducible refine (spec_CablesValid.calls k a0 _ _ l1 true _ ?side1 ?side2 A3.out).mono ?_);(case side1 => exact qn_ HR1 HB);(case side2 => exact HC1.out);rintro e w8 ⟨rfl,hb⟩;refine ⟨_,rfl,?_⟩;have n0_:=mk_ (rb_ (qr_ HO344) hb);have n1_:=mk_ (st_ (qb_ HB) hb);clear HO344 HB;have HO344:=n0_;have HB:=n1_;clear n0_ n1_;(try clear hb);(try clear hb2);(try clear hk);(try clear hi))|((with_reducible refine gate_callee (f:=46) rfl ?_);refine goesL_ (some 17) rfl rfl Tryd.func46 (by kernel_rfl) rfl #[.int .i64 a0,.slice A1 l1.length c1] rfl qm_ ?_;(with_reducible refine (spec_l7Costs.calls k a0 _ _ l1 t346 _ ?side1 ?side2 A5.out).mono ?_);(case side1 => exact qn_ HR1 HB);(case side2 => exact HC1.out);rintro e w9 ⟨v347,rfl,ho0,hb⟩;refine ⟨_,rfl,?_⟩;have n0_:=mk_ (re_ (qr_ HO344) (Kd.R_base ho0) hb);have n1_:=mk_ (Kd.R_lower (Kd.R_new' ho0 (Kd.R_lt (qr_ HO344))) (bz_ (qb_ HB)));have n2_:=mk_ (st_ (qb_ HB) hb);clear HO344 HB;have HO344:=n0_;have HO348:=n1_;have HB:=n2_;clear n0_ n1_ n2_;(try clear hb);(try clear hb2);(try clear hk);(try clear hi);(try clear ho0)))
  go_loopg [5,7] k (fun kq v5 v7 w' => ∃ (x5_1 : List Int) (x7_1 : Int),v7 = .int .i64 x7_1 ∧ Aside0 (spec_TreeOf.l0 kq a0 l1 x5_1 t346 x7_1 = some r) ∧ Aside0 (kq ≤ k) ∧ Aside0 (Kd.R (Kd.int .i64) 3 w' w.heap.size (fun k_ => some k_ ≠ (v347 : Value).ownBlock) v5 x5_1) ∧ Aside0 (Kd.R (Kd.int .i64) 3 w' w.heap.size (fun k_ => some k_ ≠ (v5 : Value).ownBlock) v347 t346) ∧ Aside0 (Below w.heap.size w w'))
  case atStart => exact ⟨(y342),(0),qf_,H',⟨Nat.le_refl _⟩,⟨by (with_reducible repeat (first|apply ra_|apply rn_|apply rd_));exact rm_ HO344.out (λ_ h=>h.2)⟩,⟨by (with_reducible repeat (first|apply ra_|apply rn_|apply rd_));exact rm_ HO348.out (λ_ h=>h.2)⟩,⟨u1_ HB⟩⟩
  case round =>
   clear H'
   try clear c1
   try clear c2
   try clear p2
   try clear c3
   try clear c4
   obtain ⟨x5_1,x7_1,rfl,HA,HK1,HO_5,HO_6,HB⟩:=hrel
   cases gk with
   | zero => exact absurd HA.out (by simp [spec_TreeOf.l0])
   | succ k1 =>
    have H:=HA.out
    clear HA
    simp only [spec_TreeOf.l0] at H
    by_cases c10 : x7_1 < (l1.length : Int)
    ·rw [if_pos c10] at H
     have c10b0 : decide (x7_1 < (l1.length : Int)) = true:=decide_eq_true c10
     clear c10
     have H':=mk_ H
     clear H
     go_wp2
     go_loopg [5,8] k1 (fun kq v5 v8 w' => ∃ (x5_2 : List Int) (x8_2 : Int),v8 = .int .i64 x8_2 ∧ Aside0 (spec_TreeOf.l1 kq a0 l1 x5_2 t346 x7_1 x8_2 = some r) ∧ Aside0 (kq ≤ k1) ∧ Aside0 (Kd.R (Kd.int .i64) 3 w' w.heap.size (fun k_ => some k_ ≠ (v347 : Value).ownBlock) v5 x5_2) ∧ Aside0 (Kd.R (Kd.int .i64) 3 w' w.heap.size (fun k_ => some k_ ≠ (v5 : Value).ownBlock) v347 t346) ∧ Aside0 (Below w.heap.size w w'))
     case atStart => exact ⟨(x5_1),(0),qf_,H',⟨Nat.le_refl _⟩,⟨qr_ HO_5⟩,⟨qr_ HO_6⟩,⟨u1_ HB⟩⟩
     case round =>
      clear H'
      try clear c1
      try clear c2
      try clear p2
      try clear c3
      try clear c4
      try clear c10
      try clear c10b0
      try clear p2
      obtain ⟨x5_2,x8_2,rfl,HA,HK2,HO_5,HO_6,HB⟩:=hrel
      cases gk with
      | zero => exact absurd HA.out (by simp [spec_TreeOf.l1])
      | succ k2 =>
       have H:=HA.out
       clear HA
       simp only [spec_TreeOf.l1] at H
       by_cases c11 : x8_2 < a0
       ·rw [if_pos c11] at H
        have c11b0 : decide (x8_2 < a0) = true:=decide_eq_true c11
        clear c11
        replace H:=Option.bind_eq_some_iff.mp H
        obtain ⟨t349,A120,H⟩:=H
        replace H : (if t349 = x7_1 then (if x5_2.length < 17592186044416 then (spec_TreeOf.l1 k2 a0 l1 (x5_2 ++ [x7_1]) t346 x7_1 (wrap64 (x8_2 + 1))) else (none)) else (spec_TreeOf.l1 k2 a0 l1 x5_2 t346 x7_1 (wrap64 (x8_2 + 1)))) = some r:=H
        have A12:=mk_ A120
        clear A120
        by_cases c13 : t349 = x7_1
        ·rw [if_pos c13] at H
         have c13b0 : (t349 == x7_1) = true:=beq_iff_eq.mpr c13
         have c13b1 : (t349 != x7_1) = false:=bne_eq_false_iff_eq.mpr c13
         clear c13
         by_cases c14 : x5_2.length < 17592186044416
         ·rw [if_pos c14] at H
          have LMc14:=mk_ c14
          clear c14
          obtain ⟨y350,hy350⟩ : ∃ y_ : List Int,y_ = (x5_2 ++ [x7_1]):=⟨_,rfl⟩
          replace H : (spec_TreeOf.l1 k2 a0 l1 y350 t346 x7_1 (wrap64 (x8_2 + 1))) = some r:=by first|(rw [hy350];with_reducible exact H)|(have H2_:=(Option.bind_some _ _).symm.trans H;rw [hy350];with_reducible exact H2_)|(have H2_:=(Option.bind_some _ _).symm.trans H;with_reducible exact H2_)|with_reducible exact H|(rw [hy350];exact H)|exact H
          have Ny350:=mk_ hy350
          clear hy350
          have H':=mk_ H
          clear H
          obtain ⟨Ao15,co15,eo15⟩:=Kd.R_slice HO_6.out
          subst eo15
          go_wp2_with (first|((with_reducible refine gate_callee (f:=47) rfl ?_);refine goesL_ (some 32) rfl rfl Tryd.func47 (by kernel_rfl) rfl #[.slice A1 l1.length c1,.slice Ao15 t346.length co15,.int .i64 x8_2] rfl qm_ ?_;(with_reducible refine (spec_l7Up.calls k2 _ _ l1 _ _ t346 x8_2 t349 _ ?side1 ?side2 ?side3 ?side4 A12.out).mono ?_);(case side1 => exact qn_ HR1 HB);(case side2 => exact HC1.out);(case side3 => repeat (first|exact (rr_ HO_6.out).2.2|(with_reducible refine ca_ ?_ _)|(with_reducible refine cn_ ?_ _)|(with_reducible refine cd_ ?_)));(case side4 => exact (rr_ HO_6.out).2.1);rintro e w16 ⟨rfl,hb⟩;refine ⟨_,rfl,?_⟩;have n0_:=mk_ (rb_ (qr_ HO_5) hb);have n1_:=mk_ (rb_ (qr_ HO_6) hb);have n2_:=mk_ (st_ (qb_ HB) hb);clear HO_5 HO_6 HB;have HO_5:=n0_;have HO_6:=n1_;have HB:=n2_;clear n0_ n1_ n2_;(try clear hb);(try clear hb2);(try clear hk);(try clear hi))|((with_reducible refine gate_builtin (b:=.append) (xs:=#[.tmp 35,.tmp 37]) rfl ?_);at_builtin;refine Kd.R_append (Kd.int .i64) (w0:=w) w.heap.size rfl (.tmp 35) (.tmp 37) 23 3 (.int .i64 0) 8 rfl Tryd.underlying23 info3 rfl (by decide) (by omega) u5 x5_2 x7_1 [.int .i64 x7_1] (fun k_ => some k_ ≠ (.slice Ao15 t346.length co15 : Value).ownBlock) (fun _ => False) rfl rfl ?aP (fun _ hk => hk.elim) ?aF ?aO ?aB ?aS ?aL ?_;(case aP => exact rfl);(case aB => exact (qb_ HB));(case aF => exact (fun k_ hk => Kd.fresh' (Kd.R_lt (qr_ HO_6)) k_ hk));(case aO => exact (qr_ HO_5));(case aS => exact (bz_ (qb_ HB)));(case aL => have:=LMc14.out;omega);intro v351 w17 ho hb hg hat;rw [← Ny350.out] at ho;have n0_:=mk_ (Kd.R_after (ok:=(fun _ => True)) (by (with_reducible repeat (first|apply ra_|apply rn_|apply rd_));exact rm_ HO_6.out (fun _ hk => ⟨trivial,hk⟩)) hg hat);have n1_:=mk_ (hb);have n2_:=mk_ (ho);clear HO_6 HB HO_5;have HO_6:=n0_;have HB:=n1_;have HO352:=n2_;clear n0_ n1_ n2_ ho hb hg hat))
          go_roundg k2
          case measure => have:=HK1.out;have:=HK2.out;omega
          case rel => exact ⟨(y350),(wrap64 (x8_2 + 1)),qf_,H',⟨by have:=HK1.out;have:=HK2.out;omega⟩,⟨qr_ HO352⟩,⟨by (with_reducible repeat (first|apply ra_|apply rn_|apply rd_));exact rm_ HO_6.out (λ_ h=>h.2)⟩,⟨u1_ HB⟩⟩
         ·rw [if_neg c14] at H
          exact absurd H (by simp)
        ·rw [if_neg c13] at H
         have c13b0 : (t349 == x7_1) = false:=beq_eq_false_iff_ne.mpr c13
         have c13b1 : (t349 != x7_1) = true:=bne_iff_ne.mpr c13
         have H':=mk_ H
         clear H
         obtain ⟨Ao18,co18,eo18⟩:=Kd.R_slice HO_6.out
         subst eo18
         go_wp2_with (first|((with_reducible refine gate_callee (f:=47) rfl ?_);refine goesL_ (some 32) rfl rfl Tryd.func47 (by kernel_rfl) rfl #[.slice A1 l1.length c1,.slice Ao18 t346.length co18,.int .i64 x8_2] rfl qm_ ?_;(with_reducible refine (spec_l7Up.calls k2 _ _ l1 _ _ t346 x8_2 t349 _ ?side1 ?side2 ?side3 ?side4 A12.out).mono ?_);(case side1 => exact qn_ HR1 HB);(case side2 => exact HC1.out);(case side3 => repeat (first|exact (rr_ HO_6.out).2.2|(with_reducible refine ca_ ?_ _)|(with_reducible refine cn_ ?_ _)|(with_reducible refine cd_ ?_)));(case side4 => exact (rr_ HO_6.out).2.1);rintro e w19 ⟨rfl,hb⟩;refine ⟨_,rfl,?_⟩;have n0_:=mk_ (rb_ (qr_ HO_5) hb);have n1_:=mk_ (rb_ (qr_ HO_6) hb);have n2_:=mk_ (st_ (qb_ HB) hb);clear HO_5 HO_6 HB;have HO_5:=n0_;have HO_6:=n1_;have HB:=n2_;clear n0_ n1_ n2_;(try clear hb);(try clear hb2);(try clear hk);(try clear hi)))
         go_roundg k2
         case measure => have:=HK1.out;have:=HK2.out;omega
         case rel => exact ⟨(x5_2),(wrap64 (x8_2 + 1)),qf_,H',⟨by have:=HK1.out;have:=HK2.out;omega⟩,⟨qr_ HO_5⟩,⟨qr_ HO_6⟩,⟨u1_ HB⟩⟩
       ·rw [if_neg c11] at H
        have c11b0 : decide (x8_2 < a0) = false:=decide_eq_false c11
        clear c11
        have H':=mk_ H
        clear H
        go_wp2
        go_roundg k2
        case measure => have:=HK1.out;have:=HK2.out;omega
        case rel => exact ⟨(x5_2),(wrap64 (x7_1 + 1)),qf_,H',⟨by have:=HK1.out;have:=HK2.out;omega⟩,⟨qr_ HO_5⟩,⟨qr_ HO_6⟩,⟨u1_ HB⟩⟩
    ·rw [if_neg c10] at H
     have c10b0 : decide (x7_1 < (l1.length : Int)) = false:=decide_eq_false c10
     clear c10
     obtain rfl:=Option.some.inj H
     go_wp2
     go_ret
     exact ⟨_,qe_,by (with_reducible repeat (first|apply ra_|apply rn_|apply rd_));exact rm_ HO_5.out (λ_ _=>trivial),u1_ HB⟩
 ·replace c4:=Bool.eq_false_iff.mpr c4
  subst c4
  have H1 : (some y342) = some r:=by rw [if_neg (show ¬ (false = true) by decide)] at H;exact H
  clear H
  have H:=H1
  clear H1
  obtain rfl:=Option.some.inj H
  go_enter Tryd.func21,Tryd.ntmps21
  go_wp2_with (first|((with_reducible refine gate_dst (N:=9) rfl ?_);refine Kd.R_lit (Kd.int .i64) _ 3 ?hg (N:=9) ?hd (xs:=([] : List Int)) (inner:=[]) (ok:=fun _ => True) (okp:=fun _ => True) ?hr ?hp (fun _ hk => hk) trivial (Below.refl _ _) (Nat.le_refl _) (by simp) ?_;(case hd => rfl);(case hg => rfl);(case hr => first|(go_simp;done)|(go_simp;rfl));(case hp => exact (Reps.none _ _));intro v343 w20 ho21 hb hg_ hnew_;clear hg_ hnew_;(first|rw [← Ny342.out] at ho21|(simp only [Int.reduceToNat] at ho21;rw [← Ny342.out] at ho21));have n0_:=mk_ (Kd.R_lower ho21 (bz_ (qb_ HB)));have n1_:=mk_ (st_ (qb_ HB) hb);clear HB;have HO344:=n0_;have HB:=n1_;clear n0_ n1_ hb ho21)|((with_reducible refine gate_callee (f:=31) rfl ?_);refine goesL_ (some 12) rfl rfl Tryd.func31 (by kernel_rfl) rfl #[.int .i64 a0,.slice A1 l1.length c1] rfl qm_ ?_;(with_reducible refine (spec_CablesValid.calls k a0 _ _ l1 false _ ?side1 ?side2 A3.out).mono ?_);(case side1 => exact qn_ HR1 HB);(case side2 => exact HC1.out);rintro e w22 ⟨rfl,hb⟩;refine ⟨_,rfl,?_⟩;have n0_:=mk_ (rb_ (qr_ HO344) hb);have n1_:=mk_ (st_ (qb_ HB) hb);clear HO344 HB;have HO344:=n0_;have HB:=n1_;clear n0_ n1_;(try clear hb);(try clear hb2);(try clear hk);(try clear hi)))
  go_ret
  exact ⟨_,qe_,qr_ HO344,u1_ HB⟩

end Go.Proofs.YtblcnbnphjnhdaaDoor.PAll
