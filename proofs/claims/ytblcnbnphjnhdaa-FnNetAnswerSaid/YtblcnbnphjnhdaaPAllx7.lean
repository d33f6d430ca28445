/- Proved here: contracts of functions of the given program, or lemmas on them, for the laws of this seat. Written by xprint.py, a program of this session, on the ground of the kit's print; parts by hand: wip/x/ext. -/
import Derived.Test.YtblcnbnphjnhdaaPAllx0
import Derived.Test.YtblcnbnphjnhdaaPAllx1
import Derived.Test.YtblcnbnphjnhdaaPAllx2
import Derived.Test.YtblcnbnphjnhdaaPAllx3
import Derived.Test.YtblcnbnphjnhdaaPAllx4
import Derived.Test.YtblcnbnphjnhdaaPAllx5
import Derived.Test.YtblcnbnphjnhdaaPAllx6
namespace Go.Proofs.Ytblcnbnphjnhdaa.PAll
open Go.RowKit Go.Proofs.YtblcnbnphjnhdaaW.PrintWords Go.Proofs.YtblcnbnphjnhdaaW.PrintLast Go.Proofs.YtblcnbnphjnhdaaW.PrintMore
attribute [local go_sem] max2_int min2_int max_two min_two max_three min_three max_four min_four   -- for this text's walks alone
set_option linter.unusedVariables false
set_option linter.unusedSimpArgs false
/-! ### impl_RunNet: function 9 (by hand) -/
def impl_RunNet.f (a0_0 : Int) (l0_1 : List (S83)) (l0_2 : List Int) (l0_3 : List Int) (l1 : List (S37)) : Option ((List (List Int)) × (List (List Int)) × Bool) :=
 if runB a0_0 l0_1 l0_2 l0_3 l1 = true then (framesN l0_1 (treeX a0_0 l0_1) l0_2 l0_3 l1 (fun _ _ _ => none) 0).map (fun p => (p.1,p.2,true)) else some ([],[],false)
set_option maxHeartbeats 4000000 in
set_option maxRecDepth 100000 in
theorem impl_RunNet.calls (a0_0 : Int) (A0_1 : Option Addr) (c0_1 : Nat) (l0_1 : List (S83)) (A0_2 : Option Addr) (c0_2 : Nat) (l0_2 : List Int) (A0_3 : Option Addr) (c0_3 : Nat) (l0_3 : List Int) (A1 : Option Addr) (c1 : Nat) (l1 : List (S37)) (r1 : List (List Int)) (r2 : List (List Int)) (r3 : Bool) (w : World) (hr0_1 : Kd.C k83 w A0_1 l0_1.length l0_1) (hc0_1 : l0_1.length ≤ c0_1) (hr0_2 : Kd.C (Kd.int .i64) w A0_2 l0_2.length l0_2) (hc0_2 : l0_2.length ≤ c0_2) (hr0_3 : Kd.C (Kd.int .i64) w A0_3 l0_3.length l0_3) (hc0_3 : l0_3.length ≤ c0_3) (hr1 : Kd.C k37 w A1 l1.length l1) (hc1 : l1.length ≤ c1) (h : impl_RunNet.f a0_0 l0_1 l0_2 l0_3 l1 = some (r1,r2,r3)) :
  Calls Try.prog 9 #[.agg #[.int .i64 a0_0,.slice A0_1 l0_1.length c0_1,.slice A0_2 l0_2.length c0_2,.slice A0_3 l0_3.length c0_3],.slice A1 l1.length c1] w fun e w' => ∃ v0_ v1_ : Value,e = .returned (.tuple #[.agg #[v0_,v1_],.bool r3]) ∧ Kd.S (Kd.slice 3 (Kd.int .i64)) 24 w' w.heap.size (fun k_ => some k_ ≠ (v1_ : Value).ownBlock) v0_ r1 ∧ Kd.S (Kd.slice 3 (Kd.int .i64)) 24 w' w.heap.size (fun k_ => some k_ ≠ (v0_ : Value).ownBlock) v1_ r2 ∧ Below w.heap.size w w':=by
 unfold impl_RunNet.f at h
 cases hok : runB a0_0 l0_1 l0_2 l0_3 l1 with
 | false =>
  rw [hok,if_neg (by decide)] at h
  obtain ⟨rfl,rfl,rfl⟩ : [] = r1 ∧ [] = r2 ∧ false = r3:=by
   have:=Option.some.inj h
   exact ⟨congrArg (·.1) this,congrArg (·.2.1) this,congrArg (·.2.2) this⟩
  refine (x_RunNet_no a0_0 A0_1 c0_1 l0_1 A0_2 c0_2 l0_2 A0_3 c0_3 l0_3 A1 c1 l1 w hok hr0_1 hc0_1 hr0_2 hc0_2 hr0_3 hc0_3 hr1 hc1).mono ?_
  rintro e w1 ⟨rfl,hb⟩
  exact ⟨_,_,rfl,Kd.S_nil _ _ _ _ _,Kd.S_nil _ _ _ _ _,hb⟩
 | true =>
  rw [hok,if_pos rfl] at h
  obtain ⟨fin,hfin,hf⟩:=Option.map_eq_some_iff.mp h
  obtain ⟨rfl,rfl,rfl⟩ : fin.1 = r1 ∧ fin.2 = r2 ∧ true = r3:=⟨congrArg (·.1) hf,congrArg (·.2.1) hf,congrArg (·.2.2) hf⟩
  refine (x_RunNet a0_0 A0_1 c0_1 l0_1 A0_2 c0_2 l0_2 A0_3 c0_3 l0_3 A1 c1 l1 w hok fin hfin hr0_1 hc0_1 hr0_2 hc0_2 hr0_3 hc0_3 hr1 hc1).mono ?_
  rintro e w1 ⟨v1,v2,P,Q,rfl,hd,h1,h2,hb⟩
  refine ⟨v1,v2,rfl,Kd.S_mono h1 ?_,Kd.S_mono h2 ?_,hb⟩
  ·obtain ⟨f,h2⟩:=h2
   exact fun k hk he => hd k hk (h2.1 k he.symm)
  ·obtain ⟨f,h1⟩:=h1
   exact fun k hk he => hd k (h1.1 k he.symm) hk
/-! ### spec_l19List: function 42 -/
def spec_l19List.l0 : Nat → List Bool → List Int → Int → Option (List Int)
 | 0,_,_,_ => none
 | k + 1,x0,x3,x4 => if x4 < (x0.length : Int) then (if 0 ≤ x4 then (if rdOf false x0 x4 = true then (if x3.length < 17592186044416 then (spec_l19List.l0 k x0 (x3 ++ [x4]) (wrap64 (x4 + 1))) else (none)) else (spec_l19List.l0 k x0 x3 (wrap64 (x4 + 1)))) else (none)) else (some x3)
def spec_l19List.f (k : Nat) (l0 : List Bool) : Option (List Int):=spec_l19List.l0 k l0 (([] : List Int)) 0
theorem spec_l19List.mono_l : ∀ k,(∀ y0 y1 y2,LeO (spec_l19List.l0 k y0 y1 y2) (spec_l19List.l0 (k + 1) y0 y1 y2))
 | 0 => fun _ _ _ r h => by simp [spec_l19List.l0] at h
 | k + 1 => by
  have ih0:=spec_l19List.mono_l k
  ·intro y0 y1 y2
   unfold spec_l19List.l0
   repeat' first
   | (with_reducible exact ih0 _ _ _)
   | (with_reducible exact LeO.refl _)
   | (with_reducible exact LeO.none _)
   | (with_reducible refine LeO.ite ?_ ?_)
   | (with_reducible refine LeO.bind ?_ (fun _ => ?_))
   | exact ih0 _ _ _
   | exact LeO.none _
   | refine LeO.ite ?_ ?_
   | refine LeO.bind ?_ (fun _ => ?_)
theorem spec_l19List.mono : ∀ a0 k,LeO (spec_l19List.f k a0) (spec_l19List.f (k + 1) a0):=by
 intro a0 k
 have ih0:=spec_l19List.mono_l k
 unfold spec_l19List.f
 repeat' first
   | (with_reducible exact ih0 _ _ _)
   | (with_reducible exact LeO.refl _)
   | (with_reducible exact LeO.none _)
   | (with_reducible refine LeO.ite ?_ ?_)
   | (with_reducible refine LeO.bind ?_ (fun _ => ?_))
   | exact ih0 _ _ _
   | exact LeO.none _
   | refine LeO.ite ?_ ?_
   | refine LeO.bind ?_ (fun _ => ?_)
set_option maxHeartbeats 8000000 in
set_option maxRecDepth 100000 in
theorem spec_l19List.calls (k : Nat) (A0 : Option Addr) (c0 : Nat) (l0 : List Bool) (r : List Int) (w : World) (hr0 : Kd.C Kd.bool w A0 l0.length l0) (hc0 : l0.length ≤ c0) (h : spec_l19List.f k l0 = some r) :
  Calls Try.prog 42 #[.slice A0 l0.length c0] w fun e w' => ∃ v0_ : Value,e = .returned (v0_) ∧ Kd.R (Kd.int .i64) 3 w' w.heap.size (fun _ => True) v0_ r ∧ Below w.heap.size w w':=by
 have HR0:=mk_ hr0
 have HC0:=mk_ hc0
 clear hr0 hc0
 have HB:=mk_ (Below.refl w.heap.size w)
 have H : (spec_l19List.l0 k l0 (([] : List Int)) 0) = some r:=h
 clear h
 obtain ⟨y492,hy492⟩ : ∃ y_ : List Int,y_ = (([] : List Int)):=⟨_,rfl⟩
 replace H : (spec_l19List.l0 k l0 y492 0) = some r:=by first|(rw [hy492];with_reducible exact H)|(have H2_:=(Option.bind_some _ _).symm.trans H;rw [hy492];with_reducible exact H2_)|(have H2_:=(Option.bind_some _ _).symm.trans H;with_reducible exact H2_)|with_reducible exact H|(rw [hy492];exact H)|exact H
 have Ny492:=mk_ hy492
 clear hy492
 have H':=mk_ H
 clear H
 go_enter Try.func42,Try.ntmps42
 go_wp2_with (first|((with_reducible refine gate_dst (N:=5) rfl ?_);refine Kd.R_lit (Kd.int .i64) _ 3 ?hg (N:=5) ?hd (xs:=([] : List Int)) (inner:=[]) (ok:=fun _ => True) (okp:=fun _ => True) ?hr ?hp (fun _ hk => hk) trivial (Below.refl _ _) (Nat.le_refl _) (by simp) ?_;(case hd => rfl);(case hg => rfl);(case hr => first|(go_simp;done)|(go_simp;rfl));(case hp => exact (Reps.none _ _));intro v493 w2 ho3 hb hg_ hnew_;clear hg_ hnew_;(first|rw [← Ny492.out] at ho3|(simp only [Int.reduceToNat] at ho3;rw [← Ny492.out] at ho3));have n0_:=mk_ (Kd.R_lower ho3 (bz_ (qb_ HB)));have n1_:=mk_ (st_ (qb_ HB) hb);clear HB;have HO494:=n0_;have HB:=n1_;clear n0_ n1_ hb ho3))
 go_loopg [3,4] k (fun kq v3 v4 w' => ∃ (x3_1 : List Int) (x4_1 : Int),v4 = .int .i64 x4_1 ∧ Aside0 (spec_l19List.l0 kq l0 x3_1 x4_1 = some r) ∧ Aside0 (kq ≤ k) ∧ Aside0 (Kd.R (Kd.int .i64) 3 w' w.heap.size (fun _ => True) v3 x3_1) ∧ Aside0 (Below w.heap.size w w'))
 case atStart => exact ⟨(y492),(0),qf_,H',⟨Nat.le_refl _⟩,⟨qr_ HO494⟩,⟨u1_ HB⟩⟩
 case round =>
  clear H'
  try clear p2
  obtain ⟨x3_1,x4_1,rfl,HA,HK1,HO_3,HB⟩:=hrel
  cases gk with
  | zero => exact absurd HA.out (by simp [spec_l19List.l0])
  | succ k1 =>
   have H:=HA.out
   clear HA
   simp only [spec_l19List.l0] at H
   by_cases c4 : x4_1 < (l0.length : Int)
   ·rw [if_pos c4] at H
    have c4b0 : decide (x4_1 < (l0.length : Int)) = true:=decide_eq_true c4
    clear c4
    by_cases c5 : 0 ≤ x4_1
    ·rw [if_pos c5] at H
     have c5b0 : decide (0 ≤ x4_1) = true:=decide_eq_true c5
     clear c5
     obtain ⟨bq6,hbq6⟩ : ∃ b_ : Bool,b_ = (rdOf false l0 x4_1):=⟨_,rfl⟩
     replace H : (if bq6 = true then (if x3_1.length < 17592186044416 then (spec_l19List.l0 k1 l0 (x3_1 ++ [x4_1]) (wrap64 (x4_1 + 1))) else (none)) else (spec_l19List.l0 k1 l0 x3_1 (wrap64 (x4_1 + 1)))) = some r:=by rw [← hbq6] at H;exact H
     have Nbq6:=mk_ hbq6
     clear hbq6
     by_cases c7 : bq6 = true
     ·subst c7
      have H1 : (if x3_1.length < 17592186044416 then (spec_l19List.l0 k1 l0 (x3_1 ++ [x4_1]) (wrap64 (x4_1 + 1))) else (none)) = some r:=by rw [if_pos rfl] at H;exact H
      clear H
      have H:=H1
      clear H1
      by_cases c8 : x3_1.length < 17592186044416
      ·rw [if_pos c8] at H
       have LMc8:=mk_ c8
       clear c8
       obtain ⟨y496,hy496⟩ : ∃ y_ : List Int,y_ = (x3_1 ++ [x4_1]):=⟨_,rfl⟩
       replace H : (spec_l19List.l0 k1 l0 y496 (wrap64 (x4_1 + 1))) = some r:=by first|(rw [hy496];with_reducible exact H)|(have H2_:=(Option.bind_some _ _).symm.trans H;rw [hy496];with_reducible exact H2_)|(have H2_:=(Option.bind_some _ _).symm.trans H;with_reducible exact H2_)|with_reducible exact H|(rw [hy496];exact H)|exact H
       have Ny496:=mk_ hy496
       clear hy496
       have H':=mk_ H
       clear H
       have p495 : 0 ≤ (x4_1 : Int):=od_ qa_
       have q495 : x4_1 < (l0.length : Int):=od_ qa_
       obtain ⟨ad495,e495,hx495_0⟩:=Kd.at_bool HR0.out x4_1 p495 q495
       (try rw [← Nbq6.out] at hx495_0)
       cases e495
       replace hx495_0:=(HB.out.cell (wl_ w _ hx495_0)).trans hx495_0
       replace p495:=eq_true p495
       replace q495:=eq_true q495
       go_wp2_with (first|((with_reducible refine gate_builtin (b:=.append) (xs:=#[.tmp 16,.tmp 18]) rfl ?_);at_builtin;refine Kd.R_append (Kd.int .i64) (w0:=w) w.heap.size rfl (.tmp 16) (.tmp 18) 24 3 (.int .i64 0) 8 rfl Try.underlying24 info3 rfl (by decide) (by omega) u3 x3_1 x4_1 [.int .i64 x4_1] (fun _ => True) (fun _ => False) rfl rfl ?aP (fun _ hk => hk.elim) ?aF ?aO ?aB ?aS ?aL ?_;(case aP => exact rfl);(case aB => exact (qb_ HB));(case aF => exact (fun _ _ => trivial));(case aO => exact (qr_ HO_3));(case aS => exact (bz_ (qb_ HB)));(case aL => have:=LMc8.out;omega);intro v497 w9 ho hb hg hat;rw [← Ny496.out] at ho;have n0_:=mk_ (hb);have n1_:=mk_ (ho);clear HB HO_3;have HB:=n0_;have HO498:=n1_;clear n0_ n1_ ho hb hg hat))
       go_roundg k1
       case measure => have:=HK1.out;omega
       case rel => exact ⟨(y496),(wrap64 (x4_1 + 1)),qf_,H',⟨by have:=HK1.out;omega⟩,⟨qr_ HO498⟩,⟨u1_ HB⟩⟩
      ·rw [if_neg c8] at H
       exact absurd H (by simp)
     ·replace c7:=Bool.eq_false_iff.mpr c7
      subst c7
      have H1 : (spec_l19List.l0 k1 l0 x3_1 (wrap64 (x4_1 + 1))) = some r:=by rw [if_neg (show ¬ (false = true) by decide)] at H;exact H
      clear H
      have H:=H1
      clear H1
      have H':=mk_ H
      clear H
      have p495 : 0 ≤ (x4_1 : Int):=od_ qa_
      have q495 : x4_1 < (l0.length : Int):=od_ qa_
      obtain ⟨ad495,e495,hx495_0⟩:=Kd.at_bool HR0.out x4_1 p495 q495
      (try rw [← Nbq6.out] at hx495_0)
      cases e495
      replace hx495_0:=(HB.out.cell (wl_ w _ hx495_0)).trans hx495_0
      replace p495:=eq_true p495
      replace q495:=eq_true q495
      go_wp2
      go_roundg k1
      case measure => have:=HK1.out;omega
      case rel => exact ⟨(x3_1),(wrap64 (x4_1 + 1)),qf_,H',⟨by have:=HK1.out;omega⟩,⟨qr_ HO_3⟩,⟨u1_ HB⟩⟩
    ·rw [if_neg c5] at H
     exact absurd H (by simp)
   ·rw [if_neg c4] at H
    have c4b0 : decide (x4_1 < (l0.length : Int)) = false:=decide_eq_false c4
    clear c4
    obtain rfl:=Option.some.inj H
    go_wp2
    go_ret
    exact ⟨_,qe_,qr_ HO_3,u1_ HB⟩
/-! ### impl_Net_ups: function 44 -/
def impl_Net_ups.l0 : Nat → Int → List Int → List Int → Int → List (S83) → List Int → List Int → Option (List Int)
 | 0,_,_,_,_,_,_,_ => none
 | k + 1,x1,x5,x6,z0_,z1_,z2_,z3_ => (impl_upOf.f k z1_ x5 x1).bind fun bt503 => (if bt503.1 < 0 then (some x6) else (if x6.length < 17592186044416 then (impl_Net_ups.l0 k bt503.2 x5 (x6 ++ [bt503.1]) z0_ z1_ z2_ z3_) else (none)))
def impl_Net_ups.f (k : Nat) (a0_0 : Int) (l0_1 : List (S83)) (l0_2 : List Int) (l0_3 : List Int) (a1 : Int) : Option (List Int):=(impl_costsOf.f k a0_0 l0_1).bind fun t500 => (impl_Net_ups.l0 k a1 t500 ([] : List Int) a0_0 l0_1 l0_2 l0_3)
theorem impl_Net_ups.mono_l : ∀ k,(∀ y0 y1 y2 y3 y4 y5 y6,LeO (impl_Net_ups.l0 k y0 y1 y2 y3 y4 y5 y6) (impl_Net_ups.l0 (k + 1) y0 y1 y2 y3 y4 y5 y6))
 | 0 => fun _ _ _ _ _ _ _ r h => by simp [impl_Net_ups.l0] at h
 | k + 1 => by
  have ih0:=impl_Net_ups.mono_l k
  ·intro y0 y1 y2 y3 y4 y5 y6
   unfold impl_Net_ups.l0
   repeat' first
   | (with_reducible exact ih0 _ _ _ _ _ _ _)
   | (with_reducible exact impl_costsOf.mono _ _ _)
   | (with_reducible exact impl_upOf.mono _ _ _ _)
   | (with_reducible exact LeO.refl _)
   | (with_reducible exact LeO.none _)
   | (with_reducible refine LeO.ite ?_ ?_)
   | (with_reducible refine LeO.bind ?_ (fun _ => ?_))
   | exact ih0 _ _ _ _ _ _ _
   | exact impl_costsOf.mono _ _ _
   | exact impl_upOf.mono _ _ _ _
   | exact LeO.none _
   | refine LeO.ite ?_ ?_
   | refine LeO.bind ?_ (fun _ => ?_)
theorem impl_Net_ups.mono : ∀ a0 a1 a2 a3 a4 k,LeO (impl_Net_ups.f k a0 a1 a2 a3 a4) (impl_Net_ups.f (k + 1) a0 a1 a2 a3 a4):=by
 intro a0 a1 a2 a3 a4 k
 have ih0:=impl_Net_ups.mono_l k
 unfold impl_Net_ups.f
 repeat' first
   | (with_reducible exact ih0 _ _ _ _ _ _ _)
   | (with_reducible exact impl_costsOf.mono _ _ _)
   | (with_reducible exact impl_upOf.mono _ _ _ _)
   | (with_reducible exact LeO.refl _)
   | (with_reducible exact LeO.none _)
   | (with_reducible refine LeO.ite ?_ ?_)
   | (with_reducible refine LeO.bind ?_ (fun _ => ?_))
   | exact ih0 _ _ _ _ _ _ _
   | exact impl_costsOf.mono _ _ _
   | exact impl_upOf.mono _ _ _ _
   | exact LeO.none _
   | refine LeO.ite ?_ ?_
   | refine LeO.bind ?_ (fun _ => ?_)
set_option maxHeartbeats 8000000 in
set_option maxRecDepth 100000 in
theorem impl_Net_ups.calls (k : Nat) (a0_0 : Int) (A0_1 : Option Addr) (c0_1 : Nat) (l0_1 : List (S83)) (A0_2 : Option Addr) (c0_2 : Nat) (l0_2 : List Int) (A0_3 : Option Addr) (c0_3 : Nat) (l0_3 : List Int) (a1 : Int) (r : List Int) (w : World) (hr0_1 : Kd.C k83 w A0_1 l0_1.length l0_1) (hc0_1 : l0_1.length ≤ c0_1) (hr0_2 : Kd.C (Kd.int .i64) w A0_2 l0_2.length l0_2) (hc0_2 : l0_2.length ≤ c0_2) (hr0_3 : Kd.C (Kd.int .i64) w A0_3 l0_3.length l0_3) (hc0_3 : l0_3.length ≤ c0_3) (h : impl_Net_ups.f k a0_0 l0_1 l0_2 l0_3 a1 = some r) :
  Calls Try.prog 44 #[.agg #[.int .i64 a0_0,.slice A0_1 l0_1.length c0_1,.slice A0_2 l0_2.length c0_2,.slice A0_3 l0_3.length c0_3],.int .i64 a1] w fun e w' => ∃ v0_ : Value,e = .returned (v0_) ∧ Kd.R (Kd.int .i64) 3 w' w.heap.size (fun _ => True) v0_ r ∧ Below w.heap.size w w':=by
 have hu26:=Try.underlying26
 have HR0_1:=mk_ hr0_1
 have HC0_1:=mk_ hc0_1
 clear hr0_1 hc0_1
 have HR0_2:=mk_ hr0_2
 have HC0_2:=mk_ hc0_2
 clear hr0_2 hc0_2
 have HR0_3:=mk_ hr0_3
 have HC0_3:=mk_ hc0_3
 clear hr0_3 hc0_3
 have HB:=mk_ (Below.refl w.heap.size w)
 have H : ((impl_costsOf.f k a0_0 l0_1).bind fun t500 => (impl_Net_ups.l0 k a1 t500 ([] : List Int) a0_0 l0_1 l0_2 l0_3)) = some r:=h
 clear h
 replace H:=Option.bind_eq_some_iff.mp H
 obtain ⟨t500,A30,H⟩:=H
 replace H : (impl_Net_ups.l0 k a1 t500 ([] : List Int) a0_0 l0_1 l0_2 l0_3) = some r:=H
 have A3:=mk_ A30
 clear A30
 have H':=mk_ H
 clear H
 go_enter Try.func44,Try.ntmps44
 go_wp2_with (first|((with_reducible refine gate_dst (N:=2) rfl ?_);refine box_event ?hg (N:=2) ?hd (cs:=#[.int .i64 a0_0,.slice A0_1 l0_1.length c0_1,.slice A0_2 l0_2.length c0_2,.slice A0_3 l0_3.length c0_3]) (t:=26) ?hr ?_;(case hd => rfl);(case hg => rfl);(case hr => first|(go_simp;done)|(go_simp;rfl));intro gb499 hg w4 hbox hb;have n0_:=mk_ (st_ (qb_ HB) hb);have n1_:=mk_ (hbox);have n2_:=mk_ ((by rw [hg];exact (bz_ (qb_ HB)) : w.heap.size ≤ gb499));have n3_:=mk_ ((by rw [hg];exact (bz_ (qb_ HB)) : w.heap.size ≤ gb499));clear HB;have HB:=n0_;have BK499:=n1_;have GW499:=n2_;have GE499:=n3_;clear n0_ n1_ n2_ n3_ hb hbox hg;have hcz5_0 : w4.cell? ⟨gb499,0,none⟩ = some (.int .i64 a0_0):=(bc_ BK499.out 0).trans rfl;have hcz5_1 : w4.cell? ⟨gb499,1,none⟩ = some (.slice A0_1 l0_1.length c0_1):=(bc_ BK499.out 1).trans rfl;have hcz5_2 : w4.cell? ⟨gb499,2,none⟩ = some (.slice A0_2 l0_2.length c0_2):=(bc_ BK499.out 2).trans rfl;have hcz5_3 : w4.cell? ⟨gb499,3,none⟩ = some (.slice A0_3 l0_3.length c0_3):=(bc_ BK499.out 3).trans rfl;have hfz5_0:=bf_ BK499.out 0;have hfz5_1:=bf_ BK499.out 1;have hfz5_2:=bf_ BK499.out 2;have hfz5_3:=bf_ BK499.out 3)|((with_reducible refine gate_callee (f:=70) rfl ?_);refine goesL_ (some 13) rfl rfl Try.func70 (by kernel_rfl) rfl #[.int .i64 a0_0,.slice A0_1 l0_1.length c0_1] rfl qm_ ?_;(with_reducible refine (impl_costsOf.calls k a0_0 _ _ l0_1 t500 _ ?side1 ?side2 A3.out).mono ?_);(case side1 => exact qn_ HR0_1 HB);(case side2 => exact HC0_1.out);rintro e w6 ⟨v501,rfl,ho0,hb⟩;refine ⟨_,rfl,?_⟩;have n0_:=mk_ (Kd.R_lower ho0 (bz_ (qc_ HB GE499)));have n1_:=mk_ (blk_below (g:=gb499) (o:=.cells #[.int .i64 a0_0,.slice A0_1 l0_1.length c0_1,.slice A0_2 l0_2.length c0_2,.slice A0_3 l0_3.length c0_3] 26 (0,0)) (qk_ BK499) hb);have n2_:=mk_ (st_ (qc_ HB GE499) hb);clear BK499 HB;have HO502:=n0_;have BK499:=n1_;have HB:=n2_;clear n0_ n1_ n2_;(try clear hb);(try clear hb2);(try clear hk);(try clear hi);(try clear ho0)))
 go_loopg [1,6] k (fun kq v1 v6 w' => ∃ (x1_1 : Int) (x6_1 : List Int),v1 = .int .i64 x1_1 ∧ Aside0 (impl_Net_ups.l0 kq x1_1 t500 x6_1 a0_0 l0_1 l0_2 l0_3 = some r) ∧ Aside0 (kq ≤ k) ∧ Aside0 (Kd.R (Kd.int .i64) 3 w' w.heap.size (fun k_ => some k_ ≠ (v6 : Value).ownBlock) v501 t500) ∧ Aside0 (Kd.R (Kd.int .i64) 3 w' w.heap.size (fun k_ => some k_ ≠ (v501 : Value).ownBlock) v6 x6_1) ∧ Aside0 (w'.heap[gb499]? = some (.cells #[.int .i64 a0_0,(.slice A0_1 l0_1.length c0_1),(.slice A0_2 l0_2.length c0_2),(.slice A0_3 l0_3.length c0_3)] 26 (0,0))) ∧ Aside0 (Below w.heap.size w w'))
 case atStart => exact ⟨(a1),(([] : List Int)),qf_,H',⟨Nat.le_refl _⟩,⟨by (with_reducible repeat (first|apply ra_|apply rn_|apply rd_));exact rm_ HO502.out (fun _ hk => (by simp [Value.ownBlock]))⟩,⟨by first|exact Kd.R_nil _ _ _ _ _|exact Kd.N_nil _ _ _ _ _|exact Kd.V_nil _ _ _ _ _|exact Kd.Q_nil _ _ _ _ _|exact Kd.S_nil _ _ _ _ _⟩,⟨qk_ BK499⟩,⟨u0_ HB GE499⟩⟩
 case round =>
  clear H'
  try clear p2
  try clear c4
  try clear hcz5_0
  try clear hcz5_1
  try clear hcz5_2
  try clear hcz5_3
  try clear hfz5_0
  try clear hfz5_1
  try clear hfz5_2
  try clear hfz5_3
  obtain ⟨x1_1,x6_1,rfl,HA,HK1,HO_5,HO_6,BK499,HB⟩:=hrel
  cases gk with
  | zero => exact absurd HA.out (by simp [impl_Net_ups.l0])
  | succ k1 =>
   have H:=HA.out
   clear HA
   simp only [impl_Net_ups.l0] at H
   replace H:=Option.bind_eq_some_iff.mp H
   obtain ⟨⟨t503,t504⟩,A70,H⟩:=H
   replace H : (if t503 < 0 then (some x6_1) else (if x6_1.length < 17592186044416 then (impl_Net_ups.l0 k1 t504 t500 (x6_1 ++ [t503]) a0_0 l0_1 l0_2 l0_3) else (none))) = some r:=H
   have A7:=mk_ A70
   clear A70
   by_cases c8 : t503 < 0
   ·rw [if_pos c8] at H
    have c8b0 : decide (t503 < 0) = true:=decide_eq_true c8
    clear c8
    obtain rfl:=Option.some.inj H
    have hcz9_0 : wr.cell? ⟨gb499,0,none⟩ = some (.int .i64 a0_0):=(bc_ BK499.out 0).trans rfl
    have hcz9_1 : wr.cell? ⟨gb499,1,none⟩ = some (.slice A0_1 l0_1.length c0_1):=(bc_ BK499.out 1).trans rfl
    have hcz9_2 : wr.cell? ⟨gb499,2,none⟩ = some (.slice A0_2 l0_2.length c0_2):=(bc_ BK499.out 2).trans rfl
    have hcz9_3 : wr.cell? ⟨gb499,3,none⟩ = some (.slice A0_3 l0_3.length c0_3):=(bc_ BK499.out 3).trans rfl
    have hfz9_0:=bf_ BK499.out 0
    have hfz9_1:=bf_ BK499.out 1
    have hfz9_2:=bf_ BK499.out 2
    have hfz9_3:=bf_ BK499.out 3
    obtain ⟨Ao10,co10,eo10⟩:=Kd.R_slice HO_5.out
    subst eo10
    go_wp2_with (first|((with_reducible refine gate_callee (f:=71) rfl ?_);refine goesL_ (some 19) rfl rfl Try.func71 (by kernel_rfl) rfl #[.slice A0_1 l0_1.length c0_1,.slice Ao10 t500.length co10,.int .i64 x1_1] rfl qm_ ?_;(with_reducible refine (impl_upOf.calls k1 _ _ l0_1 _ _ t500 x1_1 t503 t504 _ ?side1 ?side2 ?side3 ?side4 A7.out).mono ?_);(case side1 => exact qn_ HR0_1 HB);(case side2 => exact HC0_1.out);(case side3 => repeat (first|exact (rr_ HO_5.out).2.2|(with_reducible refine ca_ ?_ _)|(with_reducible refine cn_ ?_ _)|(with_reducible refine cd_ ?_)));(case side4 => exact (rr_ HO_5.out).2.1);rintro e w11 ⟨rfl,hb⟩;refine ⟨_,rfl,?_⟩;have n0_:=mk_ (rb_ (qr_ HO_5) hb);have n1_:=mk_ (rb_ (qr_ HO_6) hb);have n2_:=mk_ (blk_below (g:=gb499) (o:=.cells #[.int .i64 a0_0,.slice A0_1 l0_1.length c0_1,.slice A0_2 l0_2.length c0_2,.slice A0_3 l0_3.length c0_3] 26 (0,0)) (qk_ BK499) hb);have n3_:=mk_ (st_ (qc_ HB GE499) hb);clear HO_5 HO_6 BK499 HB;have HO_5:=n0_;have HO_6:=n1_;have BK499:=n2_;have HB:=n3_;clear n0_ n1_ n2_ n3_;(try clear hb);(try clear hb2);(try clear hk);(try clear hi)))
    go_ret
    exact ⟨_,qe_,by (with_reducible repeat (first|apply ra_|apply rn_|apply rd_));exact rm_ HO_6.out (λ_ _=>trivial),u0_ HB GE499⟩
   ·rw [if_neg c8] at H
    have c8b0 : decide (t503 < 0) = false:=decide_eq_false c8
    clear c8
    by_cases c12 : x6_1.length < 17592186044416
    ·rw [if_pos c12] at H
     have LMc12:=mk_ c12
     clear c12
     obtain ⟨y505,hy505⟩ : ∃ y_ : List Int,y_ = (x6_1 ++ [t503]):=⟨_,rfl⟩
     replace H : (impl_Net_ups.l0 k1 t504 t500 y505 a0_0 l0_1 l0_2 l0_3) = some r:=by first|(rw [hy505];with_reducible exact H)|(have H2_:=(Option.bind_some _ _).symm.trans H;rw [hy505];with_reducible exact H2_)|(have H2_:=(Option.bind_some _ _).symm.trans H;with_reducible exact H2_)|with_reducible exact H|(rw [hy505];exact H)|exact H
     have Ny505:=mk_ hy505
     clear hy505
     have H':=mk_ H
     clear H
     have hcz13_0 : wr.cell? ⟨gb499,0,none⟩ = some (.int .i64 a0_0):=(bc_ BK499.out 0).trans rfl
     have hcz13_1 : wr.cell? ⟨gb499,1,none⟩ = some (.slice A0_1 l0_1.length c0_1):=(bc_ BK499.out 1).trans rfl
     have hcz13_2 : wr.cell? ⟨gb499,2,none⟩ = some (.slice A0_2 l0_2.length c0_2):=(bc_ BK499.out 2).trans rfl
     have hcz13_3 : wr.cell? ⟨gb499,3,none⟩ = some (.slice A0_3 l0_3.length c0_3):=(bc_ BK499.out 3).trans rfl
     have hfz13_0:=bf_ BK499.out 0
     have hfz13_1:=bf_ BK499.out 1
     have hfz13_2:=bf_ BK499.out 2
     have hfz13_3:=bf_ BK499.out 3
     obtain ⟨Ao14,co14,eo14⟩:=Kd.R_slice HO_5.out
     subst eo14
     go_wp2_with (first|((with_reducible refine gate_callee (f:=71) rfl ?_);refine goesL_ (some 19) rfl rfl Try.func71 (by kernel_rfl) rfl #[.slice A0_1 l0_1.length c0_1,.slice Ao14 t500.length co14,.int .i64 x1_1] rfl qm_ ?_;(with_reducible refine (impl_upOf.calls k1 _ _ l0_1 _ _ t500 x1_1 t503 t504 _ ?side1 ?side2 ?side3 ?side4 A7.out).mono ?_);(case side1 => exact qn_ HR0_1 HB);(case side2 => exact HC0_1.out);(case side3 => repeat (first|exact (rr_ HO_5.out).2.2|(with_reducible refine ca_ ?_ _)|(with_reducible refine cn_ ?_ _)|(with_reducible refine cd_ ?_)));(case side4 => exact (rr_ HO_5.out).2.1);rintro e w15 ⟨rfl,hb⟩;refine ⟨_,rfl,?_⟩;have n0_:=mk_ (rb_ (qr_ HO_5) hb);have n1_:=mk_ (rb_ (qr_ HO_6) hb);have n2_:=mk_ (blk_below (g:=gb499) (o:=.cells #[.int .i64 a0_0,.slice A0_1 l0_1.length c0_1,.slice A0_2 l0_2.length c0_2,.slice A0_3 l0_3.length c0_3] 26 (0,0)) (qk_ BK499) hb);have n3_:=mk_ (st_ (qc_ HB GE499) hb);clear HO_5 HO_6 BK499 HB;have HO_5:=n0_;have HO_6:=n1_;have BK499:=n2_;have HB:=n3_;clear n0_ n1_ n2_ n3_;(try clear hb);(try clear hb2);(try clear hk);(try clear hi))|((with_reducible refine gate_builtin (b:=.append) (xs:=#[.tmp 25,.tmp 27]) rfl ?_);at_builtin;refine Kd.R_append (Kd.int .i64) (w0:=w) w.heap.size rfl (.tmp 25) (.tmp 27) 24 3 (.int .i64 0) 8 rfl Try.underlying24 info3 rfl (by decide) (by omega) u6 x6_1 t503 [.int .i64 t503] (fun k_ => some k_ ≠ (.slice Ao14 t500.length co14 : Value).ownBlock) (fun _ => False) rfl rfl ?aP (fun _ hk => hk.elim) ?aF ?aO ?aB ?aS ?aL ?_;(case aP => exact rfl);(case aB => exact (qc_ HB GE499));(case aF => exact (fun k_ hk => Kd.fresh' (Kd.R_lt (qr_ HO_5)) k_ hk));(case aO => exact (qr_ HO_6));(case aS => exact (bz_ (qc_ HB GE499)));(case aL => have:=LMc12.out;omega);intro v506 w16 ho hb hg hat;rw [← Ny505.out] at ho;have n0_:=mk_ (Kd.R_after (ok:=(fun _ => True)) (by (with_reducible repeat (first|apply ra_|apply rn_|apply rd_));exact rm_ HO_5.out (fun _ hk => ⟨trivial,hk⟩)) hg hat);have n1_:=mk_ (blk_grown (g:=gb499) (o:=.cells #[.int .i64 a0_0,.slice A0_1 l0_1.length c0_1,.slice A0_2 l0_2.length c0_2,.slice A0_3 l0_3.length c0_3] 26 (0,0)) (qk_ BK499) hg (Kd.R_ne HO_6.out BK499.out (by decide)));have n2_:=mk_ (hb);have n3_:=mk_ (ho);clear HO_5 BK499 HB HO_6;have HO_5:=n0_;have BK499:=n1_;have HB:=n2_;have HO507:=n3_;clear n0_ n1_ n2_ n3_ ho hb hg hat))
     go_roundg k1
     case measure => have:=HK1.out;omega
     case rel => exact ⟨(t504),(y505),qf_,H',⟨by have:=HK1.out;omega⟩,⟨by (with_reducible repeat (first|apply ra_|apply rn_|apply rd_));exact rm_ HO_5.out (λ_ h=>h.2)⟩,⟨qr_ HO507⟩,⟨qk_ BK499⟩,⟨u0_ HB GE499⟩⟩
    ·rw [if_neg c12] at H
     exact absurd H (by simp)
structure SN where
 tabs : List Int
 took : List Bool
 over : List Bool
def atS (b v s : Int) : Int:=(b * 10 + v) * 15 + s
def giveS (hs vs : List Int) (b v fr rc only : Int) : Nat → Int → List Bool → List Bool
 | 0,_,l => l
 | d + 1,s,l => giveS hs vs b v fr rc only d (s + 1) (if rd hs s ≠ b ∨ rd vs s ≠ v ∨ s = fr ∨ (0 ≤ only ∧ s ≠ only) then l else if rc = s ∨ rc = 15 then l.set s.toNat true else l)
def floodS (cs : List S83) (go : Int → Int → SN → Option SN) (b by_ kn : Int) : List Int → SN → Option SN
 | [],st => some st
 | k :: l,st => if (othX (rd_T83 cs k) b).getD (-1) < 0 ∨ k = by_ ∨ (0 ≤ kn ∧ k ≠ kn) then floodS cs go b by_ kn l st
  else (go ((othX (rd_T83 cs k) b).getD (-1)) k { st with over:=st.over.set k.toNat true }).bind (floodS cs go b by_ kn l)
def knS (tabs : List Int) (b v rc : Int) : Int:=if rc < 15 then rd tabs (atS b v rc) else -1
def inS (tabs : List Int) (b v s : Int) : Prop:=0 ≤ b ∧ b ≤ 1000 ∧ 0 ≤ v ∧ v ≤ 1000 ∧ 0 ≤ s ∧ s ≤ 1000 ∧ atS b v s < tabs.length
instance (tabs : List Int) (b v s : Int) : Decidable (inS tabs b v s):=by unfold inS;exact inferInstance
def comeS (cs : List S83) (tr hs vs : List Int) (v fr rc : Int) : Nat → Int → Int → SN → Option SN
  | 0,_,_,_ => none
  | f + 1, b, by_, st => if inS st.tabs b v fr ∧ inS st.tabs b v (if rc < 15 then rc else 0) then
      (if knS (st.tabs.set (atS b v fr).toNat by_) b v rc = -2 then some { tabs:=st.tabs.set (atS b v fr).toNat by_,took:=giveS hs vs b v fr rc rc hs.length 0 st.took,over:=st.over }
      else (floodS cs (comeS cs tr hs vs v fr rc f) b by_ (knS (st.tabs.set (atS b v fr).toNat by_) b v rc) tr { st with tabs:=st.tabs.set (atS b v fr).toNat by_ }).bind fun st2 =>
        some (if knS (st.tabs.set (atS b v fr).toNat by_) b v rc < 0 then { st2 with took:=giveS hs vs b v fr rc (-1) hs.length 0 st2.took } else st2))
    else none
structure SC where
 w0 : World
 nb : Int
 A1 : Option Addr
 c1 : Nat
 cs : List S83
 A2 : Option Addr
 c2 : Nat
 hs : List Int
 A3 : Option Addr
 c3 : Nat
 vs : List Int
 At : Option Addr
 ct : Nat
 tr : List Int
 g : Nat
 gt : Nat
 nt : Nat
 kt : Nat
 gk : Nat
 kk : Nat
 go : Nat
 ko : Nat
def SC.box (c : SC) : Obj:=.cells #[.int .i64 c.nb,.slice c.A1 c.cs.length c.c1,.slice c.A2 c.hs.length c.c2,.slice c.A3 c.vs.length c.c3,.slice c.At c.tr.length c.ct,.slice (some ⟨c.gt,0,none⟩) c.nt c.kt,.slice (some ⟨c.gk,0,none⟩) c.hs.length c.kk,.slice (some ⟨c.go,0,none⟩) c.cs.length c.ko] 77 (0,0)
structure SC.ok (c : SC) : Prop where
 r1 : Kd.C k83 c.w0 c.A1 c.cs.length c.cs
 r2 : Kd.C (Kd.int .i64) c.w0 c.A2 c.hs.length c.hs
 r3 : Kd.C (Kd.int .i64) c.w0 c.A3 c.vs.length c.vs
 l1 : c.cs.length ≤ c.c1
 l2 : c.hs.length ≤ c.c2
 l3 : c.vs.length ≤ c.c3
 ln : c.cs.length ≤ 20
 lh : c.hs.length ≤ 15
 lv : c.vs.length = c.hs.length
 lt : c.tr.length ≤ 8
 kr : ∀ k ∈ c.tr,0 ≤ k ∧ k < c.cs.length
 nt : c.nt ≤ 10000
 b0 : c.w0.heap.size ≤ c.gt ∧ c.w0.heap.size ≤ c.gk ∧ c.w0.heap.size ≤ c.go
 ne : c.gk ≠ c.go
structure SSt (c : SC) (W : World) (st : SN) : Prop where
 bw : Below c.w0.heap.size c.w0 W
 bx : W.heap[c.g]? = some c.box
 tr : Kd.R (Kd.int .i64) 3 W c.w0.heap.size (fun k => k ≠ c.gt) (.slice c.At c.tr.length c.ct) c.tr
 lt : st.tabs.length = c.nt
 lk : st.took.length = c.hs.length
 lo : st.over.length = c.cs.length
 tb : Kd.R (Kd.int .i64) 3 W c.w0.heap.size (fun _ => True) (.slice (some ⟨c.gt,0,none⟩) c.nt c.kt) st.tabs
 tk : Kd.R Kd.bool 4 W c.w0.heap.size (fun _ => True) (.slice (some ⟨c.gk,0,none⟩) c.hs.length c.kk) st.took
 ov : Kd.R Kd.bool 4 W c.w0.heap.size (fun _ => True) (.slice (some ⟨c.go,0,none⟩) c.cs.length c.ko) st.over
def KeptS (c : SC) (W W' : World) : Prop:=W.heap.size ≤ W'.heap.size ∧ ∀ k,k < W.heap.size → k ≠ c.gt → k ≠ c.gk → k ≠ c.go → W'.heap[k]? = W.heap[k]?
theorem KeptS.refl (c : SC) (W : World) : KeptS c W W:=⟨Nat.le_refl _,fun _ _ _ _ _ => rfl⟩
theorem KeptS.trans {c : SC} {W W1 W2 : World} (h : KeptS c W W1) (h2 : KeptS c W1 W2) : KeptS c W W2:=⟨Nat.le_trans h.1 h2.1,fun k hk a b d => (h2.2 k (Nat.lt_of_lt_of_le hk h.1) a b d).trans (h.2 k hk a b d)⟩
theorem KeptS.below {c : SC} {W W1 : World} (h : Below W.heap.size W W1) : KeptS c W W1:=⟨h.size,fun k hk _ _ _ => h.block k hk⟩
theorem SSt.below {c : SC} {W W1 : World} {st : SN} (h : SSt c W st) (hb : Below W.heap.size W W1) : SSt c W1 st :=
 ⟨st_ h.bw hb,blk_below h.bx hb,rb_ h.tr hb,h.lt,h.lk,h.lo,rb_ h.tb hb,rb_ h.tk hb,rb_ h.ov hb⟩
theorem R_typ {α : Type} {d : Kd α} {e base : Nat} {ok : Nat → Prop} {W : World} {g n cap : Nat} {xs : List α} (h : d.R e W base ok (.slice (some ⟨g,0,none⟩) n cap) xs) : ∃ cells,W.heap[g]? = some (.cells cells e (0,0)):=Kd.R_typed h g (by simp [Value.ownBlock])
theorem R_puts {α : Type} {enc : α → Value} {h1 : ∀ x, (enc x).oneCell' = true} {e base : Nat} {ok : Nat → Prop} {W : World} {g n cap : Nat} {xs : List α} (h : (Kd.scalar enc h1).R e W base ok (.slice (some ⟨g, 0, none⟩) n cap) xs) (hn : xs.length = n) (i : Nat) (x : α) :
  (Kd.scalar enc h1).R e (W.setCell ⟨g,i,none⟩ (enc x)) base ok (.slice (some ⟨g,0,none⟩) n cap) (xs.set i x) ∧ W.grownBy (W.setCell ⟨g,i,none⟩ (enc x)) (some g):=by
 subst hn
 have hs:=(Kd.own_of_R h).stored i (enc x)
 have he : (encs enc xs).set i (enc x) = encs enc (xs.set i x):=by simp [encs,List.map_set]
 rw [he] at hs
 exact ⟨Kd.R_of_own (by rw [List.length_set];exact hs.1) h.1,hs.2⟩
theorem blk_types {W : World} {g1 g2 t1 t2 : Nat} {c1 c2 : Array Value} (h1 : W.heap[g1]? = some (.cells c1 t1 (0,0))) (h2 : W.heap[g2]? = some (.cells c2 t2 (0,0))) (ht : t1 ≠ t2) : g1 ≠ g2:=by
 rintro rfl
 rw [h1] at h2
 injection h2 with h2
 injection h2 with _ h2 _
 exact ht h2
theorem SSt.ne_ {c : SC} {W : World} {st : SN} (h : SSt c W st) : c.g ≠ c.gt ∧ c.g ≠ c.gk ∧ c.g ≠ c.go ∧ c.gt ≠ c.gk ∧ c.gt ≠ c.go:=by
 obtain ⟨x1,h1⟩:=R_typ h.tb
 obtain ⟨x2,h2⟩:=R_typ h.tk
 obtain ⟨x3,h3⟩:=R_typ h.ov
 exact ⟨blk_types h.bx h1 (by decide),blk_types h.bx h2 (by decide),blk_types h.bx h3 (by decide),blk_types h1 h2 (by decide),blk_types h1 h3 (by decide)⟩
theorem SSt.put_t {c : SC} (hc : c.ok) {W : World} {st : SN} (h : SSt c W st) (i : Nat) (x : Int) : SSt c (W.setCell ⟨c.gt,i,none⟩ (.int .i64 x)) { st with tabs:=st.tabs.set i x } ∧ KeptS c W (W.setCell ⟨c.gt,i,none⟩ (.int .i64 x)):=by
 obtain ⟨n1,n2,n3,n4,n5⟩:=h.ne_
 have hr:=R_puts h.tb h.lt i x
 have hmv : ∀ k,k ≠ c.gt → (W.setCell ⟨c.gt,i,none⟩ (.int .i64 x)).heap[k]? = W.heap[k]?:=fun k hk => Below.heap_setCell W ⟨c.gt,i,none⟩ (.int .i64 x) k hk
 exact ⟨⟨h.bw.setCell (p:=⟨c.gt,i,none⟩) hc.b0.1 _,(hmv _ n1).trans h.bx,Kd.R_step h.tr (fun k hk _ => hmv k hk),by rw [List.length_set];exact h.lt,h.lk,h.lo,hr.1,
  rm_ (Kd.R_step (Kd.R_tight rfl h.tk) (fun k hk _ => hmv k (fun e => by simp [Value.ownBlock] at hk;omega))) (fun _ _ => trivial),rm_ (Kd.R_step (Kd.R_tight rfl h.ov) (fun k hk _ => hmv k (fun e => by simp [Value.ownBlock] at hk;omega))) (fun _ _ => trivial)⟩,
  by rw [nb_size];exact Nat.le_refl _,fun k _ h1 _ _ => hmv k h1⟩
theorem SSt.put_k {c : SC} (hc : c.ok) {W : World} {st : SN} (h : SSt c W st) (i : Nat) (x : Bool) : SSt c (W.setCell ⟨c.gk,i,none⟩ (.bool x)) { st with took:=st.took.set i x } ∧ KeptS c W (W.setCell ⟨c.gk,i,none⟩ (.bool x)):=by
 obtain ⟨n1,n2,n3,n4,n5⟩:=h.ne_
 have n6:=hc.ne
 obtain ⟨x2,h2⟩:=R_typ h.tk
 have hr:=R_puts h.tk h.lk i x
 have hmv : ∀ k,k ≠ c.gk → (W.setCell ⟨c.gk,i,none⟩ (.bool x)).heap[k]? = W.heap[k]?:=fun k hk => Below.heap_setCell W ⟨c.gk,i,none⟩ (.bool x) k hk
 exact ⟨⟨h.bw.setCell (p:=⟨c.gk,i,none⟩) hc.b0.2.1 _,(hmv _ n2).trans h.bx,Kd.R_set h.tr h2 (by decide) i (.bool x),h.lt,by rw [List.length_set];exact h.lk,h.lo,
  rm_ (Kd.R_step (Kd.R_tight rfl h.tb) (fun k hk _ => hmv k (fun e => by simp [Value.ownBlock] at hk;omega))) (fun _ _ => trivial),hr.1,rm_ (Kd.R_step (Kd.R_tight rfl h.ov) (fun k hk _ => hmv k (fun e => by simp [Value.ownBlock] at hk;omega))) (fun _ _ => trivial)⟩,
  by rw [nb_size];exact Nat.le_refl _,fun k _ _ h1 _ => hmv k h1⟩
theorem SSt.put_o {c : SC} (hc : c.ok) {W : World} {st : SN} (h : SSt c W st) (i : Nat) (x : Bool) : SSt c (W.setCell ⟨c.go,i,none⟩ (.bool x)) { st with over:=st.over.set i x } ∧ KeptS c W (W.setCell ⟨c.go,i,none⟩ (.bool x)):=by
 obtain ⟨n1,n2,n3,n4,n5⟩:=h.ne_
 have n6:=hc.ne
 obtain ⟨x2,h2⟩:=R_typ h.ov
 have hr:=R_puts h.ov h.lo i x
 have hmv : ∀ k,k ≠ c.go → (W.setCell ⟨c.go,i,none⟩ (.bool x)).heap[k]? = W.heap[k]?:=fun k hk => Below.heap_setCell W ⟨c.go,i,none⟩ (.bool x) k hk
 exact ⟨⟨h.bw.setCell (p:=⟨c.go,i,none⟩) hc.b0.2.2 _,(hmv _ n3).trans h.bx,Kd.R_set h.tr h2 (by decide) i (.bool x),h.lt,h.lk,by rw [List.length_set];exact h.lo,
  rm_ (Kd.R_step (Kd.R_tight rfl h.tb) (fun k hk _ => hmv k (fun e => by simp [Value.ownBlock] at hk;omega))) (fun _ _ => trivial),rm_ (Kd.R_step (Kd.R_tight rfl h.tk) (fun k hk _ => hmv k (fun e => by simp [Value.ownBlock] at hk;omega))) (fun _ _ => trivial),hr.1⟩,
  by rw [nb_size];exact Nat.le_refl _,fun k _ _ _ h1 => hmv k h1⟩
set_option maxHeartbeats 4000000 in
set_option maxRecDepth 100000 in
theorem x_at (p : Value) (b v s : Int) (W : World) (hb : 0 ≤ b ∧ b ≤ 1000) (hv : 0 ≤ v ∧ v ≤ 1000) (hs : 0 ≤ s ∧ s ≤ 1000) :
  Calls Try.prog 82 #[p,.int .i64 b,.int .i64 v,.int .i64 s] W fun e w' => e = .returned (.int .i64 (atS b v s)) ∧ w' = W:=by
 have HZ : Aside0 (atS b v s = (b * 10 + v) * 15 + s):=⟨rfl⟩
 generalize atS b v s = z at HZ ⊢
 go_enter Try.func82,Try.ntmps82
 go_wp2_with fail
 go_ret
 exact ⟨by rw [HZ.out];rfl,rfl⟩
set_option maxHeartbeats 8000000 in
set_option maxRecDepth 100000 in
theorem x_give {c : SC} (hc : c.ok) (b v fr rc po only : Int) {st : SN} {W : World} (h : SSt c W st) :
  Calls Try.prog 83 #[.pointer (some ⟨c.g,0,none⟩),.int .i64 b,.int .i64 v,.agg #[.int .i64 fr,.int .i64 rc,.int .i64 po],.int .i64 only] W fun e w' => e = .returned (.tuple #[]) ∧ SSt c w' { st with took:=giveS c.hs c.vs b v fr rc only c.hs.length 0 st.took } ∧ KeptS c W w':=by
 have hu:=Try.underlying77
 have hu2:=Try.underlying37
 have hu4:=Try.underlying26
 have hba:=ba_ (Below.refl W.heap.size W) (.cells #[.int .i64 fr,.int .i64 rc,.int .i64 po] 37)
 have hn:=blk_new W (.cells #[.int .i64 fr,.int .i64 rc,.int .i64 po] 37)
 have HI:=mk_ (h.below hba)
 have HK:=mk_ (KeptS.below (c:=c) hba)
 have HN:=mk_ hn
 obtain ⟨fin,hfin⟩ : ∃ fin,fin = giveS c.hs c.vs b v fr rc only c.hs.length 0 st.took:=⟨_,rfl⟩
 rw [← hfin]
 have HF:=mk_ hfin
 clear hba hn h hfin
 go_enter Try.func83,Try.ntmps83
 go_wp2_with fail
 go_loopg [10] c.hs.length (fun gg s10 wr => ∃ (jj : Nat) (l : List Bool),jj ≤ c.hs.length ∧ c.hs.length - jj ≤ gg ∧ s10 = .int .i64 (jj : Int) ∧ Aside0 (SSt c wr { st with took:=l }) ∧ Aside0 (KeptS c W wr) ∧ Aside0 (wr.heap[W.heap.size]? = some (.cells #[.int .i64 fr,.int .i64 rc,.int .i64 po] 37 (0,0))) ∧
  Aside0 (fin = giveS c.hs c.vs b v fr rc only (c.hs.length - jj) jj l))
 case atStart => exact ⟨0,st.took,Nat.zero_le _,Nat.le_refl _,rfl,HI,HK,HN,HF⟩
 case round =>
  clear HI HK HN HF
  obtain ⟨jj,l,hjj,hgg,rfl,HI,HK,HN,HF⟩:=hrel
  have hh15:=hc.lh
  have k2 : wr.cell? ⟨c.g,2,none⟩ = some (.slice c.A2 c.hs.length c.c2):=(bc_ HI.out.bx 2).trans rfl
  by_cases hlt : jj < c.hs.length
  ·obtain ⟨ad2,ea2,hx2⟩:=Kd.at_int (cb_ hc.r2 HI.out.bw) (jj : Int) (by omega) (by omega)
   obtain ⟨ad3,ea3,hx3⟩:=Kd.at_int (cb_ hc.r3 HI.out.bw) (jj : Int) (by omega) (by have:=hc.lv;omega)
   rw [Int.toNat_natCast] at hx2 hx3
   have hl2:=hc.l2
   have hl3 : jj < c.vs.length ∧ c.vs.length ≤ c.c3:=⟨by have:=hc.lv;omega,hc.l3⟩
   obtain ⟨hl3a,hl3b⟩:=hl3
   have k3 : wr.cell? ⟨c.g,3,none⟩ = some (.slice c.A3 c.vs.length c.c3):=(bc_ HI.out.bx 3).trans rfl
   have k6 : wr.cell? ⟨c.g,6,none⟩ = some (.slice (some ⟨c.gk,0,none⟩) c.hs.length c.kk):=(bc_ HI.out.bx 6).trans rfl
   rw [ea3] at k3
   rw [ea2] at k2
   have hcl:=Kd.R_celln false HI.out.tk (jj : Int) (by omega) (by omega)
   rw [Int.toNat_natCast] at hcl
   obtain ⟨kc,kf⟩:=hcl
   have hck : c.hs.length ≤ c.kk:=(rr_ HI.out.tk).2.1
   obtain ⟨d,hd⟩ : ∃ d,c.hs.length - jj = d + 1:=⟨c.hs.length - jj - 1,by omega⟩
   have hd2 : c.hs.length - (jj + 1) = d:=by omega
   have hL:=HF.out
   rw [hd,giveS] at hL
   have HL : Aside0 (fin = giveS c.hs c.vs b v fr rc only (c.hs.length - (jj + 1)) ((jj + 1 : Nat) : Int) (if rd c.hs jj ≠ b ∨ rd c.vs jj ≠ v ∨ (jj : Int) = fr ∨ (0 ≤ only ∧ (jj : Int) ≠ only) then l else if rc = (jj : Int) ∨ rc = 15 then l.set jj true else l)):=⟨by rw [hd2];exact hL⟩
   have n0 : wr.cell? ⟨W.heap.size,0,none⟩ = some (.int .i64 fr):=(bc_ HN.out 0).trans rfl
   have n1 : wr.cell? ⟨W.heap.size,1,none⟩ = some (.int .i64 rc):=(bc_ HN.out 1).trans rfl
   have p1 : ((jj : Int) < (c.hs.length : Int)) = True:=eq_true (by omega)
   have p2 : (jj < c.hs.length) = True:=eq_true hlt
   clear hL hd hd2 ea2 ea3 HF
   generalize rd c.hs jj = hz at hx2 HL
   generalize rd c.vs jj = vz at hx3 HL
   have hskip : (hz ≠ b ∨ vz ≠ v ∨ (jj : Int) = fr ∨ (0 ≤ only ∧ (jj : Int) ≠ only)) → Aside0 (fin = giveS c.hs c.vs b v fr rc only (c.hs.length - (jj + 1)) ((jj + 1 : Nat) : Int) l):=fun h => ⟨by have:=HL.out;rw [if_pos h] at this;exact this⟩
   by_cases c1 : hz = b
   rotate_left
   ·have q1 : (hz != b) = true:=by simp [c1]
    have HL2:=hskip (Or.inl c1)
    clear hskip HL
    go_wp2_with fail
    go_roundg (c.hs.length - (jj + 1))
    case measure => omega
    case rel => exact ⟨jj + 1,l,by omega,by omega,by go_num,HI,HK,HN,HL2⟩
   ·have q1 : (hz != b) = false:=by simp [c1]
    by_cases c2 : vz = v
    rotate_left
    ·have q2 : (vz != v) = true:=by simp [c2]
     have HL2:=hskip (Or.inr (Or.inl c2))
     clear hskip HL
     go_wp2_with fail
     go_roundg (c.hs.length - (jj + 1))
     case measure => omega
     case rel => exact ⟨jj + 1,l,by omega,by omega,by go_num,HI,HK,HN,HL2⟩
    ·have q2 : (vz != v) = false:=by simp [c2]
     by_cases c3 : (jj : Int) = fr
     ·have q3 : ((jj : Int) == fr) = true:=by simp [c3]
      have HL2:=hskip (Or.inr (Or.inr (Or.inl c3)))
      clear hskip HL c3
      go_wp2_with fail
      go_roundg (c.hs.length - (jj + 1))
      case measure => omega
      case rel => exact ⟨jj + 1,l,by omega,by omega,by go_num,HI,HK,HN,HL2⟩
     ·have q3 : ((jj : Int) == fr) = false:=beq_eq_false_iff_ne.mpr c3
      have hkeep : (¬ (0 ≤ only ∧ (jj : Int) ≠ only)) → Aside0 (fin = giveS c.hs c.vs b v fr rc only (c.hs.length - (jj + 1)) ((jj + 1 : Nat) : Int) (if rc = (jj : Int) ∨ rc = 15 then l.set jj true else l)):=fun h => ⟨by have:=HL.out;rw [if_neg (fun h2 => h2.elim (fun h3 => h3 c1) (fun h2 => h2.elim (fun h3 => h3 c2) (fun h2 => h2.elim (fun h3 => c3 h3) h)))] at this;exact this⟩
      have hon : (0 ≤ only ∧ (jj : Int) ≠ only) ∨ (only < 0 ∨ (0 ≤ only ∧ (jj : Int) = only)):=by omega
      rcases hon with ⟨h4,h5⟩|hno
      ·have q4 : (only ≥ 0) = True:=eq_true h4
       have q4' : (0 ≤ only) = True:=eq_true h4
       have q5 : ((jj : Int) != only) = true:=by simp [h5]
       have HL2:=hskip (Or.inr (Or.inr (Or.inr ⟨h4,h5⟩)))
       clear hskip HL hkeep h4 h5 c3
       go_wp2_with fail
       go_roundg (c.hs.length - (jj + 1))
       case measure => omega
       case rel => exact ⟨jj + 1,l,by omega,by omega,by go_num,HI,HK,HN,HL2⟩
      ·have HLL:=hkeep (fun h => by omega)
       clear hskip HL hkeep
       have hrcs : (rc = (jj : Int) ∨ (rc ≠ (jj : Int) ∧ rc = 15)) ∨ (rc ≠ (jj : Int) ∧ rc ≠ 15):=by omega
       rcases hno with h4|⟨h4,h5⟩
       all_goals (
        try have q4 : (only ≥ 0) = False:=eq_false (by omega)
        try have q4' : (0 ≤ only) = False:=eq_false (by omega)
        try have q4 : (only ≥ 0) = True:=eq_true (by omega)
        try have q4' : (0 ≤ only) = True:=eq_true (by omega)
        try have q5 : ((jj : Int) != only) = false:=by simp [h5]
        clear h4
        try clear h5
        rcases hrcs with (hr|⟨hr1,hr2⟩)|⟨hr1,hr2⟩
        ·have hrc : rc = (jj : Int) ∨ rc = 15:=Or.inl hr
         have q6 : (rc == (jj : Int)) = true:=by simp [hr]
         clear hr
         have HL2 : Aside0 (fin = giveS c.hs c.vs b v fr rc only (c.hs.length - (jj + 1)) ((jj + 1 : Nat) : Int) (l.set jj true)):=⟨by have:=HLL.out;rw [if_pos hrc] at this;exact this⟩
         have hpt:=HI.out.put_k hc jj true
         have HI2:=mk_ hpt.1
         have HK2:=mk_ (HK.out.trans hpt.2)
         have hgk:=blk_types HN.out (R_typ HI.out.tk).choose_spec (by decide)
         have HN2:=mk_ (nb_seto HN.out hgk jj (.bool true))
         clear hpt hgk hrc HLL
         go_wp2_with fail
         go_roundg (c.hs.length - (jj + 1))
         case measure => omega
         case rel => exact ⟨jj + 1,l.set jj true,by omega,by omega,by go_num,HI2,HK2,HN2,HL2⟩
        ·have hrc : rc = (jj : Int) ∨ rc = 15:=Or.inr hr2
         have q6 : (rc == (jj : Int)) = false:=beq_eq_false_iff_ne.mpr hr1
         have q7 : (rc == 15) = true:=by simp [hr2]
         clear hr1 hr2
         have HL2 : Aside0 (fin = giveS c.hs c.vs b v fr rc only (c.hs.length - (jj + 1)) ((jj + 1 : Nat) : Int) (l.set jj true)):=⟨by have:=HLL.out;rw [if_pos hrc] at this;exact this⟩
         have hpt:=HI.out.put_k hc jj true
         have HI2:=mk_ hpt.1
         have HK2:=mk_ (HK.out.trans hpt.2)
         have hgk:=blk_types HN.out (R_typ HI.out.tk).choose_spec (by decide)
         have HN2:=mk_ (nb_seto HN.out hgk jj (.bool true))
         clear hpt hgk hrc HLL
         go_wp2_with fail
         go_roundg (c.hs.length - (jj + 1))
         case measure => omega
         case rel => exact ⟨jj + 1,l.set jj true,by omega,by omega,by go_num,HI2,HK2,HN2,HL2⟩
        ·have q6 : (rc == (jj : Int)) = false:=beq_eq_false_iff_ne.mpr hr1
         have q7 : (rc == 15) = false:=beq_eq_false_iff_ne.mpr hr2
         have HL2 : Aside0 (fin = giveS c.hs c.vs b v fr rc only (c.hs.length - (jj + 1)) ((jj + 1 : Nat) : Int) l):=⟨by have:=HLL.out;rw [if_neg (fun h => h.elim hr1 hr2)] at this;exact this⟩
         clear hr1 hr2 HLL
         go_wp2_with fail
         go_roundg (c.hs.length - (jj + 1))
         case measure => omega
         case rel => exact ⟨jj + 1,l,by omega,by omega,by go_num,HI,HK,HN,HL2⟩)
  ·have hjl : jj = c.hs.length:=by omega
   have hL:=HF.out
   rw [hjl,Nat.sub_self,giveS] at hL
   have p1 : ((jj : Int) < (c.hs.length : Int)) = False:=eq_false (by omega)
   have p2 : (jj < c.hs.length) = False:=eq_false hlt
   have HLF:=mk_ hL
   clear hL hjl HF
   go_wp2_with fail
   (first|go_end0|((try simp only [Exit.inBlock,Exit.then]);refine bodyPost_ret (results_none rfl _ _ _) rfl ?_))
   exact ⟨rfl,by rw [HLF.out];exact HI.out,HK.out⟩
def ComesS (c : SC) (fr rc po v : Int) (go : Int → Int → SN → Option SN) : Prop :=
 ∀ (o k : Int) (st st' : SN) (W : World),SSt c W st → go o k st = some st' → Calls Try.prog 41 #[.pointer (some ⟨c.g,0,none⟩),.int .i64 o,.int .i64 k,.int .i64 v,.agg #[.int .i64 fr,.int .i64 rc,.int .i64 po]] W fun e w' => e = .returned (.tuple #[]) ∧ SSt c w' st' ∧ KeptS c W w'
theorem comeS_pos {cs : List S83} {tr hs vs : List Int} {v fr rc : Int} {f : Nat} {b by_ : Int} {st st' : SN} (h : comeS cs tr hs vs v fr rc (f + 1) b by_ st = some st') : inS st.tabs b v fr ∧ inS st.tabs b v (if rc < 15 then rc else 0):=by
 unfold comeS at h
 by_cases hc : inS st.tabs b v fr ∧ inS st.tabs b v (if rc < 15 then rc else 0)
 ·exact hc
 ·rw [if_neg hc] at h;cases h
set_option maxHeartbeats 16000000 in
set_option maxRecDepth 100000 in
theorem x_comeS {c : SC} (hc : c.ok) (fr rc po v : Int) : ∀ f : Nat,ComesS c fr rc po v (comeS c.cs c.tr c.hs c.vs v fr rc f):=by
 intro f
 induction f with
 | zero => intro o k st st' W _ h;cases h
 | succ f ih =>
  intro b by_ st st' W h hs
  obtain ⟨hp1,hp2⟩:=comeS_pos hs
  unfold comeS at hs
  rw [if_pos ⟨hp1,hp2⟩] at hs
  have hu:=Try.underlying77
  have hu2:=Try.underlying37
  have hu3:=Try.underlying83
  have hu4:=Try.underlying26
  obtain ⟨hb0,hb1,hv0,hv1,hf0,hf1,hz⟩:=hp1
  obtain ⟨Z,hZ⟩ : ∃ Z : Nat,atS b v fr = (Z : Int):=⟨(atS b v fr).toNat,by unfold atS;omega⟩
  have hzt : Z < c.nt:=by rw [hZ,h.lt] at hz;omega
  rw [hZ,Int.toNat_natCast] at hs
  have hba:=ba_ (Below.refl W.heap.size W) (.cells #[.int .i64 fr,.int .i64 rc,.int .i64 po] 37)
  have hn:=blk_new W (.cells #[.int .i64 fr,.int .i64 rc,.int .i64 po] 37)
  have HI:=mk_ (h.below hba)
  have HK:=mk_ (KeptS.below (c:=c) hba)
  have HN:=mk_ hn
  have HS:=mk_ hs
  have HIH:=mk_ ih
  have hlt0 : st.tabs.length = c.nt:=h.lt
  have HP2 : Aside0 (inS (st.tabs.set Z by_) b v (if rc < 15 then rc else 0)):=⟨by
   unfold inS at hp2 ⊢
   rw [List.length_set]
   exact hp2⟩
  clear h hba hn hs ih hp2 hlt0 hz
  go_enter Try.func41,Try.ntmps41
  go_upto_region 1 with (fail)
  generalize W.alloc (.cells #[.int .i64 fr,.int .i64 rc,.int .i64 po] 37) = W1 at HI HK HN ⊢
  have k5 : W1.drew.cell? ⟨c.g,5,none⟩ = some (.slice (some ⟨c.gt,0,none⟩) c.nt c.kt):=(bc_ HI.out.bx 5).trans rfl
  have n0 : W1.drew.cell? ⟨W.heap.size,0,none⟩ = some (.int .i64 fr):=(bc_ HN.out 0).trans rfl
  have hckt : c.nt ≤ c.kt:=(rr_ HI.out.tb).2.1
  have hnt:=hc.nt
  have hcl:=Kd.R_celln 0 HI.out.tb (Z : Int) (by omega) (by omega)
  rw [Int.toNat_natCast] at hcl
  obtain ⟨kc,kf⟩:=hcl
  have kc' : W1.drew.cell? ⟨c.gt,Z,none⟩ = some (.int .i64 (rdOf 0 st.tabs Z)):=kc
  have kf' : W1.drew.frozen? ⟨c.gt,Z,none⟩ = false:=kf
  have hat:=x_at (.pointer (some ⟨c.g,0,none⟩)) b v fr W1.drew ⟨hb0,hb1⟩ ⟨hv0,hv1⟩ ⟨hf0,hf1⟩
  rw [hZ] at hat
  have HAT:=mk_ hat
  clear hat kc kf
  refine start_ (n:=13) (S:=fun w' => w'.cell? ⟨c.g,5,none⟩ = some (.slice (some ⟨c.gt,0,none⟩) c.nt c.kt) ∧ w'.cell? ⟨W.heap.size,0,none⟩ = some (.int .i64 fr)) (ds:=[12]) #[false,false,false,false,false,false,false,false,false,false,false,false,false] (by kernel_rfl) rfl rfl ⟨k5,n0⟩ (fun hHeld => ?_)
  refine pu_ (i:=0) (N:=some 14) 13 1 ?_
  refine pu_ (i:=1) (N:=some 15) 13 3 ?_
  refine pu_ (i:=2) (N:=some 16) 13 7 ?_
  refine pu_ (i:=4) (N:=some 18) 13 23 ?_
  refine pu_ (i:=5) (N:=some 19) 13 55 ?_
  refine pu_ (i:=6) (N:=some 20) 13 119 ?_
  refine pu_ (i:=7) (N:=some 21) 13 247 ?_
  refine pu_ (i:=10) (N:=some 24) 13 1271 ?_
  refine ta2_ (i:=3) (N:=some 17) 13 1279 hHeld ?_
  refine ta2_ (i:=8) (N:=some 22) 13 1535 hHeld ?_
  refine on_ (i:=9) (N:=some 23) 13 2047 (fun K hK => ?_)
  refine goes_ Try.func82 (by kernel_rfl) rfl #[.pointer (some ⟨c.g,0,none⟩),.int .i64 b,.int .i64 v,.int .i64 fr] (by rfl) rfl rfl (by simp only [List.map_toArray,List.map_cons,List.map_nil];rfl) ?_
  with_reducible refine (HAT.out).mono ?_
  rintro e w6 ⟨rfl,rfl⟩
  refine ⟨_,rfl,?_⟩
  refine hK.out _ _ ⟨k5,n0⟩ (fun hHeld => ?_)
  clear hK K
  refine norm_ (a':=?_) ?_ ?_
  rotate_left
  ·show Act.put _ (some 23) _ = _
   simp only [Act.put,sx_,sy_,sz_,i64_w,i32_w]
   rfl
  refine pu_ (i:=11) (N:=some 25) 13 4095 ?_
  refine last_ (i:=12) (N:=none) #[true,true,true,true,true,true,true,true,true,true,true,true,true] rfl rfl (by kernel_rfl) (by decide) (fun K hK => ?_)
  refine skip_ (w1:=?_) (by rfl) rfl ?_ ?_
  rotate_left
  ·go_simp
   rfl
  refine hK.out _ _ ?_
  clear hK K
  refine done_ (by kernel_rfl) ?_
  have hdr:=below_drew (Below.refl W1.heap.size W1)
  obtain ⟨hpt,hpk⟩:=(HI.out.below hdr).put_t hc Z by_
  have HI2 : Aside0 (SSt c (W1.setCell ⟨c.gt,Z,none⟩ (.int .i64 by_)).drew { st with tabs:=st.tabs.set Z by_ }):=⟨hpt⟩
  have HK2 : Aside0 (KeptS c W (W1.setCell ⟨c.gt,Z,none⟩ (.int .i64 by_)).drew):=⟨(HK.out.trans (KeptS.below hdr)).trans hpk⟩
  have hgq:=(blk_types (R_typ HI.out.tb).choose_spec HN.out (by decide)).symm
  have HN2 : Aside0 ((W1.setCell ⟨c.gt,Z,none⟩ (.int .i64 by_)).drew.heap[W.heap.size]? = some (.cells #[.int .i64 fr,.int .i64 rc,.int .i64 po] 37 (0,0))):=⟨nb_seto (blk_below HN.out hdr) hgq Z (.int .i64 by_)⟩
  clear k5 n0 kc' kf' HAT hdr hpt hpk hgq HI HK HN hHeld
  generalize (W1.setCell ⟨c.gt,Z,none⟩ (.int .i64 by_)).drew = W2 at HI2 HK2 HN2 ⊢
  generalize hT : st.tabs.set Z by_ = T at HI2 HS HP2
  obtain ⟨kn,hkn⟩ : ∃ kn,kn = knS T b v rc:=⟨_,rfl⟩
  rw [← hkn] at HS
  have HKN:=mk_ hkn
  clear hkn hT
  have n1 : W2.cell? ⟨W.heap.size,1,none⟩ = some (.int .i64 rc):=(bc_ HN2.out 1).trans rfl
  go_upto_if 28 with (fail)
  go_cut [10] from 28 to 40 (fun s10 wx => s10 = .int .i64 kn ∧ Aside0 (SSt c wx { st with tabs:=T }) ∧ Aside0 (KeptS c W wx) ∧ Aside0 (wx.heap[W.heap.size]? = some (.cells #[.int .i64 fr,.int .i64 rc,.int .i64 po] 37 (0,0))))
  case first =>
   by_cases h15 : rc < 15
   ·have hp2:=HP2.out
    rw [if_pos h15] at hp2
    obtain ⟨gb0,gb1,gv0,gv1,gf0,gf1,gz⟩:=hp2
    have hkv : kn = rd T (atS b v rc):=by rw [HKN.out];unfold knS;rw [if_pos h15]
    obtain ⟨Z2,hZ2⟩ : ∃ Z : Nat,atS b v rc = (Z : Int):=⟨(atS b v rc).toNat,by unfold atS;omega⟩
    have hTl : T.length = c.nt:=HI2.out.lt
    have hzt2 : Z2 < c.nt:=by rw [hZ2,hTl] at gz;omega
    have hcl:=Kd.R_celln 0 HI2.out.tb (Z2 : Int) (by omega) (by omega)
    rw [Int.toNat_natCast] at hcl
    have k5 : W2.drew.cell? ⟨c.g,5,none⟩ = some (.slice (some ⟨c.gt,0,none⟩) c.nt c.kt):=(bc_ HI2.out.bx 5).trans rfl
    have kz : W2.drew.cell? ⟨c.gt,Z2,none⟩ = some (.int .i64 kn):=by rw [hkv,hZ2];exact hcl.1
    have n1' : W2.drew.cell? ⟨W.heap.size,1,none⟩ = some (.int .i64 rc):=n1
    have hat:=x_at (.pointer (some ⟨c.g,0,none⟩)) b v rc W2.drew ⟨gb0,gb1⟩ ⟨gv0,gv1⟩ ⟨gf0,gf1⟩
    rw [hZ2] at hat
    have HAT:=mk_ hat
    have q15 : decide (rc < 15) = true:=decide_eq_true h15
    clear hat hcl hkv gz hTl
    rw [q15]
    go_upto_region 4 with (fail)
    refine start_ (n:=13) (S:=fun w' => w'.cell? ⟨c.g,5,none⟩ = some (.slice (some ⟨c.gt,0,none⟩) c.nt c.kt) ∧ w'.cell? ⟨W.heap.size,1,none⟩ = some (.int .i64 rc) ∧ w'.cell? ⟨c.gt,Z2,none⟩ = some (.int .i64 kn)) (ds:=[]) #[false,false,false,false,false,false,false,false,false,false,false,false,false] (by kernel_rfl) rfl rfl ⟨k5,n1',kz⟩ (fun hHeld => ?_)
    refine pu_ (i:=0) (N:=some 29) 13 1 ?_
    refine pu_ (i:=1) (N:=some 30) 13 3 ?_
    refine pu_ (i:=2) (N:=some 31) 13 7 ?_
    refine pu_ (i:=4) (N:=some 33) 13 23 ?_
    refine pu_ (i:=5) (N:=some 34) 13 55 ?_
    refine pu_ (i:=6) (N:=some 35) 13 119 ?_
    refine pu_ (i:=7) (N:=some 36) 13 247 ?_
    refine ta3_ (i:=3) (N:=some 32) 13 255 hHeld ?_
    refine ta3_ (i:=8) (N:=some 37) 13 511 hHeld ?_
    refine on_ (i:=9) (N:=some 38) 13 1023 (fun K hK => ?_)
    refine goes_ Try.func82 (by kernel_rfl) rfl #[.pointer (some ⟨c.g,0,none⟩),.int .i64 b,.int .i64 v,.int .i64 rc] (by rfl) rfl rfl (by simp only [List.map_toArray,List.map_cons,List.map_nil];rfl) ?_
    with_reducible refine (HAT.out).mono ?_
    rintro e w6 ⟨rfl,rfl⟩
    refine ⟨_,rfl,?_⟩
    refine hK.out _ _ ⟨k5,n1',kz⟩ (fun hHeld => ?_)
    clear hK K
    refine norm_ (a':=?_) ?_ ?_
    rotate_left
    ·show Act.put _ (some 38) _ = _
     simp only [Act.put,sx_,sy_,sz_,i64_w,i32_w]
     rfl
    refine pu_ (i:=10) (N:=some 39) 13 2047 ?_
    refine ta3_ (i:=11) (N:=some 40) 13 4095 hHeld ?_
    refine pu_ (i:=12) (N:=some 10) 13 8191 ?_
    refine done_ (by kernel_rfl) ?_
    go_wp2_with fail
    go_meet
    have hdr:=below_drew (Below.refl W2.heap.size W2)
    exact ⟨rfl,⟨HI2.out.below hdr⟩,⟨HK2.out.trans (KeptS.below hdr)⟩,⟨blk_below HN2.out hdr⟩⟩
   ·have hkv : kn = -1:=by rw [HKN.out];unfold knS;rw [if_neg h15]
    have q15 : decide (rc < 15) = false:=decide_eq_false h15
    have HKV:=mk_ hkv
    clear hkv h15
    rw [q15]
    go_wp2_with fail
    go_meet
    exact ⟨by rw [HKV.out],HI2,HK2,HN2⟩
  case rest =>
   obtain ⟨rfl,HI3,HK3,HN3⟩:=hcut
   have n0 : wc.cell? ⟨W.heap.size,0,none⟩ = some (.int .i64 fr):=(bc_ HN3.out 0).trans rfl
   have n1 : wc.cell? ⟨W.heap.size,1,none⟩ = some (.int .i64 rc):=(bc_ HN3.out 1).trans rfl
   have n2 : wc.cell? ⟨W.heap.size,2,none⟩ = some (.int .i64 po):=(bc_ HN3.out 2).trans rfl
   have hlt8:=hc.lt
   clear HI2 HK2 HN2 HP2 HKN
   by_cases c2 : kn = -2
   ·have q2 : (kn == -2) = true:=by simp [c2]
    have hs:=HS.out
    rw [if_pos c2] at hs
    have HSS:=mk_ (Option.some.inj hs)
    have HGV:=mk_ (x_give hc b v fr rc po rc HI3.out)
    clear hs HS c2
    go_wp2_with fail
    refine HGV.out.mono ?_
    rintro e w6 ⟨rfl,hi6,hk6⟩
    go_wp2_with fail
    (first|go_end0|((try simp only [Exit.inBlock,Exit.then]);refine bodyPost_ret (results_none rfl _ _ _) rfl ?_))
    exact ⟨rfl,by rw [← HSS.out];exact hi6,HK3.out.trans hk6⟩
   ·have q2 : (kn == -2) = false:=beq_eq_false_iff_ne.mpr c2
    have hs:=HS.out
    rw [if_neg c2] at hs
    have HF:=mk_ hs
    clear hs HS c2 n0 n1 n2
    go_wp2_with fail
    go_loopg [11] c.tr.length (fun gg s11 wr => ∃ (kk : Nat) (st2 : SN),kk ≤ c.tr.length ∧ c.tr.length - kk ≤ gg ∧ s11 = .int .i64 (kk : Int) ∧ Aside0 (SSt c wr st2) ∧ Aside0 (KeptS c W wr) ∧ Aside0 (wr.heap[W.heap.size]? = some (.cells #[.int .i64 fr,.int .i64 rc,.int .i64 po] 37 (0,0))) ∧
     Aside0 ((floodS c.cs (comeS c.cs c.tr c.hs c.vs v fr rc f) b by_ kn (c.tr.drop kk) st2).bind (fun st2 => some (if kn < 0 then { st2 with took:=giveS c.hs c.vs b v fr rc (-1) c.hs.length 0 st2.took } else st2)) = some st'))
    case atStart => exact ⟨0,_,Nat.zero_le _,Nat.le_refl _,rfl,HI3,HK3,HN3,⟨by rw [List.drop_zero];exact HF.out⟩⟩
    case round =>
     clear HI3 HK3 HN3 HF
     obtain ⟨kk,st2,hkk,hgg,rfl,HI,HK,HN,HF⟩:=hrel
     have k4 : wr.cell? ⟨c.g,4,none⟩ = some (.slice c.At c.tr.length c.ct):=(bc_ HI.out.bx 4).trans rfl
     by_cases hlt : kk < c.tr.length
     ·have hrr:=rr_ HI.out.tr
      obtain ⟨ad2,ea2,hx2⟩:=Kd.at_int hrr.2.2 (kk : Int) (by omega) (by omega)
      have hctl : c.tr.length ≤ c.ct:=hrr.2.1
      rw [Int.toNat_natCast,rd_get c.tr kk hlt] at hx2
      obtain ⟨hk0,hk1⟩:=hc.kr _ (List.getElem_mem hlt)
      have HF2 : Aside0 ((floodS c.cs (comeS c.cs c.tr c.hs c.vs v fr rc f) b by_ kn (c.tr[kk] :: c.tr.drop (kk + 1)) st2).bind (fun st2 => some (if kn < 0 then { st2 with took:=giveS c.hs c.vs b v fr rc (-1) c.hs.length 0 st2.took } else st2)) = some st'):=⟨by rw [← HF.out,← List.drop_eq_getElem_cons hlt]⟩
      generalize c.tr[kk] = kz at hx2 hk0 hk1 HF2
      obtain ⟨K,rfl⟩ : ∃ K : Nat,kz = (K : Int):=⟨kz.toNat,by omega⟩
      obtain ⟨ad1,ea1,hy0,hy1,hy2⟩:=at_T83 (cb_ hc.r1 HI.out.bw) (K : Int) (by omega) (by omega)
      have hl1:=hc.l1
      have hn20:=hc.ln
      have k1 : wr.cell? ⟨c.g,1,none⟩ = some (.slice c.A1 c.cs.length c.c1):=(bc_ HI.out.bx 1).trans rfl
      rw [ea1] at k1
      rw [ea2] at k4
      rw [Int.toNat_natCast] at hy0 hy1 hy2
      have hfn : floodS c.cs (comeS c.cs c.tr c.hs c.vs v fr rc f) b by_ kn ((K : Int) :: c.tr.drop (kk + 1)) st2 = if (othX (rd_T83 c.cs K) b).getD (-1) < 0 ∨ (K : Int) = by_ ∨ (0 ≤ kn ∧ (K : Int) ≠ kn) then floodS c.cs (comeS c.cs c.tr c.hs c.vs v fr rc f) b by_ kn (c.tr.drop (kk + 1)) st2
       else ((comeS c.cs c.tr c.hs c.vs v fr rc f) ((othX (rd_T83 c.cs K) b).getD (-1)) K { st2 with over:=st2.over.set K true }).bind (floodS c.cs (comeS c.cs c.tr c.hs c.vs v fr rc f) b by_ kn (c.tr.drop (kk + 1))):=rfl
      have hf2:=HF2.out
      rw [hfn] at hf2
      have hot:=fun W => spec_l7Other.calls (rd_T83 c.cs K).f0 (rd_T83 c.cs K).f1 (rd_T83 c.cs K).f2 b _ W (sother_eq _ b)
      have HO:=mk_ hot
      have HFF:=mk_ hf2
      clear HF2 hfn hf2 HF ea2 ea1 hrr
      generalize (othX (rd_T83 c.cs K) b).getD (-1) = o1 at HFF HO hot
      generalize (rd_T83 c.cs K).f0 = z0 at hy0 HO hot
      generalize (rd_T83 c.cs K).f1 = z1 at hy1 HO hot
      generalize (rd_T83 c.cs K).f2 = z2 at hy2 HO hot
      have p1 : ((kk : Int) < (c.tr.length : Int)) = True:=eq_true (by omega)
      have p2 : (kk < c.tr.length) = True:=eq_true hlt
      have hskip : (o1 < 0 ∨ (K : Int) = by_ ∨ (0 ≤ kn ∧ (K : Int) ≠ kn)) → Aside0 ((floodS c.cs (comeS c.cs c.tr c.hs c.vs v fr rc f) b by_ kn (c.tr.drop (kk + 1)) st2).bind (fun st2 => some (if kn < 0 then { st2 with took:=giveS c.hs c.vs b v fr rc (-1) c.hs.length 0 st2.took } else st2)) = some st'):=fun h => ⟨by have:=HFF.out;rw [if_pos h] at this;exact this⟩
      by_cases s1 : o1 < 0
      ·have HF3:=hskip (Or.inl s1)
       have q3 : (o1 < 0) = True:=eq_true s1
       clear s1
       clear hot hskip HFF
       go_wp2_with fail
       refine (HO.out _).mono ?_
       rintro e w3 ⟨rfl,hb3⟩
       have HI4:=mk_ (HI.out.below hb3)
       have HK4:=mk_ (HK.out.trans (KeptS.below hb3))
       have HN4:=mk_ (blk_below HN.out hb3)
       clear hb3 HI HK HN HO k1 k4 hx2 hy0 hy1 hy2
       go_wp2_with fail
       go_roundg (c.tr.length - (kk + 1))
       case measure => omega
       case rel => exact ⟨kk + 1,st2,by omega,by omega,by go_num,HI4,HK4,HN4,HF3⟩
      ·have q3 : (o1 < 0) = False:=eq_false s1
       by_cases s2 : (K : Int) = by_
       ·have HF3:=hskip (Or.inr (Or.inl s2))
        have q4 : ((K : Int) == by_) = true:=by simp [s2]
        clear s2
        clear hot hskip HFF
        go_wp2_with fail
        refine (HO.out _).mono ?_
        rintro e w3 ⟨rfl,hb3⟩
        have HI4:=mk_ (HI.out.below hb3)
        have HK4:=mk_ (HK.out.trans (KeptS.below hb3))
        have HN4:=mk_ (blk_below HN.out hb3)
        clear hb3 HI HK HN HO k1 k4 hx2 hy0 hy1 hy2
        go_wp2_with fail
        go_roundg (c.tr.length - (kk + 1))
        case measure => omega
        case rel => exact ⟨kk + 1,st2,by omega,by omega,by go_num,HI4,HK4,HN4,HF3⟩
       ·have q4 : ((K : Int) == by_) = false:=beq_eq_false_iff_ne.mpr s2
        by_cases s3 : 0 ≤ kn ∧ (K : Int) ≠ kn
        ·have HF3:=hskip (Or.inr (Or.inr s3))
         obtain ⟨s4,s5⟩:=s3
         have q5 : (kn ≥ 0) = True:=eq_true s4
         have q5' : (0 ≤ kn) = True:=eq_true s4
         have q6 : ((K : Int) != kn) = true:=by simp [s5]
         clear s4 s5
         clear hot hskip HFF
         go_wp2_with fail
         refine (HO.out _).mono ?_
         rintro e w3 ⟨rfl,hb3⟩
         have HI4:=mk_ (HI.out.below hb3)
         have HK4:=mk_ (HK.out.trans (KeptS.below hb3))
         have HN4:=mk_ (blk_below HN.out hb3)
         clear hb3 HI HK HN HO k1 k4 hx2 hy0 hy1 hy2
         go_wp2_with fail
         go_roundg (c.tr.length - (kk + 1))
         case measure => omega
         case rel => exact ⟨kk + 1,st2,by omega,by omega,by go_num,HI4,HK4,HN4,HF3⟩
        ·have hff:=HFF.out
         rw [if_neg (fun h => h.elim s1 (fun h => h.elim s2 s3))] at hff
         obtain ⟨st4,hs4,hl4⟩:=Option.bind_eq_some_iff.1 hff
         obtain ⟨st3,hs3,hl3⟩:=Option.bind_eq_some_iff.1 hs4
         have HS3:=mk_ hs3
         have HF3 : Aside0 ((floodS c.cs (comeS c.cs c.tr c.hs c.vs v fr rc f) b by_ kn (c.tr.drop (kk + 1)) st3).bind (fun st2 => some (if kn < 0 then { st2 with took:=giveS c.hs c.vs b v fr rc (-1) c.hs.length 0 st2.took } else st2)) = some st'):=⟨by rw [hl3];exact hl4⟩
         have hkc : kn < 0 ∨ (0 ≤ kn ∧ (K : Int) = kn):=by omega
         clear hot hskip HFF hff hs4 hl4 hs3 hl3 s1 s2 s3
         rcases hkc with h5|⟨h5,h6⟩
         all_goals (
          try have q5 : (kn ≥ 0) = False:=eq_false (by omega)
          try have q5' : (0 ≤ kn) = False:=eq_false (by omega)
          try have q5 : (kn ≥ 0) = True:=eq_true (by omega)
          try have q5' : (0 ≤ kn) = True:=eq_true (by omega)
          try have q6 : ((K : Int) != kn) = false:=by simp [h6]
          clear h5
          try clear h6
          go_wp2_with fail
          refine (HO.out _).mono ?_
          rintro e w3 ⟨rfl,hb3⟩
          have HI4:=mk_ (HI.out.below hb3)
          have HK4:=mk_ (HK.out.trans (KeptS.below hb3))
          have HN4:=mk_ (blk_below HN.out hb3)
          clear hb3 HI HK HN HO k1 k4 hx2 hy0 hy1 hy2
          have k7 : w3.cell? ⟨c.g,7,none⟩ = some (.slice (some ⟨c.go,0,none⟩) c.cs.length c.ko):=(bc_ HI4.out.bx 7).trans rfl
          have hcl:=Kd.R_celln false HI4.out.ov (K : Int) (by omega) (by omega)
          rw [Int.toNat_natCast] at hcl
          obtain ⟨kc,kf⟩:=hcl
          have hcko : c.cs.length ≤ c.ko:=(rr_ HI4.out.ov).2.1
          go_upto_region 14 with (fail)
          obtain ⟨hpt,hpk⟩:=HI4.out.put_o hc K true
          have HI5:=mk_ hpt
          have HK5:=mk_ (HK4.out.trans hpk)
          have hgq:=(blk_types (R_typ HI4.out.ov).choose_spec HN4.out (by decide)).symm
          have HN5:=mk_ (nb_seto HN4.out hgq K (.bool true))
          clear hpt hpk hgq HI4 HK4 HN4 k7 kc kf
          generalize w3.setCell ⟨c.go,K,none⟩ (.bool true) = W5 at HI5 HK5 HN5 ⊢
          have n0 : W5.cell? ⟨W.heap.size,0,none⟩ = some (.int .i64 fr):=(bc_ HN5.out 0).trans rfl
          have n1 : W5.cell? ⟨W.heap.size,1,none⟩ = some (.int .i64 rc):=(bc_ HN5.out 1).trans rfl
          have n2 : W5.cell? ⟨W.heap.size,2,none⟩ = some (.int .i64 po):=(bc_ HN5.out 2).trans rfl
          have hcm:=HIH.out o1 K _ st3 W5 HI5.out HS3.out
          have hqn:=blk_types HN5.out (R_typ HI5.out.tb).choose_spec (by decide)
          have hqk:=blk_types HN5.out (R_typ HI5.out.tk).choose_spec (by decide)
          have hqo:=blk_types HN5.out (R_typ HI5.out.ov).choose_spec (by decide)
          have HCM:=mk_ hcm
          clear hcm
          go_wp2_with fail
          refine HCM.out.mono ?_
          rintro e w6 ⟨rfl,hi6,hk6⟩
          have HI6:=mk_ hi6
          have HK6:=mk_ (HK5.out.trans hk6)
          have HN6:=mk_ ((hk6.2 _ (blk_lt HN5.out) hqn hqk hqo).trans HN5.out)
          clear hi6 hk6 n0 n1 n2 HI5 HK5 HN5 HCM hqn hqk hqo
          go_wp2_with fail
          go_roundg (c.tr.length - (kk + 1))
          case measure => omega
          case rel => exact ⟨kk + 1,st3,by omega,by omega,by go_num,HI6,HK6,HN6,HF3⟩)
     ·have hkt : kk = c.tr.length:=by omega
      have hf3:=HF.out
      rw [hkt,List.drop_length] at hf3
      have hf4 : (if kn < 0 then { st2 with took:=giveS c.hs c.vs b v fr rc (-1) c.hs.length 0 st2.took } else st2) = st':=Option.some.inj hf3
      have p1 : ((kk : Int) < (c.tr.length : Int)) = False:=eq_false (by omega)
      have p2 : (kk < c.tr.length) = False:=eq_false hlt
      have n0 : wr.cell? ⟨W.heap.size,0,none⟩ = some (.int .i64 fr):=(bc_ HN.out 0).trans rfl
      have n1 : wr.cell? ⟨W.heap.size,1,none⟩ = some (.int .i64 rc):=(bc_ HN.out 1).trans rfl
      have n2 : wr.cell? ⟨W.heap.size,2,none⟩ = some (.int .i64 po):=(bc_ HN.out 2).trans rfl
      by_cases c3 : kn < 0
      ·rw [if_pos c3] at hf4
       have q7 : (kn < 0) = True:=eq_true c3
       have HGV:=mk_ (x_give hc b v fr rc po (-1) HI.out)
       have HSS:=mk_ hf4
       clear hf3 hf4 HF hkt c3
       go_wp2_with fail
       refine HGV.out.mono ?_
       rintro e w6 ⟨rfl,hi6,hk6⟩
       go_wp2_with fail
       (first|go_end0|((try simp only [Exit.inBlock,Exit.then]);refine bodyPost_ret (results_none rfl _ _ _) rfl ?_))
       exact ⟨rfl,by rw [← HSS.out];exact hi6,HK.out.trans hk6⟩
      ·rw [if_neg c3] at hf4
       have q7 : (kn < 0) = False:=eq_false c3
       have HSS:=mk_ hf4
       clear hf3 hf4 HF hkt c3
       go_wp2_with fail
       (first|go_end0|((try simp only [Exit.inBlock,Exit.then]);refine bodyPost_ret (results_none rfl _ _ _) rfl ?_))
       exact ⟨rfl,by rw [← HSS.out];exact HI.out,HK.out⟩
def cntP (P : Nat → Prop) [DecidablePred P] : Nat → Nat
 | 0 => 0
 | n + 1 => cntP P n + if P n then 1 else 0
theorem cntP_le (P : Nat → Prop) [DecidablePred P] (n : Nat) : cntP P n ≤ n:=by
 induction n with
 | zero => exact Nat.le_refl _
 | succ n ih => rw [cntP];split <;> omega
theorem cntP_all {P : Nat → Prop} [DecidablePred P] {n : Nat} (h : n ≤ cntP P n) : ∀ b,b < n → P b:=by
 induction n with
 | zero => exact fun b hb => absurd hb (by omega)
 | succ n ih =>
  intro b hb
  rw [cntP] at h
  have:=cntP_le P n
  by_cases c : P n
  ·rw [if_pos c] at h
   by_cases e : b = n
   ·exact e ▸ c
   ·exact ih (by omega) b (by omega)
  ·rw [if_neg c] at h;omega
theorem cntP_mono {P Q : Nat → Prop} [DecidablePred P] [DecidablePred Q] {n : Nat} (h : ∀ b,b < n → P b → Q b) : cntP P n ≤ cntP Q n ∧ ((∃ b,b < n ∧ Q b ∧ ¬ P b) → cntP P n + 1 ≤ cntP Q n):=by
 induction n with
 | zero => exact ⟨Nat.le_refl _,fun ⟨b,hb,_⟩ => absurd hb (by omega)⟩
 | succ n ih =>
  obtain ⟨i1,i2⟩:=ih (fun b hb => h b (by omega))
  rw [cntP,cntP]
  have hn:=h n (by omega)
  by_cases c : P n
  ·rw [if_pos c,if_pos (hn c)]
   refine ⟨by omega,fun ⟨b,hb,hq,hp⟩ => ?_⟩
   have : b ≠ n:=fun e => hp (e ▸ c)
   have:=i2 ⟨b,by omega,hq,hp⟩
   omega
  ·rw [if_neg c]
   refine ⟨by split <;> omega,fun ⟨b,hb,hq,hp⟩ => ?_⟩
   by_cases e : b = n
   ·subst e;rw [if_pos hq];omega
   ·have:=i2 ⟨b,by omega,hq,hp⟩
    split <;> omega
def smC (o : List Int) : Nat → Nat
 | 0 => 0
 | n + 1 => smC o n + (gD o n).toNat
theorem smC_le {x y : List Int} {n : Nat} (h : ∀ b,b < n → 0 ≤ gD x b ∧ gD x b ≤ gD y b) : smC x n ≤ smC y n ∧ (smC y n ≤ smC x n → ∀ b,b < n → gD x b = gD y b):=by
 induction n with
 | zero => exact ⟨Nat.le_refl _,fun _ b hb => absurd hb (by omega)⟩
 | succ n ih =>
  obtain ⟨i1,i2⟩:=ih (fun b hb => h b (by omega))
  have hn:=h n (by omega)
  rw [smC,smC]
  refine ⟨by omega,fun e b hb => ?_⟩
  by_cases eb : b = n
  ·subst eb;omega
  ·exact i2 (by omega) b (by omega)
theorem relC_facts {o : List Int} {N : Nat} (ho : o.length = N) (c : S83) (h0 : 0 ≤ c.f0 ∧ c.f0 < (N : Int) ∧ 0 ≤ c.f1 ∧ c.f1 < (N : Int) ∧ c.f0 ≠ c.f1 ∧ 1 ≤ c.f2 ∧ c.f2 ≤ 99) :
  (∀ x,gD (relC o c) x ≤ gD o x) ∧ (∀ (x : Nat) (q : Int),othX c (x : Int) = some q → gD (relC o c) x ≤ gD o q.toNat + c.f2) ∧
  (∀ D : List Int,(∀ x,gD D x ≤ gD o x) → gD D c.f0.toNat ≤ gD D c.f1.toNat + c.f2 → gD D c.f1.toNat ≤ gD D c.f0.toNat + c.f2 → ∀ x,gD D x ≤ gD (relC o c) x) ∧
  (∀ x,gD (relC o c) x = gD o x ∨ ∃ q,othX c (x : Int) = some q ∧ gD (relC o c) q.toNat + c.f2 ≤ gD (relC o c) x):=by
 obtain ⟨cA,cB,p⟩:=c
 simp only [] at h0
 obtain ⟨g1,g2,g3,g4,g5,g6,g7⟩:=h0
 obtain ⟨a,rfl⟩:=Int.eq_ofNat_of_zero_le g1
 obtain ⟨b,rfl⟩:=Int.eq_ofNat_of_zero_le g3
 have hab : a ≠ b:=by omega
 have hg:=relC_get o a b p (by omega) (by omega) hab
 have m1:=mn_cases (gD o a) (gD o b + p)
 have m2:=mn_cases (gD o b) (mn (gD o a) (gD o b + p) + p)
 have ha:=hg a
 have hb:=hg b
 rw [if_neg hab,if_pos rfl] at ha
 rw [if_pos rfl] at hb
 have hx : ∀ x,x ≠ a → x ≠ b → gD (relC o ⟨(a : Int),(b : Int),p⟩) x = gD o x:=fun x n1 n2 => by rw [hg x,if_neg n2,if_neg n1]
 have ox : ∀ (x : Nat) (q : Int),othX ⟨(a : Int),(b : Int),p⟩ (x : Int) = some q → (x = a ∧ q = (b : Int)) ∨ (x = b ∧ q = (a : Int)):=by
  intro x q e
  unfold othX at e
  simp only [] at e
  split at e
  ·injection e with e;exact Or.inl ⟨by omega,e.symm⟩
  ·split at e
   ·injection e with e;exact Or.inr ⟨by omega,e.symm⟩
   ·cases e
 have oa : othX ⟨(a : Int),(b : Int),p⟩ (a : Int) = some (b : Int):=by unfold othX;simp
 have ob : othX ⟨(a : Int),(b : Int),p⟩ (b : Int) = some (a : Int):=by unfold othX;rw [if_neg (by simp only [];omega),if_pos rfl]
 simp only [Int.toNat_natCast]
 refine ⟨fun x => ?_,fun x q e => ?_,fun D hD h1 h2 x => ?_,fun x => ?_⟩
 ·by_cases n1 : x = a
  ·subst n1;rw [ha];omega
  ·by_cases n2 : x = b
   ·subst n2;rw [hb];omega
   ·rw [hx x n1 n2];omega
 ·rcases ox x q e with ⟨rfl,rfl⟩|⟨rfl,rfl⟩
  ·rw [ha,Int.toNat_natCast];omega
  ·rw [hb,Int.toNat_natCast];omega
 ·by_cases n1 : x = a
  ·subst n1;rw [ha];have:=hD x;have:=hD b;omega
  ·by_cases n2 : x = b
   ·subst n2;rw [hb];have:=hD x;have:=hD a;omega
   ·rw [hx x n1 n2];exact hD x
 ·by_cases n1 : x = a
  ·subst n1
   by_cases e : gD (relC o ⟨(x : Int),(b : Int),p⟩) x = gD o x
   ·exact Or.inl e
   ·exact Or.inr ⟨(b : Int),oa,by rw [Int.toNat_natCast];omega⟩
  ·by_cases n2 : x = b
   ·subst n2
    by_cases e : gD (relC o ⟨(a : Int),(x : Int),p⟩) x = gD o x
    ·exact Or.inl e
    ·exact Or.inr ⟨(a : Int),ob,by rw [Int.toNat_natCast];omega⟩
   ·exact Or.inl (hx x n1 n2)
def WitC (cs : List S83) (s o : List Int) : Prop:=∀ x : Nat,gD o x = gD s x ∨ ∃ c ∈ cs,∃ q,othX c (x : Int) = some q ∧ gD o q.toNat + c.f2 ≤ gD o x
theorem witC_step {N : Nat} {cs : List S83} (hs : SoundC cs N) {s o : List Int} (ho : o.length = N) (h : WitC cs s o) {c : S83} (hc : c ∈ cs) : WitC cs s (relC o c):=by
 obtain ⟨f1,f2,f3,f4⟩:=relC_facts ho c (hs c hc)
 intro x
 rcases f4 x with e|⟨q,e1,e2⟩
 ·rcases h x with w|⟨c',hc',q,w1,w2⟩
  ·exact Or.inl (by rw [e,w])
  ·refine Or.inr ⟨c',hc',q,w1,?_⟩
   have:=f1 q.toNat
   omega
 ·exact Or.inr ⟨c,hc,q,e1,e2⟩
theorem foldC_facts {N : Nat} {cs : List S83} (hs : SoundC cs N) (s : List Int) : ∀ (l : List S83) (o : List Int), (∀ c ∈ l, c ∈ cs) → o.length = N →
  (∀ x,gD (l.foldl relC o) x ≤ gD o x) ∧ (∀ c ∈ l,∀ (x : Nat) (q : Int),othX c (x : Int) = some q → gD (l.foldl relC o) x ≤ gD o q.toNat + c.f2) ∧
  (∀ D : List Int,(∀ x,gD D x ≤ gD o x) → (∀ c ∈ cs,gD D c.f0.toNat ≤ gD D c.f1.toNat + c.f2 ∧ gD D c.f1.toNat ≤ gD D c.f0.toNat + c.f2) → ∀ x,gD D x ≤ gD (l.foldl relC o) x) ∧
  (WitC cs s o → WitC cs s (l.foldl relC o)):=by
 intro l
 induction l with
 | nil => exact fun o _ _ => ⟨fun _ => Int.le_refl _,fun c hc => (by cases hc),fun D h _ => h,id⟩
 | cons c l ih =>
  intro o hl ho
  have hc:=hl c List.mem_cons_self
  obtain ⟨f1,f2,f3,f4⟩:=relC_facts ho c (hs c hc)
  obtain ⟨i1,i2,i3,i4⟩:=ih (relC o c) (fun x hx => hl x (List.mem_cons_of_mem _ hx)) (by rw [relC_len];exact ho)
  rw [List.foldl_cons]
  refine ⟨fun x => Int.le_trans (i1 x) (f1 x),fun c' hc' x q e => ?_,fun D hD hf => i3 D (f3 D hD (hf c hc).1 (hf c hc).2) hf,fun w => i4 (witC_step hs ho w hc)⟩
  rcases List.mem_cons.1 hc' with rfl|hc'
  ·exact Int.le_trans (i1 x) (f2 x q e)
  ·have:=i2 c' hc' x q e
   have:=f1 q.toNat
   omega
theorem gD_ext {x y : List Int} (hl : x.length = y.length) (h : ∀ b,b < x.length → gD x b = gD y b) : x = y:=by
 apply List.ext_getElem hl
 intro i h1 h2
 rw [← gD_get _ _ h1,← gD_get _ _ h2]
 exact h i h1
theorem stable_some {N : Nat} {cs : List S83} (hs : SoundC cs N) (s : List Int) (S : Nat) : ∀ o : List Int,o.length = N → Below30 o → smC o N ≤ S → WitC cs s o → ∃ D : List Int,D.length = N ∧ Below30 D ∧ cs.foldl relC D = D ∧ (∀ x,gD D x ≤ gD o x) ∧ WitC cs s D:=by
 induction S with
 | zero =>
  intro o ho hb hS hw
  obtain ⟨f1,_,_,f4⟩:=foldC_facts hs s cs o (fun _ h => h) ho
  have hb2:=below30_fold cs hs o ho hb
  have hsm:=smC_le (x:=cs.foldl relC o) (y:=o) (n:=N) (fun b _ => ⟨(hb2 b).1,f1 b⟩)
  exact ⟨o,ho,hb,gD_ext (by rw [foldC_len]) (fun b hb => hsm.2 (by omega) b (by rw [foldC_len] at hb;omega)),fun _ => Int.le_refl _,hw⟩
 | succ S ih =>
  intro o ho hb hS hw
  obtain ⟨f1,_,_,f4⟩:=foldC_facts hs s cs o (fun _ h => h) ho
  have hb2:=below30_fold cs hs o ho hb
  have hsm:=smC_le (x:=cs.foldl relC o) (y:=o) (n:=N) (fun b _ => ⟨(hb2 b).1,f1 b⟩)
  by_cases e : smC o N ≤ smC (cs.foldl relC o) N
  ·exact ⟨o,ho,hb,gD_ext (by rw [foldC_len]) (fun b hb => hsm.2 e b (by rw [foldC_len] at hb;omega)),fun _ => Int.le_refl _,hw⟩
  ·obtain ⟨D,d1,d2,d3,d4,d5⟩:=ih (cs.foldl relC o) (by rw [foldC_len];exact ho) hb2 (by omega) (f4 hw)
   exact ⟨D,d1,d2,d3,fun x => Int.le_trans (d4 x) (f1 x),d5⟩
theorem stable_each {N : Nat} {cs : List S83} (hs : SoundC cs N) {D : List Int} (hD : D.length = N) (h : cs.foldl relC D = D) : ∀ c ∈ cs,gD D c.f0.toNat ≤ gD D c.f1.toNat + c.f2 ∧ gD D c.f1.toNat ≤ gD D c.f0.toNat + c.f2:=by
 obtain ⟨_,f2,_,_⟩:=foldC_facts hs [] cs D (fun _ h => h) hD
 rw [h] at f2
 intro c hc
 obtain ⟨g1,g2,g3,g4,g5,g6,g7⟩:=hs c hc
 have e1 : othX c (c.f0.toNat : Int) = some c.f1:=by unfold othX;rw [if_pos (by omega)]
 have e2 : othX c (c.f1.toNat : Int) = some c.f0:=by unfold othX;rw [if_neg (by omega),if_pos (by omega)]
 exact ⟨f2 c hc _ _ e1,f2 c hc _ _ e2⟩
theorem least_by (f : Nat → Int) (P : Nat → Prop) (N : Nat) (hf : ∀ b,b < N → 0 ≤ f b) (S : Nat) : ∀ b,b < N → P b → f b ≤ S → ∃ a,a < N ∧ P a ∧ ∀ q,q < N → P q → f a ≤ f q:=by
 induction S with
 | zero => exact fun b hb hP h0 => ⟨b,hb,hP,fun q hq _ => by have:=hf q hq;omega⟩
 | succ S ih =>
  intro b hb hP hS
  by_cases c : ∃ q,q < N ∧ P q ∧ f q < f b
  ·obtain ⟨q,q1,q2,q3⟩:=c
   exact ih q q1 q2 (by omega)
  ·exact ⟨b,hb,hP,fun q hq hPq => Int.not_lt.1 (fun h => c ⟨q,hq,hPq,h⟩)⟩
theorem costs_tight {N : Nat} (hN : N ≤ 8) {cs : List S83} (hs : SoundC cs N) {b : Nat} (hb : b < N) : (gD (rootsL N cs) b = (b : Int) ∧ gD (costsN N cs) b = 0) ∨ ∃ c ∈ cs,∃ q,othX c (b : Int) = some q ∧ gD (costsN N cs) q.toNat + c.f2 = gD (costsN N cs) b:=by
 have hle:=(costs_same hN hs).2
 have hsl:=startC_len 1073741824 N cs
 have hb30:=below30_start 1073741824 (by omega) (by omega) N cs
 obtain ⟨D,d1,d2,d3,d4,d5⟩:=stable_some hs (startC 1073741824 N cs) _ (startC 1073741824 N cs) hsl hb30 (Nat.le_refl _) (fun x => Or.inl rfl)
 have hfix:=stable_each hs d1 d3
 have hlow : ∀ k x,gD D x ≤ gD (passC cs k (startC 1073741824 N cs)) x:=by
  intro k
  induction k with
  | zero => exact d4
  | succ k ih => exact (foldC_facts hs [] cs _ (fun _ h => h) (by rw [passC_len];exact hsl)).2.2.1 D ih hfix
 have hup : ∀ k x,gD (passC cs k (startC 1073741824 N cs)) x ≤ gD (startC 1073741824 N cs) x:=by
  intro k
  induction k with
  | zero => exact fun x => Int.le_refl _
  | succ k ih => exact fun x => Int.le_trans ((foldC_facts hs [] cs (passC cs k (startC 1073741824 N cs)) (fun _ h => h) (by rw [passC_len];exact hsl)).1 x) (ih x)
 have hex : ∀ x,x < N → gD D x = gD (startC 1073741824 N cs) x ∨ ∃ c ∈ cs,∃ q,othX c (x : Int) = some q ∧ gD D q.toNat + c.f2 = gD D x:=by
  intro x hx
  rcases d5 x with w|⟨c,hc,q,w1,w2⟩
  ·exact Or.inl w
  ·refine Or.inr ⟨c,hc,q,w1,?_⟩
   have hq:=(foldC_facts hs [] cs D (fun _ h => h) d1).2.1 c hc x q w1
   rw [d3] at hq
   omega
 have hcount : ∀ k,(∀ x,x < N → gD (passC cs k (startC 1073741824 N cs)) x = gD D x) ∨ k ≤ cntP (fun x => gD (passC cs k (startC 1073741824 N cs)) x = gD D x) N:=by
  intro k
  induction k with
  | zero => exact Or.inr (Nat.zero_le _)
  | succ k ih =>
   have hpl : (passC cs k (startC 1073741824 N cs)).length = N:=by rw [passC_len];exact hsl
   obtain ⟨f1,f2,_,_⟩:=foldC_facts hs [] cs (passC cs k (startC 1073741824 N cs)) (fun _ h => h) hpl
   have hkeep : ∀ x,gD (passC cs k (startC 1073741824 N cs)) x = gD D x → gD (passC cs (k + 1) (startC 1073741824 N cs)) x = gD D x:=by
    intro x e
    have:=hlow (k + 1) x
    have h2 : gD (passC cs (k + 1) (startC 1073741824 N cs)) x ≤ gD (passC cs k (startC 1073741824 N cs)) x:=f1 x
    omega
   by_cases hall : ∀ x,x < N → gD (passC cs k (startC 1073741824 N cs)) x = gD D x
   ·exact Or.inl (fun x hx => hkeep x (hall x hx))
   ·rcases ih with ih|ih
    ·exact absurd ih hall
    ·right
     obtain ⟨x,hx⟩:=Classical.not_forall.1 hall
     obtain ⟨hx1,hx2⟩:=Classical.not_imp.1 hx
     obtain ⟨a,a1,a2,a3⟩:=least_by (gD D) (fun x => ¬ gD (passC cs k (startC 1073741824 N cs)) x = gD D x) N (fun y _ => (d2 y).1) (gD D x).toNat x hx1 hx2 (by have:=(d2 x).1;omega)
     have hnew : gD (passC cs (k + 1) (startC 1073741824 N cs)) a = gD D a:=by
      rcases hex a a1 with w|⟨c,hc,q,w1,w2⟩
      ·exact absurd (by have:=hup k a;have:=hlow k a;omega) a2
      ·obtain ⟨q0,q1,q2⟩:=oth_in (hs c hc) w1
       have c1:=(hs c hc).2.2.2.2.2.1
       have hq : gD (passC cs k (startC 1073741824 N cs)) q.toNat = gD D q.toNat:=by
        refine Classical.byContradiction fun hne => ?_
        have:=a3 q.toNat (by omega) hne
        omega
       have h2 : gD (passC cs (k + 1) (startC 1073741824 N cs)) a ≤ gD (passC cs k (startC 1073741824 N cs)) q.toNat + c.f2:=f2 c hc a q w1
       have:=hlow (k + 1) a
       omega
     have:=(cntP_mono (P:=fun x => gD (passC cs k (startC 1073741824 N cs)) x = gD D x) (Q:=fun x => gD (passC cs (k + 1) (startC 1073741824 N cs)) x = gD D x) (n:=N) (fun y _ h => hkeep y h)).2 ⟨a,a1,hnew,a2⟩
     omega
 have heq : ∀ x,x < N → gD (costsN N cs) x = gD D x:=by
  rcases hcount N with h|h
  ·exact h
  ·exact cntP_all h
 rcases hex b hb with w|⟨c,hc,q,w1,w2⟩
 ·left
  have h1:=hle b hb
  have h2:=heq b hb
  rw [startC_get _ _ _ _ hb] at w
  split at w
  ·rename_i hr;exact ⟨hr,by omega⟩
  ·omega
 ·obtain ⟨q0,q1,q2⟩:=oth_in (hs c hc) w1
  exact Or.inr ⟨c,hc,q,w1,by rw [heq b hb,heq q.toNat (by omega)];exact w2⟩
theorem upS_some (cs : List S83) (o : List Int) (b : Int) (d : Nat) : ∀ (i : Nat) (best at_ : Int),(0 ≤ best ∨ ∃ j : Nat,i ≤ j ∧ j < i + d ∧ ∃ q,othX (rd_T83 cs (j : Int)) b = some q ∧ rd o q + (rd_T83 cs (j : Int)).f2 = rd o b) → 0 ≤ (upS cs o b d i best at_).1:=by
 induction d with
 | zero =>
  intro i best at_ h
  rcases h with h|⟨j,h1,h2,_⟩
  ·exact h
  ·omega
 | succ d ih =>
  intro i best at_ h
  rw [upS]
  rcases h with h|⟨j,h1,h2,q,h3,h4⟩
  ·split
   ·split
    ·exact ih _ _ _ (Or.inl (by omega))
    ·exact ih _ _ _ (Or.inl h)
   ·exact ih _ _ _ (Or.inl h)
  ·by_cases e : i = j
   ·subst e
    rw [h3]
    simp only []
    by_cases c : rd o q + (rd_T83 cs (i : Int)).f2 = rd o b ∧ (best < 0 ∨ q < at_)
    ·rw [if_pos c];exact ih _ _ _ (Or.inl (by omega))
    ·rw [if_neg c]
     exact ih _ _ _ (Or.inl (Int.not_lt.1 (fun hb => c ⟨h4,Or.inl hb⟩)))
   ·have hr : ∀ (best at_ : Int),0 ≤ (upS cs o b d (i + 1) best at_).1:=fun best at_ => ih _ _ _ (Or.inr ⟨j,by omega,by omega,q,h3,h4⟩)
    split
    ·split
     ·exact hr _ _
     ·exact hr _ _
    ·exact hr _ _
theorem up_root {N : Nat} (hN : N ≤ 8) {cs : List S83} (hs : SoundC cs N) {b : Nat} (hb : b < N) (hn : (upX cs (costsN N cs) (b : Int)).1 < 0) : gD (rootsL N cs) b = (b : Int):=by
 rcases costs_tight hN hs hb with h|⟨c,hc,q,h1,h2⟩
 ·exact h.1
 ·exfalso
  obtain ⟨q0,q1,q2⟩:=oth_in (hs c hc) h1
  obtain ⟨j,hj,hjc⟩:=List.getElem_of_mem hc
  have hr : rd_T83 cs (j : Int) = c:=by rw [rdCab_get cs j hj,hjc]
  have:=upS_some cs (costsN N cs) (b : Int) cs.length 0 (-1) (-1) (Or.inr ⟨j,by omega,by omega,q,by rw [hr];exact h1,by rw [hr,rd_gD];rw [show q = (q.toNat : Int) by omega,rd_gD];exact h2⟩)
  have e : (upX cs (costsN N cs) (b : Int)).1 = (upS cs (costsN N cs) (b : Int) cs.length 0 (-1) (-1)).1:=rfl
  omega
inductive Ch (u : Nat → Int) (nx : Nat → Nat) : Nat → List Nat → Nat → Prop
 | nil (a : Nat) : Ch u nx a [] a
 | cons {a : Nat} {w : List Nat} {r : Nat} : 0 ≤ u a → Ch u nx (nx a) w r → Ch u nx a (a :: w) r
structure UpOk (N : Nat) (u : Nat → Int) (nx : Nat → Nat) (c : Nat → Int) : Prop where
 pos : ∀ b,b < N → 0 ≤ c b
 up : ∀ b,b < N → 0 ≤ u b → nx b < N ∧ c (nx b) < c b
theorem ch_some {N : Nat} {u : Nat → Int} {nx : Nat → Nat} {c : Nat → Int} (H : UpOk N u nx c) (S : Nat) : ∀ a,a < N → c a < S → ∃ w r,Ch u nx a w r ∧ u r < 0 ∧ r < N:=by
 induction S with
 | zero => intro a ha h;have:=H.pos a ha;omega
 | succ S ih =>
  intro a ha h
  by_cases e : 0 ≤ u a
  ·obtain ⟨h1,h2⟩:=H.up a ha e
   obtain ⟨w,r,q1,q2,q3⟩:=ih (nx a) h1 (by omega)
   exact ⟨a :: w,r,Ch.cons e q1,q2,q3⟩
  ·exact ⟨[],a,Ch.nil a,by omega,ha⟩
theorem ch_facts {N : Nat} {u : Nat → Int} {nx : Nat → Nat} {c : Nat → Int} (H : UpOk N u nx c) {a : Nat} {w : List Nat} {r : Nat} (h : Ch u nx a w r) : a < N → r < N ∧ c r ≤ c a ∧ (∀ x ∈ w,x < N ∧ 0 ≤ u x ∧ c x ≤ c a ∧ c r < c x) ∧ w.Nodup:=by
 induction h with
 | nil a => exact fun ha => ⟨ha,Int.le_refl _,fun x hx => (by cases hx),List.Pairwise.nil⟩
 | @cons a w r h0 hc ih =>
  intro ha
  obtain ⟨h1,h2⟩:=H.up a ha h0
  obtain ⟨i1,i2,i3,i4⟩:=ih h1
  refine ⟨i1,by omega,fun x hx => ?_,List.Pairwise.cons (fun x hx e => ?_) i4⟩
  ·rcases List.mem_cons.1 hx with rfl|hx
   ·exact ⟨ha,h0,Int.le_refl _,by omega⟩
   ·have:=i3 x hx;omega
  ·have:=i3 x hx;rw [← e] at this;omega
theorem ch_det {u : Nat → Int} {nx : Nat → Nat} {a : Nat} {w w2 : List Nat} {r r2 : Nat} (h : Ch u nx a w r) (h2 : Ch u nx a w2 r2) (hr : u r < 0) (hr2 : u r2 < 0) : w = w2 ∧ r = r2:=by
 induction h generalizing w2 with
 | nil a =>
  cases h2 with
  | nil _ => exact ⟨rfl,rfl⟩
  | cons h0 _ => omega
 | cons h0 _ ih =>
  cases h2 with
  | nil _ => omega
  | cons _ h3 => obtain ⟨rfl,e⟩:=ih h3 hr;exact ⟨rfl,e⟩
end Go.Proofs.Ytblcnbnphjnhdaa.PAll
