/- Proved here: contracts of functions of the given program, or lemmas on them, for the laws of this seat. Written by xprint.py, a program of this session, on the ground of the kit's print; parts by hand: wip/x/ext. -/
import Derived.Test.YtdpnloibbimblaaPAllx0
import Derived.Test.YtdpnloibbimblaaPAllx1
import Derived.Test.YtdpnloibbimblaaPAllx3
import Derived.Test.YtdpnloibbimblaaPAllx5
namespace Go.Proofs.Ytdpnloibbimblaa.PAll
open Go.RowKit Go.Proofs.YtdpnloibbimblaaW.PrintWords Go.Proofs.YtdpnloibbimblaaW.PrintLast Go.Proofs.YtdpnloibbimblaaW.PrintMore
attribute [local go_sem] max2_int min2_int max_two min_two max_three min_three max_four min_four   -- for this text's walks alone
set_option linter.unusedVariables false
set_option linter.unusedSimpArgs false

/-! ### laws_toIntS: function 15 -/
def laws_toIntS.l0 : Nat → List Int → List Int → Int → Option (List Int)
 | 0,_,_,_ => none
 | k + 1,x0,x3,x4 => if x4 < (x0.length : Int) then (if 0 ≤ x4 then (if x4 < (x3.length : Int) then (laws_toIntS.l0 k x0 (x3.set (x4 : Int).toNat (rd x0 x4)) (wrap64 (x4 + 1))) else (none)) else (none)) else (some x3)
def laws_toIntS.f (k : Nat) (l0 : List Int) : Option (List Int):=if 0 ≤ (l0.length : Int) then (if ((l0.length : Int) : Int).toNat ≤ 35184372088832 then (laws_toIntS.l0 k l0 (List.replicate ((l0.length : Int) : Int).toNat 0) 0) else (none)) else (none)
theorem laws_toIntS.mono_l : ∀ k,(∀ y0 y1 y2,LeO (laws_toIntS.l0 k y0 y1 y2) (laws_toIntS.l0 (k + 1) y0 y1 y2))
 | 0 => fun _ _ _ r h => by simp [laws_toIntS.l0] at h
 | k + 1 => by
  have ih0:=laws_toIntS.mono_l k
  ·intro y0 y1 y2
   unfold laws_toIntS.l0
   repeat' first
   | (with_reducible exact ih0 _ _ _)
   | (with_reducible exact LeO.refl _)
   | (with_reducible exact LeO.none _)
   | (with_reducible refine LeO.ite ?_ ?_)
   | (with_reducible refine LeO.bind ?_ (fun _ => ?_))
   | exact ih0 _ _ _
   | exact LeO.none _
   | refine LeO.ite ?_ ?_
   | refine LeO.bind ?_ (fun _ => ?_)
theorem laws_toIntS.mono : ∀ a0 k,LeO (laws_toIntS.f k a0) (laws_toIntS.f (k + 1) a0):=by
 intro a0 k
 have ih0:=laws_toIntS.mono_l k
 unfold laws_toIntS.f
 repeat' first
   | (with_reducible exact ih0 _ _ _)
   | (with_reducible exact LeO.refl _)
   | (with_reducible exact LeO.none _)
   | (with_reducible refine LeO.ite ?_ ?_)
   | (with_reducible refine LeO.bind ?_ (fun _ => ?_))
   | exact ih0 _ _ _
   | exact LeO.none _
   | refine LeO.ite ?_ ?_
   | refine LeO.bind ?_ (fun _ => ?_)
set_option maxHeartbeats 8000000 in
set_option maxRecDepth 100000 in
theorem laws_toIntS.calls (k : Nat) (A0 : Option Addr) (c0 : Nat) (l0 : List Int) (r : List Int) (w : World) (hr0 : Kd.C (Kd.int .i64) w A0 l0.length l0) (hc0 : l0.length ≤ c0) (h : laws_toIntS.f k l0 = some r) :
  Calls Try.prog 15 #[.slice A0 l0.length c0] w fun e w' => ∃ v0_ : Value,e = .returned (v0_) ∧ Kd.R (Kd.int .i64) 3 w' w.heap.size (fun _ => True) v0_ r ∧ Below w.heap.size w w':=by
 have HR0:=mk_ hr0
 have HC0:=mk_ hc0
 clear hr0 hc0
 have HB:=mk_ (Below.refl w.heap.size w)
 have H : (if 0 ≤ (l0.length : Int) then (if ((l0.length : Int) : Int).toNat ≤ 35184372088832 then (laws_toIntS.l0 k l0 (List.replicate ((l0.length : Int) : Int).toNat 0) 0) else (none)) else (none)) = some r:=h
 clear h
 by_cases c2 : 0 ≤ (l0.length : Int)
 ·rw [if_pos c2] at H
  have c2b0:=eq_true c2
  have c2b1 : decide (0 ≤ (l0.length : Int)) = true:=decide_eq_true c2
  clear c2
  by_cases c3 : ((l0.length : Int) : Int).toNat ≤ 35184372088832
  ·rw [if_pos c3] at H
   have c3b0:=eq_true c3
   have c3b1 : decide (((l0.length : Int) : Int).toNat ≤ 35184372088832) = true:=decide_eq_true c3
   clear c3
   obtain ⟨y421,hy421⟩ : ∃ y_ : List Int,y_ = (List.replicate ((l0.length : Int) : Int).toNat 0):=⟨_,rfl⟩
   replace H : (laws_toIntS.l0 k l0 y421 0) = some r:=by first|(rw [hy421];with_reducible exact H)|(have H2_:=(Option.bind_some _ _).symm.trans H;rw [hy421];with_reducible exact H2_)|(have H2_:=(Option.bind_some _ _).symm.trans H;with_reducible exact H2_)|with_reducible exact H|(rw [hy421];exact H)|exact H
   have Ny421:=mk_ hy421
   clear hy421
   have H':=mk_ H
   clear H
   go_enter Try.func15,Try.ntmps15
   go_wp2_with (first|((with_reducible refine gate_dst (N:=7) rfl ?_);refine Kd.R_make (Kd.int .i64) _ 3 rfl (N:=7) rfl 24 _ _ rfl (l0.length : Int) rfl rfl Try.underlying24 (.int .i64 0) 8 info3 rfl (by decide) (by omega) 0 (ok:=fun _ => True) (okp:=fun _ => True) rfl (fun _ hk => hk) trivial (od_ qa_) (Nat.le_trans (Nat.mul_le_mul_right _ (od_ qa_ : (l0.length : Int).toNat ≤ 35184372088832)) (by omega)) (Below.refl _ _) (Nat.le_refl _) ?_;intro v422 w4 ho5 hb hg_ hnew_;clear hg_ hnew_;(first|rw [← Ny421.out] at ho5|(simp only [Int.reduceToNat] at ho5;rw [← Ny421.out] at ho5));have n0_:=mk_ (Kd.R_lower ho5 (bz_ (qb_ HB)));have n1_:=mk_ (st_ (qb_ HB) hb);clear HB;have HO423:=n0_;have HB:=n1_;clear n0_ n1_ hb ho5))
   go_loopg [4] k (fun kq v4 w' => ∃ (x3_1 : List Int) (x4_1 : Int),v4 = .int .i64 x4_1 ∧ Aside0 (laws_toIntS.l0 kq l0 x3_1 x4_1 = some r) ∧ Aside0 (kq ≤ k) ∧ Aside0 (Kd.R (Kd.int .i64) 3 w' w.heap.size (fun _ => True) v422 x3_1) ∧ Aside0 (Below w.heap.size w w'))
   case atStart => exact ⟨(y421),(0),qf_,H',⟨Nat.le_refl _⟩,⟨qr_ HO423⟩,⟨u0_ HB⟩⟩
   case round =>
    clear H'
    try clear c1
    try clear c2
    try clear c2b0
    try clear c2b1
    try clear p2
    try clear c3
    try clear c3b0
    try clear c3b1
    obtain ⟨x3_1,x4_1,rfl,HA,HK1,HO_3,HB⟩:=hrel
    cases gk with
    | zero => exact absurd HA.out (by simp [laws_toIntS.l0])
    | succ k1 =>
     have H:=HA.out
     clear HA
     simp only [laws_toIntS.l0] at H
     by_cases c6 : x4_1 < (l0.length : Int)
     ·rw [if_pos c6] at H
      have c6b0 : decide (x4_1 < (l0.length : Int)) = true:=decide_eq_true c6
      clear c6
      by_cases c7 : 0 ≤ x4_1
      ·rw [if_pos c7] at H
       have c7b0 : decide (0 ≤ x4_1) = true:=decide_eq_true c7
       clear c7
       by_cases c8 : x4_1 < (x3_1.length : Int)
       ·rw [if_pos c8] at H
        have c8b0 : decide (x4_1 < (x3_1.length : Int)) = true:=decide_eq_true c8
        clear c8
        obtain ⟨y425,hy425⟩ : ∃ y_ : List Int,y_ = (x3_1.set (x4_1 : Int).toNat (rd l0 x4_1)):=⟨_,rfl⟩
        replace H : (laws_toIntS.l0 k1 l0 y425 (wrap64 (x4_1 + 1))) = some r:=by first|(rw [hy425];with_reducible exact H)|(have H2_:=(Option.bind_some _ _).symm.trans H;rw [hy425];with_reducible exact H2_)|(have H2_:=(Option.bind_some _ _).symm.trans H;with_reducible exact H2_)|with_reducible exact H|(rw [hy425];exact H)|exact H
        have Ny425:=mk_ hy425
        clear hy425
        have H':=mk_ H
        clear H
        have p424 : 0 ≤ (x4_1 : Int):=od_ qa_
        have q424 : x4_1 < (l0.length : Int):=od_ qa_
        obtain ⟨ad424,e424,hx424_0⟩:=Kd.at_int HR0.out x4_1 p424 q424
        cases e424
        replace hx424_0:=(HB.out.cell (wl_ w _ hx424_0)).trans hx424_0
        replace p424:=eq_true p424
        replace q424:=eq_true q424
        have p9 : 0 ≤ (x4_1 : Int):=od_ qa_
        have q9 : (x4_1 : Int) < ((x3_1.length : Int) : Int):=od_ qa_
        obtain ⟨go9,co9,eo9,gb9,gl9,cl9,HG9⟩:=Kd.R_form HO_3.out (by omega)
        (first|cases eo9|(injection eo9 with ea_ en_ ec_;(first|subst ea_|(injection ea_ with ea_;subst ea_));subst ec_;clear en_))
        have GB9:=mk_ gb9
        have GG9:=mk_ HG9
        clear gb9 gl9 HG9
        obtain ⟨hx9_0,hf9_0⟩:=Kd.R_celln 0 HO_3.out (x4_1 : Int) p9 q9
        replace p9:=eq_true p9
        replace q9:=eq_true q9
        have HP10:=Kd.R_putg HO_3.out (x4_1 : Int) (rd l0 x4_1)
        go_wp2_with (first|((with_reducible refine gate_store (t:=3) (p:=20) rfl ?_);refine store_event (t:=3) (p:=20) (v:=?vo_w11) (w1:=(wr.setCell ⟨go9,(x4_1 : Int).toNat,none⟩ (.int .i64 (rd l0 x4_1)))) ?hg ?ho ?hn ?hr ?_;(case ho => rfl);(case hg => rfl);(case hn => rfl);(case hr => first|(go_simp;done)|(go_simp;rfl));intro w11 hw;have hg : wr.grownBy w11 (some go9):=(by rw [hw];exact HP10.2);have hp_ : Kd.R (Kd.int .i64) 3 w11 w.heap.size (fun _ => True) (.slice (some ⟨go9,0,none⟩) x3_1.length co9) y425:=(by rw [hw,Ny425.out];exact HP10.1);clear HP10;have n0_:=mk_ (hp_);have n1_:=mk_ ((by rw [hw];exact bs_ (HB.out) GB9.out : Below w.heap.size w w11));clear HO_3 HB;have HO_3:=n0_;have HB:=n1_;clear n0_ n1_ hg hw hp_))
        go_roundg k1
        case measure => have:=HK1.out;omega
        case rel => exact ⟨(y425),(wrap64 (x4_1 + 1)),qf_,H',⟨by have:=HK1.out;omega⟩,⟨qr_ HO_3⟩,⟨u0_ HB⟩⟩
       ·rw [if_neg c8] at H
        exact absurd H (by simp)
      ·rw [if_neg c7] at H
       exact absurd H (by simp)
     ·rw [if_neg c6] at H
      have c6b0 : decide (x4_1 < (l0.length : Int)) = false:=decide_eq_false c6
      clear c6
      obtain rfl:=Option.some.inj H
      go_wp2
      go_ret
      exact ⟨_,qe_,qr_ HO_3,u0_ HB⟩
  ·rw [if_neg c3] at H
   exact absurd H (by simp)
 ·rw [if_neg c2] at H
  exact absurd H (by simp)

/-! ### laws_eqByteS: function 40 -/
def laws_eqByteS.l0 : Nat → List Int → List Int → Int → Option (Bool)
 | 0,_,_,_ => none
 | k + 1,x0,x1,x5 => if x5 < (x0.length : Int) then (if 0 ≤ x5 then (if x5 < (x1.length : Int) then (if (rd x0 x5) = (rd x1 x5) then (laws_eqByteS.l0 k x0 x1 (wrap64 (x5 + 1))) else (some false)) else (none)) else (none)) else (some true)
def laws_eqByteS.f (k : Nat) (l0 : List Int) (l1 : List Int) : Option (Bool):=if (l0.length : Int) = (l1.length : Int) then (laws_eqByteS.l0 k l0 l1 0) else (some false)
theorem laws_eqByteS.mono_l : ∀ k,(∀ y0 y1 y2,LeO (laws_eqByteS.l0 k y0 y1 y2) (laws_eqByteS.l0 (k + 1) y0 y1 y2))
 | 0 => fun _ _ _ r h => by simp [laws_eqByteS.l0] at h
 | k + 1 => by
  have ih0:=laws_eqByteS.mono_l k
  ·intro y0 y1 y2
   unfold laws_eqByteS.l0
   repeat' first
   | (with_reducible exact ih0 _ _ _)
   | (with_reducible exact LeO.refl _)
   | (with_reducible exact LeO.none _)
   | (with_reducible refine LeO.ite ?_ ?_)
   | (with_reducible refine LeO.bind ?_ (fun _ => ?_))
   | exact ih0 _ _ _
   | exact LeO.none _
   | refine LeO.ite ?_ ?_
   | refine LeO.bind ?_ (fun _ => ?_)
theorem laws_eqByteS.mono : ∀ a0 a1 k,LeO (laws_eqByteS.f k a0 a1) (laws_eqByteS.f (k + 1) a0 a1):=by
 intro a0 a1 k
 have ih0:=laws_eqByteS.mono_l k
 unfold laws_eqByteS.f
 repeat' first
   | (with_reducible exact ih0 _ _ _)
   | (with_reducible exact LeO.refl _)
   | (with_reducible exact LeO.none _)
   | (with_reducible refine LeO.ite ?_ ?_)
   | (with_reducible refine LeO.bind ?_ (fun _ => ?_))
   | exact ih0 _ _ _
   | exact LeO.none _
   | refine LeO.ite ?_ ?_
   | refine LeO.bind ?_ (fun _ => ?_)
set_option maxHeartbeats 8000000 in
set_option maxRecDepth 100000 in
theorem laws_eqByteS.calls (k : Nat) (A0 : Option Addr) (c0 : Nat) (l0 : List Int) (A1 : Option Addr) (c1 : Nat) (l1 : List Int) (r : Bool) (w : World) (hr0 : Kd.C (Kd.int .u8) w A0 l0.length l0) (hc0 : l0.length ≤ c0) (hr1 : Kd.C (Kd.int .u8) w A1 l1.length l1) (hc1 : l1.length ≤ c1) (h : laws_eqByteS.f k l0 l1 = some r) :
  Calls Try.prog 40 #[.slice A0 l0.length c0,.slice A1 l1.length c1] w fun e w' => e = .returned (.bool r) ∧ Drawn0 w w':=by
 have HR0:=mk_ hr0
 have HC0:=mk_ hc0
 clear hr0 hc0
 have HR1:=mk_ hr1
 have HC1:=mk_ hc1
 clear hr1 hc1
 have H : (if (l0.length : Int) = (l1.length : Int) then (laws_eqByteS.l0 k l0 l1 0) else (some false)) = some r:=h
 clear h
 by_cases c3 : (l0.length : Int) = (l1.length : Int)
 ·rw [if_pos c3] at H
  have c3b0 : ((l0.length : Int) == (l1.length : Int)) = true:=beq_iff_eq.mpr c3
  have c3b1 : ((l0.length : Int) != (l1.length : Int)) = false:=bne_eq_false_iff_eq.mpr c3
  have c3b2 : (l0.length == l1.length) = true:=by first|simpa using c3|(simp at c3 ⊢;omega)
  clear c3
  have H':=mk_ H
  clear H
  go_enter Try.func40,Try.ntmps40
  go_wp2
  repeat (go_quiet (fail);try go_wp2)
  go_loopg [5] k (fun kq v5 w' => ∃ (x5_1 : Int),v5 = .int .i64 x5_1 ∧ Aside0 (laws_eqByteS.l0 kq l0 l1 x5_1 = some r) ∧ Aside0 (kq ≤ k) ∧ Drawn0 w w')
  case atStart => exact ⟨(0),qf_,H',⟨Nat.le_refl _⟩,by repeat (first|exact Drawn0.refl _|apply Drawn0.step)⟩
  case round =>
   clear H'
   try clear c1
   try clear p2
   try clear c3
   try clear c3b0
   try clear c3b1
   try clear c3b2
   obtain ⟨x5_1,rfl,HA,HK1,⟨m1,rfl⟩⟩:=hrel
   cases gk with
   | zero => exact absurd HA.out (by simp [laws_eqByteS.l0])
   | succ k1 =>
    have H:=HA.out
    clear HA
    simp only [laws_eqByteS.l0] at H
    by_cases c4 : x5_1 < (l0.length : Int)
    ·rw [if_pos c4] at H
     have c4b0 : decide (x5_1 < (l0.length : Int)) = true:=decide_eq_true c4
     clear c4
     by_cases c5 : 0 ≤ x5_1
     ·rw [if_pos c5] at H
      have c5b0 : decide (0 ≤ x5_1) = true:=decide_eq_true c5
      clear c5
      by_cases c6 : x5_1 < (l1.length : Int)
      ·rw [if_pos c6] at H
       have c6b0 : decide (x5_1 < (l1.length : Int)) = true:=decide_eq_true c6
       clear c6
       by_cases c7 : (rd l0 x5_1) = (rd l1 x5_1)
       ·rw [if_pos c7] at H
        have c7b0 : ((rd l0 x5_1) == (rd l1 x5_1)) = true:=beq_iff_eq.mpr c7
        have c7b1 : ((rd l0 x5_1) != (rd l1 x5_1)) = false:=bne_eq_false_iff_eq.mpr c7
        clear c7
        have H':=mk_ H
        clear H
        have p426 : 0 ≤ (x5_1 : Int):=od_ qa_
        have q426 : x5_1 < (l0.length : Int):=od_ qa_
        obtain ⟨ad426,e426,hx426_0⟩:=Kd.at_int HR0.out x5_1 p426 q426
        cases e426
        replace p426:=eq_true p426
        replace q426:=eq_true q426
        have p427 : 0 ≤ (x5_1 : Int):=od_ qa_
        have q427 : x5_1 < (l1.length : Int):=od_ qa_
        obtain ⟨ad427,e427,hx427_0⟩:=Kd.at_int HR1.out x5_1 p427 q427
        cases e427
        replace p427:=eq_true p427
        replace q427:=eq_true q427
        go_wp2
        repeat (go_quiet (fail);try go_wp2)
        go_roundg k1
        case measure => have:=HK1.out;omega
        case rel => exact ⟨(wrap64 (x5_1 + 1)),qf_,H',⟨by have:=HK1.out;omega⟩,by repeat (first|exact Drawn0.refl _|apply Drawn0.step)⟩
       ·rw [if_neg c7] at H
        have c7b0 : ((rd l0 x5_1) == (rd l1 x5_1)) = false:=beq_eq_false_iff_ne.mpr c7
        have c7b1 : ((rd l0 x5_1) != (rd l1 x5_1)) = true:=bne_iff_ne.mpr c7
        obtain rfl:=Option.some.inj H
        have p426 : 0 ≤ (x5_1 : Int):=od_ qa_
        have q426 : x5_1 < (l0.length : Int):=od_ qa_
        obtain ⟨ad426,e426,hx426_0⟩:=Kd.at_int HR0.out x5_1 p426 q426
        cases e426
        replace p426:=eq_true p426
        replace q426:=eq_true q426
        have p427 : 0 ≤ (x5_1 : Int):=od_ qa_
        have q427 : x5_1 < (l1.length : Int):=od_ qa_
        obtain ⟨ad427,e427,hx427_0⟩:=Kd.at_int HR1.out x5_1 p427 q427
        cases e427
        replace p427:=eq_true p427
        replace q427:=eq_true q427
        go_wp2
        repeat (go_quiet (fail);try go_wp2)
        go_ret
        exact ⟨by first|rfl|(simp;done)|(simp [*];done),by repeat (first|exact Drawn0.refl _|apply Drawn0.step)⟩
      ·rw [if_neg c6] at H
       exact absurd H (by simp)
     ·rw [if_neg c5] at H
      exact absurd H (by simp)
    ·rw [if_neg c4] at H
     have c4b0 : decide (x5_1 < (l0.length : Int)) = false:=decide_eq_false c4
     clear c4
     obtain rfl:=Option.some.inj H
     go_wp2
     repeat (go_quiet (fail);try go_wp2)
     go_ret
     exact ⟨by first|rfl|(simp;done)|(simp [*];done),by repeat (first|exact Drawn0.refl _|apply Drawn0.step)⟩
 ·rw [if_neg c3] at H
  have c3b0 : ((l0.length : Int) == (l1.length : Int)) = false:=beq_eq_false_iff_ne.mpr c3
  have c3b1 : ((l0.length : Int) != (l1.length : Int)) = true:=bne_iff_ne.mpr c3
  have c3b2 : (l0.length == l1.length) = false:=by first|simpa using c3|(simp at c3 ⊢;omega)
  obtain rfl:=Option.some.inj H
  go_enter Try.func40,Try.ntmps40
  go_wp2
  repeat (go_quiet (fail);try go_wp2)
  go_ret
  exact ⟨by first|rfl|(simp;done)|(simp [*];done),by repeat (first|exact Drawn0.refl _|apply Drawn0.step)⟩

/-! ### laws_eqByteSS: function 17 -/
def laws_eqByteSS.l0 : Nat → List (List Int) → List (List Int) → Int → Option (Bool)
 | 0,_,_,_ => none
 | k + 1,x0,x1,x5 => if x5 < (x0.length : Int) then (if 0 ≤ x5 then (if x5 < (x1.length : Int) then ((laws_eqByteS.f k (rd_L4 x0 x5) (rd_L4 x1 x5)).bind fun t430 => (if t430 = true then (laws_eqByteSS.l0 k x0 x1 (wrap64 (x5 + 1))) else (some false))) else (none)) else (none)) else (some true)
def laws_eqByteSS.f (k : Nat) (l0 : List (List Int)) (l1 : List (List Int)) : Option (Bool):=if (l0.length : Int) = (l1.length : Int) then (laws_eqByteSS.l0 k l0 l1 0) else (some false)
theorem laws_eqByteSS.mono_l : ∀ k,(∀ y0 y1 y2,LeO (laws_eqByteSS.l0 k y0 y1 y2) (laws_eqByteSS.l0 (k + 1) y0 y1 y2))
 | 0 => fun _ _ _ r h => by simp [laws_eqByteSS.l0] at h
 | k + 1 => by
  have ih0:=laws_eqByteSS.mono_l k
  ·intro y0 y1 y2
   unfold laws_eqByteSS.l0
   repeat' first
   | (with_reducible exact ih0 _ _ _)
   | (with_reducible exact laws_eqByteS.mono _ _ _)
   | (with_reducible exact LeO.refl _)
   | (with_reducible exact LeO.none _)
   | (with_reducible refine LeO.ite ?_ ?_)
   | (with_reducible refine LeO.bind ?_ (fun _ => ?_))
   | exact ih0 _ _ _
   | exact laws_eqByteS.mono _ _ _
   | exact LeO.none _
   | refine LeO.ite ?_ ?_
   | refine LeO.bind ?_ (fun _ => ?_)
theorem laws_eqByteSS.mono : ∀ a0 a1 k,LeO (laws_eqByteSS.f k a0 a1) (laws_eqByteSS.f (k + 1) a0 a1):=by
 intro a0 a1 k
 have ih0:=laws_eqByteSS.mono_l k
 unfold laws_eqByteSS.f
 repeat' first
   | (with_reducible exact ih0 _ _ _)
   | (with_reducible exact laws_eqByteS.mono _ _ _)
   | (with_reducible exact LeO.refl _)
   | (with_reducible exact LeO.none _)
   | (with_reducible refine LeO.ite ?_ ?_)
   | (with_reducible refine LeO.bind ?_ (fun _ => ?_))
   | exact ih0 _ _ _
   | exact laws_eqByteS.mono _ _ _
   | exact LeO.none _
   | refine LeO.ite ?_ ?_
   | refine LeO.bind ?_ (fun _ => ?_)
set_option maxHeartbeats 8000000 in
set_option maxRecDepth 100000 in
theorem laws_eqByteSS.calls (k : Nat) (A0 : Option Addr) (c0 : Nat) (l0 : List (List Int)) (A1 : Option Addr) (c1 : Nat) (l1 : List (List Int)) (r : Bool) (w : World) (hr0 : Kd.C (Kd.slice 5 (Kd.int .u8)) w A0 l0.length l0) (hc0 : l0.length ≤ c0) (hr1 : Kd.C (Kd.slice 5 (Kd.int .u8)) w A1 l1.length l1) (hc1 : l1.length ≤ c1) (h : laws_eqByteSS.f k l0 l1 = some r) :
  Calls Try.prog 17 #[.slice A0 l0.length c0,.slice A1 l1.length c1] w fun e w' => e = .returned (.bool r) ∧ Drawn0 w w':=by
 have HR0:=mk_ hr0
 have HC0:=mk_ hc0
 clear hr0 hc0
 have HR1:=mk_ hr1
 have HC1:=mk_ hc1
 clear hr1 hc1
 have H : (if (l0.length : Int) = (l1.length : Int) then (laws_eqByteSS.l0 k l0 l1 0) else (some false)) = some r:=h
 clear h
 by_cases c3 : (l0.length : Int) = (l1.length : Int)
 ·rw [if_pos c3] at H
  have c3b0 : ((l0.length : Int) == (l1.length : Int)) = true:=beq_iff_eq.mpr c3
  have c3b1 : ((l0.length : Int) != (l1.length : Int)) = false:=bne_eq_false_iff_eq.mpr c3
  have c3b2 : (l0.length == l1.length) = true:=by first|simpa using c3|(simp at c3 ⊢;omega)
  clear c3
  have H':=mk_ H
  clear H
  go_enter Try.func17,Try.ntmps17
  go_wp2
  repeat (go_quiet (fail);try go_wp2)
  go_loopg [5] k (fun kq v5 w' => ∃ (x5_1 : Int),v5 = .int .i64 x5_1 ∧ Aside0 (laws_eqByteSS.l0 kq l0 l1 x5_1 = some r) ∧ Aside0 (kq ≤ k) ∧ Drawn0 w w')
  case atStart => exact ⟨(0),qf_,H',⟨Nat.le_refl _⟩,by repeat (first|exact Drawn0.refl _|apply Drawn0.step)⟩
  case round =>
   clear H'
   try clear c1
   try clear p2
   try clear c3
   try clear c3b0
   try clear c3b1
   try clear c3b2
   obtain ⟨x5_1,rfl,HA,HK1,⟨m1,rfl⟩⟩:=hrel
   cases gk with
   | zero => exact absurd HA.out (by simp [laws_eqByteSS.l0])
   | succ k1 =>
    have H:=HA.out
    clear HA
    simp only [laws_eqByteSS.l0] at H
    by_cases c4 : x5_1 < (l0.length : Int)
    ·rw [if_pos c4] at H
     have c4b0 : decide (x5_1 < (l0.length : Int)) = true:=decide_eq_true c4
     clear c4
     by_cases c5 : 0 ≤ x5_1
     ·rw [if_pos c5] at H
      have c5b0 : decide (0 ≤ x5_1) = true:=decide_eq_true c5
      clear c5
      by_cases c6 : x5_1 < (l1.length : Int)
      ·rw [if_pos c6] at H
       have c6b0 : decide (x5_1 < (l1.length : Int)) = true:=decide_eq_true c6
       clear c6
       replace H:=Option.bind_eq_some_iff.mp H
       obtain ⟨t430,A70,H⟩:=H
       replace H : (if t430 = true then (laws_eqByteSS.l0 k1 l0 l1 (wrap64 (x5_1 + 1))) else (some false)) = some r:=H
       have A7:=mk_ A70
       clear A70
       by_cases c8 : t430 = true
       ·subst c8
        have H1 : (laws_eqByteSS.l0 k1 l0 l1 (wrap64 (x5_1 + 1))) = some r:=by rw [if_pos rfl] at H;exact H
        clear H
        have H:=H1
        clear H1
        have H':=mk_ H
        clear H
        have p428 : 0 ≤ (x5_1 : Int):=od_ qa_
        have q428 : x5_1 < (l0.length : Int):=od_ qa_
        obtain ⟨ad428,A428_0,c428_0,e428,hx428_0,hl428_0,hi428_0⟩:=at_L4 HR0.out x5_1 p428 q428
        cases e428
        have HR428_0:=mk_ hi428_0
        have HC428_0:=mk_ hl428_0
        clear hi428_0 hl428_0
        replace p428:=eq_true p428
        replace q428:=eq_true q428
        have p429 : 0 ≤ (x5_1 : Int):=od_ qa_
        have q429 : x5_1 < (l1.length : Int):=od_ qa_
        obtain ⟨ad429,A429_0,c429_0,e429,hx429_0,hl429_0,hi429_0⟩:=at_L4 HR1.out x5_1 p429 q429
        cases e429
        have HR429_0:=mk_ hi429_0
        have HC429_0:=mk_ hl429_0
        clear hi429_0 hl429_0
        replace p429:=eq_true p429
        replace q429:=eq_true q429
        go_wp2_with (first|(go_at_call 40;(with_reducible refine (laws_eqByteS.calls k1 _ _ (rd_L4 l0 x5_1) _ _ (rd_L4 l1 x5_1) true _ ?side1 ?side2 ?side3 ?side4 A7.out).mono ?_);(case side1 => repeat (first|exact HR428_0.out|(with_reducible refine ca_ ?_ _)|(with_reducible refine cn_ ?_ _)|(with_reducible refine cd_ ?_)));(case side2 => exact HC428_0.out);(case side3 => repeat (first|exact HR429_0.out|(with_reducible refine ca_ ?_ _)|(with_reducible refine cn_ ?_ _)|(with_reducible refine cd_ ?_)));(case side4 => exact HC429_0.out);rintro e w' ⟨rfl,⟨nd,rfl⟩⟩;(try first|exact ⟨rfl,_,World.drewN_drewN _ _ _⟩|exact ⟨rfl,_,Eq.trans (World.drewN_drewN _ _ _) (congrArg (World.drewN _) (Nat.add_assoc _ _ _))⟩)))
        repeat (go_quiet (first|(go_at_call 40;(with_reducible refine (laws_eqByteS.calls k1 _ _ (rd_L4 l0 x5_1) _ _ (rd_L4 l1 x5_1) true _ ?side1 ?side2 ?side3 ?side4 A7.out).mono ?_);(case side1 => repeat (first|exact HR428_0.out|(with_reducible refine ca_ ?_ _)|(with_reducible refine cn_ ?_ _)|(with_reducible refine cd_ ?_)));(case side2 => exact HC428_0.out);(case side3 => repeat (first|exact HR429_0.out|(with_reducible refine ca_ ?_ _)|(with_reducible refine cn_ ?_ _)|(with_reducible refine cd_ ?_)));(case side4 => exact HC429_0.out);rintro e w' ⟨rfl,⟨nd,rfl⟩⟩;(try first|exact ⟨rfl,_,World.drewN_drewN _ _ _⟩|exact ⟨rfl,_,Eq.trans (World.drewN_drewN _ _ _) (congrArg (World.drewN _) (Nat.add_assoc _ _ _))⟩)));try go_wp2_with (first|(go_at_call 40;(with_reducible refine (laws_eqByteS.calls k1 _ _ (rd_L4 l0 x5_1) _ _ (rd_L4 l1 x5_1) true _ ?side1 ?side2 ?side3 ?side4 A7.out).mono ?_);(case side1 => repeat (first|exact HR428_0.out|(with_reducible refine ca_ ?_ _)|(with_reducible refine cn_ ?_ _)|(with_reducible refine cd_ ?_)));(case side2 => exact HC428_0.out);(case side3 => repeat (first|exact HR429_0.out|(with_reducible refine ca_ ?_ _)|(with_reducible refine cn_ ?_ _)|(with_reducible refine cd_ ?_)));(case side4 => exact HC429_0.out);rintro e w' ⟨rfl,⟨nd,rfl⟩⟩;(try first|exact ⟨rfl,_,World.drewN_drewN _ _ _⟩|exact ⟨rfl,_,Eq.trans (World.drewN_drewN _ _ _) (congrArg (World.drewN _) (Nat.add_assoc _ _ _))⟩))))
        go_roundg k1
        case measure => have:=HK1.out;omega
        case rel => exact ⟨(wrap64 (x5_1 + 1)),qf_,H',⟨by have:=HK1.out;omega⟩,by repeat (first|exact Drawn0.refl _|apply Drawn0.step)⟩
       ·replace c8:=Bool.eq_false_iff.mpr c8
        subst c8
        have H1 : (some false) = some r:=by rw [if_neg (show ¬ (false = true) by decide)] at H;exact H
        clear H
        have H:=H1
        clear H1
        obtain rfl:=Option.some.inj H
        have p428 : 0 ≤ (x5_1 : Int):=od_ qa_
        have q428 : x5_1 < (l0.length : Int):=od_ qa_
        obtain ⟨ad428,A428_0,c428_0,e428,hx428_0,hl428_0,hi428_0⟩:=at_L4 HR0.out x5_1 p428 q428
        cases e428
        have HR428_0:=mk_ hi428_0
        have HC428_0:=mk_ hl428_0
        clear hi428_0 hl428_0
        replace p428:=eq_true p428
        replace q428:=eq_true q428
        have p429 : 0 ≤ (x5_1 : Int):=od_ qa_
        have q429 : x5_1 < (l1.length : Int):=od_ qa_
        obtain ⟨ad429,A429_0,c429_0,e429,hx429_0,hl429_0,hi429_0⟩:=at_L4 HR1.out x5_1 p429 q429
        cases e429
        have HR429_0:=mk_ hi429_0
        have HC429_0:=mk_ hl429_0
        clear hi429_0 hl429_0
        replace p429:=eq_true p429
        replace q429:=eq_true q429
        go_wp2_with (first|(go_at_call 40;(with_reducible refine (laws_eqByteS.calls k1 _ _ (rd_L4 l0 x5_1) _ _ (rd_L4 l1 x5_1) false _ ?side1 ?side2 ?side3 ?side4 A7.out).mono ?_);(case side1 => repeat (first|exact HR428_0.out|(with_reducible refine ca_ ?_ _)|(with_reducible refine cn_ ?_ _)|(with_reducible refine cd_ ?_)));(case side2 => exact HC428_0.out);(case side3 => repeat (first|exact HR429_0.out|(with_reducible refine ca_ ?_ _)|(with_reducible refine cn_ ?_ _)|(with_reducible refine cd_ ?_)));(case side4 => exact HC429_0.out);rintro e w' ⟨rfl,⟨nd,rfl⟩⟩;(try first|exact ⟨rfl,_,World.drewN_drewN _ _ _⟩|exact ⟨rfl,_,Eq.trans (World.drewN_drewN _ _ _) (congrArg (World.drewN _) (Nat.add_assoc _ _ _))⟩)))
        repeat (go_quiet (first|(go_at_call 40;(with_reducible refine (laws_eqByteS.calls k1 _ _ (rd_L4 l0 x5_1) _ _ (rd_L4 l1 x5_1) false _ ?side1 ?side2 ?side3 ?side4 A7.out).mono ?_);(case side1 => repeat (first|exact HR428_0.out|(with_reducible refine ca_ ?_ _)|(with_reducible refine cn_ ?_ _)|(with_reducible refine cd_ ?_)));(case side2 => exact HC428_0.out);(case side3 => repeat (first|exact HR429_0.out|(with_reducible refine ca_ ?_ _)|(with_reducible refine cn_ ?_ _)|(with_reducible refine cd_ ?_)));(case side4 => exact HC429_0.out);rintro e w' ⟨rfl,⟨nd,rfl⟩⟩;(try first|exact ⟨rfl,_,World.drewN_drewN _ _ _⟩|exact ⟨rfl,_,Eq.trans (World.drewN_drewN _ _ _) (congrArg (World.drewN _) (Nat.add_assoc _ _ _))⟩)));try go_wp2_with (first|(go_at_call 40;(with_reducible refine (laws_eqByteS.calls k1 _ _ (rd_L4 l0 x5_1) _ _ (rd_L4 l1 x5_1) false _ ?side1 ?side2 ?side3 ?side4 A7.out).mono ?_);(case side1 => repeat (first|exact HR428_0.out|(with_reducible refine ca_ ?_ _)|(with_reducible refine cn_ ?_ _)|(with_reducible refine cd_ ?_)));(case side2 => exact HC428_0.out);(case side3 => repeat (first|exact HR429_0.out|(with_reducible refine ca_ ?_ _)|(with_reducible refine cn_ ?_ _)|(with_reducible refine cd_ ?_)));(case side4 => exact HC429_0.out);rintro e w' ⟨rfl,⟨nd,rfl⟩⟩;(try first|exact ⟨rfl,_,World.drewN_drewN _ _ _⟩|exact ⟨rfl,_,Eq.trans (World.drewN_drewN _ _ _) (congrArg (World.drewN _) (Nat.add_assoc _ _ _))⟩))))
        go_ret
        exact ⟨by first|rfl|(simp;done)|(simp [*];done),by repeat (first|exact Drawn0.refl _|apply Drawn0.step)⟩
      ·rw [if_neg c6] at H
       exact absurd H (by simp)
     ·rw [if_neg c5] at H
      exact absurd H (by simp)
    ·rw [if_neg c4] at H
     have c4b0 : decide (x5_1 < (l0.length : Int)) = false:=decide_eq_false c4
     clear c4
     obtain rfl:=Option.some.inj H
     go_wp2
     repeat (go_quiet (fail);try go_wp2)
     go_ret
     exact ⟨by first|rfl|(simp;done)|(simp [*];done),by repeat (first|exact Drawn0.refl _|apply Drawn0.step)⟩
 ·rw [if_neg c3] at H
  have c3b0 : ((l0.length : Int) == (l1.length : Int)) = false:=beq_eq_false_iff_ne.mpr c3
  have c3b1 : ((l0.length : Int) != (l1.length : Int)) = true:=bne_iff_ne.mpr c3
  have c3b2 : (l0.length == l1.length) = false:=by first|simpa using c3|(simp at c3 ⊢;omega)
  obtain rfl:=Option.some.inj H
  go_enter Try.func17,Try.ntmps17
  go_wp2
  repeat (go_quiet (fail);try go_wp2)
  go_ret
  exact ⟨by first|rfl|(simp;done)|(simp [*];done),by repeat (first|exact Drawn0.refl _|apply Drawn0.step)⟩

/-! ### laws_eqIntS: function 18 -/
def laws_eqIntS.l0 : Nat → List Int → List Int → Int → Option (Bool)
 | 0,_,_,_ => none
 | k + 1,x0,x1,x5 => if x5 < (x0.length : Int) then (if 0 ≤ x5 then (if x5 < (x1.length : Int) then (if (rd x0 x5) = (rd x1 x5) then (laws_eqIntS.l0 k x0 x1 (wrap64 (x5 + 1))) else (some false)) else (none)) else (none)) else (some true)
def laws_eqIntS.f (k : Nat) (l0 : List Int) (l1 : List Int) : Option (Bool):=if (l0.length : Int) = (l1.length : Int) then (laws_eqIntS.l0 k l0 l1 0) else (some false)
theorem laws_eqIntS.mono_l : ∀ k,(∀ y0 y1 y2,LeO (laws_eqIntS.l0 k y0 y1 y2) (laws_eqIntS.l0 (k + 1) y0 y1 y2))
 | 0 => fun _ _ _ r h => by simp [laws_eqIntS.l0] at h
 | k + 1 => by
  have ih0:=laws_eqIntS.mono_l k
  ·intro y0 y1 y2
   unfold laws_eqIntS.l0
   repeat' first
   | (with_reducible exact ih0 _ _ _)
   | (with_reducible exact LeO.refl _)
   | (with_reducible exact LeO.none _)
   | (with_reducible refine LeO.ite ?_ ?_)
   | (with_reducible refine LeO.bind ?_ (fun _ => ?_))
   | exact ih0 _ _ _
   | exact LeO.none _
   | refine LeO.ite ?_ ?_
   | refine LeO.bind ?_ (fun _ => ?_)
theorem laws_eqIntS.mono : ∀ a0 a1 k,LeO (laws_eqIntS.f k a0 a1) (laws_eqIntS.f (k + 1) a0 a1):=by
 intro a0 a1 k
 have ih0:=laws_eqIntS.mono_l k
 unfold laws_eqIntS.f
 repeat' first
   | (with_reducible exact ih0 _ _ _)
   | (with_reducible exact LeO.refl _)
   | (with_reducible exact LeO.none _)
   | (with_reducible refine LeO.ite ?_ ?_)
   | (with_reducible refine LeO.bind ?_ (fun _ => ?_))
   | exact ih0 _ _ _
   | exact LeO.none _
   | refine LeO.ite ?_ ?_
   | refine LeO.bind ?_ (fun _ => ?_)
set_option maxHeartbeats 8000000 in
set_option maxRecDepth 100000 in
theorem laws_eqIntS.calls (k : Nat) (A0 : Option Addr) (c0 : Nat) (l0 : List Int) (A1 : Option Addr) (c1 : Nat) (l1 : List Int) (r : Bool) (w : World) (hr0 : Kd.C (Kd.int .i64) w A0 l0.length l0) (hc0 : l0.length ≤ c0) (hr1 : Kd.C (Kd.int .i64) w A1 l1.length l1) (hc1 : l1.length ≤ c1) (h : laws_eqIntS.f k l0 l1 = some r) :
  Calls Try.prog 18 #[.slice A0 l0.length c0,.slice A1 l1.length c1] w fun e w' => e = .returned (.bool r) ∧ Drawn0 w w':=by
 have HR0:=mk_ hr0
 have HC0:=mk_ hc0
 clear hr0 hc0
 have HR1:=mk_ hr1
 have HC1:=mk_ hc1
 clear hr1 hc1
 have H : (if (l0.length : Int) = (l1.length : Int) then (laws_eqIntS.l0 k l0 l1 0) else (some false)) = some r:=h
 clear h
 by_cases c3 : (l0.length : Int) = (l1.length : Int)
 ·rw [if_pos c3] at H
  have c3b0 : ((l0.length : Int) == (l1.length : Int)) = true:=beq_iff_eq.mpr c3
  have c3b1 : ((l0.length : Int) != (l1.length : Int)) = false:=bne_eq_false_iff_eq.mpr c3
  have c3b2 : (l0.length == l1.length) = true:=by first|simpa using c3|(simp at c3 ⊢;omega)
  clear c3
  have H':=mk_ H
  clear H
  go_enter Try.func18,Try.ntmps18
  go_wp2
  repeat (go_quiet (fail);try go_wp2)
  go_loopg [5] k (fun kq v5 w' => ∃ (x5_1 : Int),v5 = .int .i64 x5_1 ∧ Aside0 (laws_eqIntS.l0 kq l0 l1 x5_1 = some r) ∧ Aside0 (kq ≤ k) ∧ Drawn0 w w')
  case atStart => exact ⟨(0),qf_,H',⟨Nat.le_refl _⟩,by repeat (first|exact Drawn0.refl _|apply Drawn0.step)⟩
  case round =>
   clear H'
   try clear c1
   try clear p2
   try clear c3
   try clear c3b0
   try clear c3b1
   try clear c3b2
   obtain ⟨x5_1,rfl,HA,HK1,⟨m1,rfl⟩⟩:=hrel
   cases gk with
   | zero => exact absurd HA.out (by simp [laws_eqIntS.l0])
   | succ k1 =>
    have H:=HA.out
    clear HA
    simp only [laws_eqIntS.l0] at H
    by_cases c4 : x5_1 < (l0.length : Int)
    ·rw [if_pos c4] at H
     have c4b0 : decide (x5_1 < (l0.length : Int)) = true:=decide_eq_true c4
     clear c4
     by_cases c5 : 0 ≤ x5_1
     ·rw [if_pos c5] at H
      have c5b0 : decide (0 ≤ x5_1) = true:=decide_eq_true c5
      clear c5
      by_cases c6 : x5_1 < (l1.length : Int)
      ·rw [if_pos c6] at H
       have c6b0 : decide (x5_1 < (l1.length : Int)) = true:=decide_eq_true c6
       clear c6
       by_cases c7 : (rd l0 x5_1) = (rd l1 x5_1)
       ·rw [if_pos c7] at H
        have c7b0 : ((rd l0 x5_1) == (rd l1 x5_1)) = true:=beq_iff_eq.mpr c7
        have c7b1 : ((rd l0 x5_1) != (rd l1 x5_1)) = false:=bne_eq_false_iff_eq.mpr c7
        clear c7
        have H':=mk_ H
        clear H
        have p431 : 0 ≤ (x5_1 : Int):=od_ qa_
        have q431 : x5_1 < (l0.length : Int):=od_ qa_
        obtain ⟨ad431,e431,hx431_0⟩:=Kd.at_int HR0.out x5_1 p431 q431
        cases e431
        replace p431:=eq_true p431
        replace q431:=eq_true q431
        have p432 : 0 ≤ (x5_1 : Int):=od_ qa_
        have q432 : x5_1 < (l1.length : Int):=od_ qa_
        obtain ⟨ad432,e432,hx432_0⟩:=Kd.at_int HR1.out x5_1 p432 q432
        cases e432
        replace p432:=eq_true p432
        replace q432:=eq_true q432
        go_wp2
        repeat (go_quiet (fail);try go_wp2)
        go_roundg k1
        case measure => have:=HK1.out;omega
        case rel => exact ⟨(wrap64 (x5_1 + 1)),qf_,H',⟨by have:=HK1.out;omega⟩,by repeat (first|exact Drawn0.refl _|apply Drawn0.step)⟩
       ·rw [if_neg c7] at H
        have c7b0 : ((rd l0 x5_1) == (rd l1 x5_1)) = false:=beq_eq_false_iff_ne.mpr c7
        have c7b1 : ((rd l0 x5_1) != (rd l1 x5_1)) = true:=bne_iff_ne.mpr c7
        obtain rfl:=Option.some.inj H
        have p431 : 0 ≤ (x5_1 : Int):=od_ qa_
        have q431 : x5_1 < (l0.length : Int):=od_ qa_
        obtain ⟨ad431,e431,hx431_0⟩:=Kd.at_int HR0.out x5_1 p431 q431
        cases e431
        replace p431:=eq_true p431
        replace q431:=eq_true q431
        have p432 : 0 ≤ (x5_1 : Int):=od_ qa_
        have q432 : x5_1 < (l1.length : Int):=od_ qa_
        obtain ⟨ad432,e432,hx432_0⟩:=Kd.at_int HR1.out x5_1 p432 q432
        cases e432
        replace p432:=eq_true p432
        replace q432:=eq_true q432
        go_wp2
        repeat (go_quiet (fail);try go_wp2)
        go_ret
        exact ⟨by first|rfl|(simp;done)|(simp [*];done),by repeat (first|exact Drawn0.refl _|apply Drawn0.step)⟩
      ·rw [if_neg c6] at H
       exact absurd H (by simp)
     ·rw [if_neg c5] at H
      exact absurd H (by simp)
    ·rw [if_neg c4] at H
     have c4b0 : decide (x5_1 < (l0.length : Int)) = false:=decide_eq_false c4
     clear c4
     obtain rfl:=Option.some.inj H
     go_wp2
     repeat (go_quiet (fail);try go_wp2)
     go_ret
     exact ⟨by first|rfl|(simp;done)|(simp [*];done),by repeat (first|exact Drawn0.refl _|apply Drawn0.step)⟩
 ·rw [if_neg c3] at H
  have c3b0 : ((l0.length : Int) == (l1.length : Int)) = false:=beq_eq_false_iff_ne.mpr c3
  have c3b1 : ((l0.length : Int) != (l1.length : Int)) = true:=bne_iff_ne.mpr c3
  have c3b2 : (l0.length == l1.length) = false:=by first|simpa using c3|(simp at c3 ⊢;omega)
  obtain rfl:=Option.some.inj H
  go_enter Try.func18,Try.ntmps18
  go_wp2
  repeat (go_quiet (fail);try go_wp2)
  go_ret
  exact ⟨by first|rfl|(simp;done)|(simp [*];done),by repeat (first|exact Drawn0.refl _|apply Drawn0.step)⟩

/-! ### laws_eqLinkRun: function 24 -/
def laws_eqLinkRun.f (k : Nat) (l0_0 : List (List Int)) (a0_1 : Int) (a0_2 : Int) (a0_3 : Bool) (l1_0 : List (List Int)) (a1_1 : Int) (a1_2 : Int) (a1_3 : Bool) : Option (Bool):=(laws_eqByteSS.f k l0_0 l1_0).bind fun t435 => (if t435 = true then (if a0_1 = a1_1 then (if a0_2 = a1_2 then (if (a0_3 != a1_3) = true then (some false) else (some true)) else (some false)) else (some false)) else (some false))
theorem laws_eqLinkRun.mono : ∀ a0 a1 a2 a3 a4 a5 a6 a7 k,LeO (laws_eqLinkRun.f k a0 a1 a2 a3 a4 a5 a6 a7) (laws_eqLinkRun.f (k + 1) a0 a1 a2 a3 a4 a5 a6 a7):=by
 intro a0 a1 a2 a3 a4 a5 a6 a7 k
 unfold laws_eqLinkRun.f
 repeat' first
   | (with_reducible exact laws_eqByteSS.mono _ _ _)
   | (with_reducible exact LeO.refl _)
   | (with_reducible exact LeO.none _)
   | (with_reducible refine LeO.ite ?_ ?_)
   | (with_reducible refine LeO.bind ?_ (fun _ => ?_))
   | exact laws_eqByteSS.mono _ _ _
   | exact LeO.none _
   | refine LeO.ite ?_ ?_
   | refine LeO.bind ?_ (fun _ => ?_)
set_option maxHeartbeats 8000000 in
set_option maxRecDepth 100000 in
theorem laws_eqLinkRun.calls (k : Nat) (A0_0 : Option Addr) (c0_0 : Nat) (l0_0 : List (List Int)) (a0_1 : Int) (a0_2 : Int) (a0_3 : Bool) (A1_0 : Option Addr) (c1_0 : Nat) (l1_0 : List (List Int)) (a1_1 : Int) (a1_2 : Int) (a1_3 : Bool) (r : Bool) (w : World) (hr0_0 : Kd.C (Kd.slice 5 (Kd.int .u8)) w A0_0 l0_0.length l0_0) (hc0_0 : l0_0.length ≤ c0_0) (hr1_0 : Kd.C (Kd.slice 5 (Kd.int .u8)) w A1_0 l1_0.length l1_0) (hc1_0 : l1_0.length ≤ c1_0) (h : laws_eqLinkRun.f k l0_0 a0_1 a0_2 a0_3 l1_0 a1_1 a1_2 a1_3 = some r) :
  Calls Try.prog 24 #[.agg #[.slice A0_0 l0_0.length c0_0,.int .i64 a0_1,.int .i64 a0_2,.bool a0_3],.agg #[.slice A1_0 l1_0.length c1_0,.int .i64 a1_1,.int .i64 a1_2,.bool a1_3]] w fun e w' => e = .returned (.bool r) ∧ Below w.heap.size w w':=by
 have hu28:=Try.underlying28
 have HR0_0:=mk_ hr0_0
 have HC0_0:=mk_ hc0_0
 clear hr0_0 hc0_0
 have HR1_0:=mk_ hr1_0
 have HC1_0:=mk_ hc1_0
 clear hr1_0 hc1_0
 have HB:=mk_ (Below.refl w.heap.size w)
 have H : ((laws_eqByteSS.f k l0_0 l1_0).bind fun t435 => (if t435 = true then (if a0_1 = a1_1 then (if a0_2 = a1_2 then (if (a0_3 != a1_3) = true then (some false) else (some true)) else (some false)) else (some false)) else (some false))) = some r:=h
 clear h
 replace H:=Option.bind_eq_some_iff.mp H
 obtain ⟨t435,A30,H⟩:=H
 replace H : (if t435 = true then (if a0_1 = a1_1 then (if a0_2 = a1_2 then (if (a0_3 != a1_3) = true then (some false) else (some true)) else (some false)) else (some false)) else (some false)) = some r:=H
 have A3:=mk_ A30
 clear A30
 by_cases c4 : t435 = true
 ·subst c4
  have H1 : (if a0_1 = a1_1 then (if a0_2 = a1_2 then (if (a0_3 != a1_3) = true then (some false) else (some true)) else (some false)) else (some false)) = some r:=by rw [if_pos rfl] at H;exact H
  clear H
  have H:=H1
  clear H1
  by_cases c5 : a0_1 = a1_1
  ·rw [if_pos c5] at H
   have c5b0 : (a0_1 == a1_1) = true:=beq_iff_eq.mpr c5
   have c5b1 : (a0_1 != a1_1) = false:=bne_eq_false_iff_eq.mpr c5
   clear c5
   by_cases c6 : a0_2 = a1_2
   ·rw [if_pos c6] at H
    have c6b0 : (a0_2 == a1_2) = true:=beq_iff_eq.mpr c6
    have c6b1 : (a0_2 != a1_2) = false:=bne_eq_false_iff_eq.mpr c6
    clear c6
    by_cases c7 : (a0_3 != a1_3) = true
    ·rw [if_pos c7] at H
     have c7b0 : (a0_3 != a1_3) = true:=c7
     (try (have c7b1 : decide (a0_3 = a1_3) = false:=by simpa using c7))
     (try (have c7b2 : (a0_3 == a1_3) = false:=by simpa using c7))
     (try (have c7b3 : ¬ (a0_3 = a1_3):=by simpa using c7))
     clear c7
     obtain rfl:=Option.some.inj H
     go_enter Try.func24,Try.ntmps24
     go_wp2_with (first|((with_reducible refine gate_dst (N:=2) rfl ?_);refine box_event ?hg (N:=2) ?hd (cs:=#[.slice A0_0 l0_0.length c0_0,.int .i64 a0_1,.int .i64 a0_2,.bool a0_3]) (t:=28) ?hr ?_;(case hd => rfl);(case hg => rfl);(case hr => first|(go_simp;done)|(go_simp;rfl));intro gb433 hg w8 hbox hb;have n0_:=mk_ (st_ (qb_ HB) hb);have n1_:=mk_ (hbox);have n2_:=mk_ ((by rw [hg];exact (bz_ (qb_ HB)) : w.heap.size ≤ gb433));have n3_:=mk_ ((by rw [hg];exact (bz_ (qb_ HB)) : w.heap.size ≤ gb433));clear HB;have HB:=n0_;have BK433:=n1_;have GW433:=n2_;have GE433:=n3_;clear n0_ n1_ n2_ n3_ hb hbox hg)|((with_reducible refine gate_dst (N:=3) rfl ?_);refine box_event ?hg (N:=3) ?hd (cs:=#[.slice A1_0 l1_0.length c1_0,.int .i64 a1_1,.int .i64 a1_2,.bool a1_3]) (t:=28) ?hr ?_;(case hd => rfl);(case hg => rfl);(case hr => first|(go_simp;done)|(go_simp;rfl));intro gb434 hg w9 hbox hb;have n0_:=mk_ (blk_below (g:=gb433) (o:=.cells #[.slice A0_0 l0_0.length c0_0,.int .i64 a0_1,.int .i64 a0_2,.bool a0_3] 28 (0,0)) (qk_ BK433) hb);have n1_:=mk_ (st_ (qc_ HB GE433) hb);have n2_:=mk_ (hbox);have n3_:=mk_ ((by rw [hg];exact (bz_ (qc_ HB GE433)) : w.heap.size ≤ gb434));have n4_:=mk_ ((by rw [hg];exact (bz_ (qc_ HB GE433)) : w.heap.size ≤ gb434));have n5_:=mk_ ((by rw [hg];exact Nat.ne_of_lt (blk_lt (g:=gb433) (o:=.cells #[.slice A0_0 l0_0.length c0_0,.int .i64 a0_1,.int .i64 a0_2,.bool a0_3] 28 (0,0)) (qk_ BK433)) : gb433 ≠ gb434));have n6_:=mk_ ((by rw [hg];exact Nat.ne_of_gt (blk_lt (g:=gb433) (o:=.cells #[.slice A0_0 l0_0.length c0_0,.int .i64 a0_1,.int .i64 a0_2,.bool a0_3] 28 (0,0)) (qk_ BK433)) : gb434 ≠ gb433));clear BK433 HB;have BK433:=n0_;have HB:=n1_;have BK434:=n2_;have GW434:=n3_;have GE434:=n4_;have NB433_434:=n5_;have NB434_433:=n6_;clear n0_ n1_ n2_ n3_ n4_ n5_ n6_ hb hbox hg;have hnb10:=NB433_434.out;have hnc10:=NB434_433.out;have hcz11_0 : w9.cell? ⟨gb433,0,none⟩ = some (.slice A0_0 l0_0.length c0_0):=(bc_ BK433.out 0).trans rfl;have hcz11_1 : w9.cell? ⟨gb433,1,none⟩ = some (.int .i64 a0_1):=(bc_ BK433.out 1).trans rfl;have hcz11_2 : w9.cell? ⟨gb433,2,none⟩ = some (.int .i64 a0_2):=(bc_ BK433.out 2).trans rfl;have hcz11_3 : w9.cell? ⟨gb433,3,none⟩ = some (.bool a0_3):=(bc_ BK433.out 3).trans rfl;have hfz11_0:=bf_ BK433.out 0;have hfz11_1:=bf_ BK433.out 1;have hfz11_2:=bf_ BK433.out 2;have hfz11_3:=bf_ BK433.out 3;have hcz12_0 : w9.cell? ⟨gb434,0,none⟩ = some (.slice A1_0 l1_0.length c1_0):=(bc_ BK434.out 0).trans rfl;have hcz12_1 : w9.cell? ⟨gb434,1,none⟩ = some (.int .i64 a1_1):=(bc_ BK434.out 1).trans rfl;have hcz12_2 : w9.cell? ⟨gb434,2,none⟩ = some (.int .i64 a1_2):=(bc_ BK434.out 2).trans rfl;have hcz12_3 : w9.cell? ⟨gb434,3,none⟩ = some (.bool a1_3):=(bc_ BK434.out 3).trans rfl;have hfz12_0:=bf_ BK434.out 0;have hfz12_1:=bf_ BK434.out 1;have hfz12_2:=bf_ BK434.out 2;have hfz12_3:=bf_ BK434.out 3)|((with_reducible refine gate_callee (f:=17) rfl ?_);refine goesL_ (some 9) rfl rfl Try.func17 (by kernel_rfl) rfl #[.slice A0_0 l0_0.length c0_0,.slice A1_0 l1_0.length c1_0] rfl qm_ ?_;(with_reducible refine (laws_eqByteSS.calls k _ _ l0_0 _ _ l1_0 true _ ?side1 ?side2 ?side3 ?side4 A3.out).mono ?_);(case side1 => exact qn_ HR0_0 HB);(case side2 => exact HC0_0.out);(case side3 => exact qn_ HR1_0 HB);(case side4 => exact HC1_0.out);rintro e w' ⟨rfl,⟨nd,rfl⟩⟩;refine ⟨_,rfl,?_⟩))
     go_ret
     exact ⟨qe_,u2_ HB GE433 GE434⟩
    ·rw [if_neg c7] at H
     have c7b0 : (a0_3 != a1_3) = false:=by simpa using c7
     (try (have c7b1 : decide (a0_3 = a1_3) = true:=by simpa using c7))
     (try (have c7b2 : (a0_3 == a1_3) = true:=by simpa using c7))
     clear c7
     obtain rfl:=Option.some.inj H
     go_enter Try.func24,Try.ntmps24
     go_wp2_with (first|((with_reducible refine gate_dst (N:=2) rfl ?_);refine box_event ?hg (N:=2) ?hd (cs:=#[.slice A0_0 l0_0.length c0_0,.int .i64 a0_1,.int .i64 a0_2,.bool a0_3]) (t:=28) ?hr ?_;(case hd => rfl);(case hg => rfl);(case hr => first|(go_simp;done)|(go_simp;rfl));intro gb433 hg w13 hbox hb;have n0_:=mk_ (st_ (qb_ HB) hb);have n1_:=mk_ (hbox);have n2_:=mk_ ((by rw [hg];exact (bz_ (qb_ HB)) : w.heap.size ≤ gb433));have n3_:=mk_ ((by rw [hg];exact (bz_ (qb_ HB)) : w.heap.size ≤ gb433));clear HB;have HB:=n0_;have BK433:=n1_;have GW433:=n2_;have GE433:=n3_;clear n0_ n1_ n2_ n3_ hb hbox hg)|((with_reducible refine gate_dst (N:=3) rfl ?_);refine box_event ?hg (N:=3) ?hd (cs:=#[.slice A1_0 l1_0.length c1_0,.int .i64 a1_1,.int .i64 a1_2,.bool a1_3]) (t:=28) ?hr ?_;(case hd => rfl);(case hg => rfl);(case hr => first|(go_simp;done)|(go_simp;rfl));intro gb434 hg w14 hbox hb;have n0_:=mk_ (blk_below (g:=gb433) (o:=.cells #[.slice A0_0 l0_0.length c0_0,.int .i64 a0_1,.int .i64 a0_2,.bool a0_3] 28 (0,0)) (qk_ BK433) hb);have n1_:=mk_ (st_ (qc_ HB GE433) hb);have n2_:=mk_ (hbox);have n3_:=mk_ ((by rw [hg];exact (bz_ (qc_ HB GE433)) : w.heap.size ≤ gb434));have n4_:=mk_ ((by rw [hg];exact (bz_ (qc_ HB GE433)) : w.heap.size ≤ gb434));have n5_:=mk_ ((by rw [hg];exact Nat.ne_of_lt (blk_lt (g:=gb433) (o:=.cells #[.slice A0_0 l0_0.length c0_0,.int .i64 a0_1,.int .i64 a0_2,.bool a0_3] 28 (0,0)) (qk_ BK433)) : gb433 ≠ gb434));have n6_:=mk_ ((by rw [hg];exact Nat.ne_of_gt (blk_lt (g:=gb433) (o:=.cells #[.slice A0_0 l0_0.length c0_0,.int .i64 a0_1,.int .i64 a0_2,.bool a0_3] 28 (0,0)) (qk_ BK433)) : gb434 ≠ gb433));clear BK433 HB;have BK433:=n0_;have HB:=n1_;have BK434:=n2_;have GW434:=n3_;have GE434:=n4_;have NB433_434:=n5_;have NB434_433:=n6_;clear n0_ n1_ n2_ n3_ n4_ n5_ n6_ hb hbox hg;have hnb15:=NB433_434.out;have hnc15:=NB434_433.out;have hcz16_0 : w14.cell? ⟨gb433,0,none⟩ = some (.slice A0_0 l0_0.length c0_0):=(bc_ BK433.out 0).trans rfl;have hcz16_1 : w14.cell? ⟨gb433,1,none⟩ = some (.int .i64 a0_1):=(bc_ BK433.out 1).trans rfl;have hcz16_2 : w14.cell? ⟨gb433,2,none⟩ = some (.int .i64 a0_2):=(bc_ BK433.out 2).trans rfl;have hcz16_3 : w14.cell? ⟨gb433,3,none⟩ = some (.bool a0_3):=(bc_ BK433.out 3).trans rfl;have hfz16_0:=bf_ BK433.out 0;have hfz16_1:=bf_ BK433.out 1;have hfz16_2:=bf_ BK433.out 2;have hfz16_3:=bf_ BK433.out 3;have hcz17_0 : w14.cell? ⟨gb434,0,none⟩ = some (.slice A1_0 l1_0.length c1_0):=(bc_ BK434.out 0).trans rfl;have hcz17_1 : w14.cell? ⟨gb434,1,none⟩ = some (.int .i64 a1_1):=(bc_ BK434.out 1).trans rfl;have hcz17_2 : w14.cell? ⟨gb434,2,none⟩ = some (.int .i64 a1_2):=(bc_ BK434.out 2).trans rfl;have hcz17_3 : w14.cell? ⟨gb434,3,none⟩ = some (.bool a1_3):=(bc_ BK434.out 3).trans rfl;have hfz17_0:=bf_ BK434.out 0;have hfz17_1:=bf_ BK434.out 1;have hfz17_2:=bf_ BK434.out 2;have hfz17_3:=bf_ BK434.out 3)|((with_reducible refine gate_callee (f:=17) rfl ?_);refine goesL_ (some 9) rfl rfl Try.func17 (by kernel_rfl) rfl #[.slice A0_0 l0_0.length c0_0,.slice A1_0 l1_0.length c1_0] rfl qm_ ?_;(with_reducible refine (laws_eqByteSS.calls k _ _ l0_0 _ _ l1_0 true _ ?side1 ?side2 ?side3 ?side4 A3.out).mono ?_);(case side1 => exact qn_ HR0_0 HB);(case side2 => exact HC0_0.out);(case side3 => exact qn_ HR1_0 HB);(case side4 => exact HC1_0.out);rintro e w' ⟨rfl,⟨nd,rfl⟩⟩;refine ⟨_,rfl,?_⟩))
     go_ret
     exact ⟨qe_,u2_ HB GE433 GE434⟩
   ·rw [if_neg c6] at H
    have c6b0 : (a0_2 == a1_2) = false:=beq_eq_false_iff_ne.mpr c6
    have c6b1 : (a0_2 != a1_2) = true:=bne_iff_ne.mpr c6
    obtain rfl:=Option.some.inj H
    go_enter Try.func24,Try.ntmps24
    go_wp2_with (first|((with_reducible refine gate_dst (N:=2) rfl ?_);refine box_event ?hg (N:=2) ?hd (cs:=#[.slice A0_0 l0_0.length c0_0,.int .i64 a0_1,.int .i64 a0_2,.bool a0_3]) (t:=28) ?hr ?_;(case hd => rfl);(case hg => rfl);(case hr => first|(go_simp;done)|(go_simp;rfl));intro gb433 hg w18 hbox hb;have n0_:=mk_ (st_ (qb_ HB) hb);have n1_:=mk_ (hbox);have n2_:=mk_ ((by rw [hg];exact (bz_ (qb_ HB)) : w.heap.size ≤ gb433));have n3_:=mk_ ((by rw [hg];exact (bz_ (qb_ HB)) : w.heap.size ≤ gb433));clear HB;have HB:=n0_;have BK433:=n1_;have GW433:=n2_;have GE433:=n3_;clear n0_ n1_ n2_ n3_ hb hbox hg)|((with_reducible refine gate_dst (N:=3) rfl ?_);refine box_event ?hg (N:=3) ?hd (cs:=#[.slice A1_0 l1_0.length c1_0,.int .i64 a1_1,.int .i64 a1_2,.bool a1_3]) (t:=28) ?hr ?_;(case hd => rfl);(case hg => rfl);(case hr => first|(go_simp;done)|(go_simp;rfl));intro gb434 hg w19 hbox hb;have n0_:=mk_ (blk_below (g:=gb433) (o:=.cells #[.slice A0_0 l0_0.length c0_0,.int .i64 a0_1,.int .i64 a0_2,.bool a0_3] 28 (0,0)) (qk_ BK433) hb);have n1_:=mk_ (st_ (qc_ HB GE433) hb);have n2_:=mk_ (hbox);have n3_:=mk_ ((by rw [hg];exact (bz_ (qc_ HB GE433)) : w.heap.size ≤ gb434));have n4_:=mk_ ((by rw [hg];exact (bz_ (qc_ HB GE433)) : w.heap.size ≤ gb434));have n5_:=mk_ ((by rw [hg];exact Nat.ne_of_lt (blk_lt (g:=gb433) (o:=.cells #[.slice A0_0 l0_0.length c0_0,.int .i64 a0_1,.int .i64 a0_2,.bool a0_3] 28 (0,0)) (qk_ BK433)) : gb433 ≠ gb434));have n6_:=mk_ ((by rw [hg];exact Nat.ne_of_gt (blk_lt (g:=gb433) (o:=.cells #[.slice A0_0 l0_0.length c0_0,.int .i64 a0_1,.int .i64 a0_2,.bool a0_3] 28 (0,0)) (qk_ BK433)) : gb434 ≠ gb433));clear BK433 HB;have BK433:=n0_;have HB:=n1_;have BK434:=n2_;have GW434:=n3_;have GE434:=n4_;have NB433_434:=n5_;have NB434_433:=n6_;clear n0_ n1_ n2_ n3_ n4_ n5_ n6_ hb hbox hg;have hnb20:=NB433_434.out;have hnc20:=NB434_433.out;have hcz21_0 : w19.cell? ⟨gb433,0,none⟩ = some (.slice A0_0 l0_0.length c0_0):=(bc_ BK433.out 0).trans rfl;have hcz21_1 : w19.cell? ⟨gb433,1,none⟩ = some (.int .i64 a0_1):=(bc_ BK433.out 1).trans rfl;have hcz21_2 : w19.cell? ⟨gb433,2,none⟩ = some (.int .i64 a0_2):=(bc_ BK433.out 2).trans rfl;have hcz21_3 : w19.cell? ⟨gb433,3,none⟩ = some (.bool a0_3):=(bc_ BK433.out 3).trans rfl;have hfz21_0:=bf_ BK433.out 0;have hfz21_1:=bf_ BK433.out 1;have hfz21_2:=bf_ BK433.out 2;have hfz21_3:=bf_ BK433.out 3;have hcz22_0 : w19.cell? ⟨gb434,0,none⟩ = some (.slice A1_0 l1_0.length c1_0):=(bc_ BK434.out 0).trans rfl;have hcz22_1 : w19.cell? ⟨gb434,1,none⟩ = some (.int .i64 a1_1):=(bc_ BK434.out 1).trans rfl;have hcz22_2 : w19.cell? ⟨gb434,2,none⟩ = some (.int .i64 a1_2):=(bc_ BK434.out 2).trans rfl;have hcz22_3 : w19.cell? ⟨gb434,3,none⟩ = some (.bool a1_3):=(bc_ BK434.out 3).trans rfl;have hfz22_0:=bf_ BK434.out 0;have hfz22_1:=bf_ BK434.out 1;have hfz22_2:=bf_ BK434.out 2;have hfz22_3:=bf_ BK434.out 3)|((with_reducible refine gate_callee (f:=17) rfl ?_);refine goesL_ (some 9) rfl rfl Try.func17 (by kernel_rfl) rfl #[.slice A0_0 l0_0.length c0_0,.slice A1_0 l1_0.length c1_0] rfl qm_ ?_;(with_reducible refine (laws_eqByteSS.calls k _ _ l0_0 _ _ l1_0 true _ ?side1 ?side2 ?side3 ?side4 A3.out).mono ?_);(case side1 => exact qn_ HR0_0 HB);(case side2 => exact HC0_0.out);(case side3 => exact qn_ HR1_0 HB);(case side4 => exact HC1_0.out);rintro e w' ⟨rfl,⟨nd,rfl⟩⟩;refine ⟨_,rfl,?_⟩))
    go_ret
    exact ⟨qe_,u2_ HB GE433 GE434⟩
  ·rw [if_neg c5] at H
   have c5b0 : (a0_1 == a1_1) = false:=beq_eq_false_iff_ne.mpr c5
   have c5b1 : (a0_1 != a1_1) = true:=bne_iff_ne.mpr c5
   obtain rfl:=Option.some.inj H
   go_enter Try.func24,Try.ntmps24
   go_wp2_with (first|((with_reducible refine gate_dst (N:=2) rfl ?_);refine box_event ?hg (N:=2) ?hd (cs:=#[.slice A0_0 l0_0.length c0_0,.int .i64 a0_1,.int .i64 a0_2,.bool a0_3]) (t:=28) ?hr ?_;(case hd => rfl);(case hg => rfl);(case hr => first|(go_simp;done)|(go_simp;rfl));intro gb433 hg w23 hbox hb;have n0_:=mk_ (st_ (qb_ HB) hb);have n1_:=mk_ (hbox);have n2_:=mk_ ((by rw [hg];exact (bz_ (qb_ HB)) : w.heap.size ≤ gb433));have n3_:=mk_ ((by rw [hg];exact (bz_ (qb_ HB)) : w.heap.size ≤ gb433));clear HB;have HB:=n0_;have BK433:=n1_;have GW433:=n2_;have GE433:=n3_;clear n0_ n1_ n2_ n3_ hb hbox hg)|((with_reducible refine gate_dst (N:=3) rfl ?_);refine box_event ?hg (N:=3) ?hd (cs:=#[.slice A1_0 l1_0.length c1_0,.int .i64 a1_1,.int .i64 a1_2,.bool a1_3]) (t:=28) ?hr ?_;(case hd => rfl);(case hg => rfl);(case hr => first|(go_simp;done)|(go_simp;rfl));intro gb434 hg w24 hbox hb;have n0_:=mk_ (blk_below (g:=gb433) (o:=.cells #[.slice A0_0 l0_0.length c0_0,.int .i64 a0_1,.int .i64 a0_2,.bool a0_3] 28 (0,0)) (qk_ BK433) hb);have n1_:=mk_ (st_ (qc_ HB GE433) hb);have n2_:=mk_ (hbox);have n3_:=mk_ ((by rw [hg];exact (bz_ (qc_ HB GE433)) : w.heap.size ≤ gb434));have n4_:=mk_ ((by rw [hg];exact (bz_ (qc_ HB GE433)) : w.heap.size ≤ gb434));have n5_:=mk_ ((by rw [hg];exact Nat.ne_of_lt (blk_lt (g:=gb433) (o:=.cells #[.slice A0_0 l0_0.length c0_0,.int .i64 a0_1,.int .i64 a0_2,.bool a0_3] 28 (0,0)) (qk_ BK433)) : gb433 ≠ gb434));have n6_:=mk_ ((by rw [hg];exact Nat.ne_of_gt (blk_lt (g:=gb433) (o:=.cells #[.slice A0_0 l0_0.length c0_0,.int .i64 a0_1,.int .i64 a0_2,.bool a0_3] 28 (0,0)) (qk_ BK433)) : gb434 ≠ gb433));clear BK433 HB;have BK433:=n0_;have HB:=n1_;have BK434:=n2_;have GW434:=n3_;have GE434:=n4_;have NB433_434:=n5_;have NB434_433:=n6_;clear n0_ n1_ n2_ n3_ n4_ n5_ n6_ hb hbox hg;have hnb25:=NB433_434.out;have hnc25:=NB434_433.out;have hcz26_0 : w24.cell? ⟨gb433,0,none⟩ = some (.slice A0_0 l0_0.length c0_0):=(bc_ BK433.out 0).trans rfl;have hcz26_1 : w24.cell? ⟨gb433,1,none⟩ = some (.int .i64 a0_1):=(bc_ BK433.out 1).trans rfl;have hcz26_2 : w24.cell? ⟨gb433,2,none⟩ = some (.int .i64 a0_2):=(bc_ BK433.out 2).trans rfl;have hcz26_3 : w24.cell? ⟨gb433,3,none⟩ = some (.bool a0_3):=(bc_ BK433.out 3).trans rfl;have hfz26_0:=bf_ BK433.out 0;have hfz26_1:=bf_ BK433.out 1;have hfz26_2:=bf_ BK433.out 2;have hfz26_3:=bf_ BK433.out 3;have hcz27_0 : w24.cell? ⟨gb434,0,none⟩ = some (.slice A1_0 l1_0.length c1_0):=(bc_ BK434.out 0).trans rfl;have hcz27_1 : w24.cell? ⟨gb434,1,none⟩ = some (.int .i64 a1_1):=(bc_ BK434.out 1).trans rfl;have hcz27_2 : w24.cell? ⟨gb434,2,none⟩ = some (.int .i64 a1_2):=(bc_ BK434.out 2).trans rfl;have hcz27_3 : w24.cell? ⟨gb434,3,none⟩ = some (.bool a1_3):=(bc_ BK434.out 3).trans rfl;have hfz27_0:=bf_ BK434.out 0;have hfz27_1:=bf_ BK434.out 1;have hfz27_2:=bf_ BK434.out 2;have hfz27_3:=bf_ BK434.out 3)|((with_reducible refine gate_callee (f:=17) rfl ?_);refine goesL_ (some 9) rfl rfl Try.func17 (by kernel_rfl) rfl #[.slice A0_0 l0_0.length c0_0,.slice A1_0 l1_0.length c1_0] rfl qm_ ?_;(with_reducible refine (laws_eqByteSS.calls k _ _ l0_0 _ _ l1_0 true _ ?side1 ?side2 ?side3 ?side4 A3.out).mono ?_);(case side1 => exact qn_ HR0_0 HB);(case side2 => exact HC0_0.out);(case side3 => exact qn_ HR1_0 HB);(case side4 => exact HC1_0.out);rintro e w' ⟨rfl,⟨nd,rfl⟩⟩;refine ⟨_,rfl,?_⟩))
   go_ret
   exact ⟨qe_,u2_ HB GE433 GE434⟩
 ·replace c4:=Bool.eq_false_iff.mpr c4
  subst c4
  have H1 : (some false) = some r:=by rw [if_neg (show ¬ (false = true) by decide)] at H;exact H
  clear H
  have H:=H1
  clear H1
  obtain rfl:=Option.some.inj H
  go_enter Try.func24,Try.ntmps24
  go_wp2_with (first|((with_reducible refine gate_dst (N:=2) rfl ?_);refine box_event ?hg (N:=2) ?hd (cs:=#[.slice A0_0 l0_0.length c0_0,.int .i64 a0_1,.int .i64 a0_2,.bool a0_3]) (t:=28) ?hr ?_;(case hd => rfl);(case hg => rfl);(case hr => first|(go_simp;done)|(go_simp;rfl));intro gb433 hg w28 hbox hb;have n0_:=mk_ (st_ (qb_ HB) hb);have n1_:=mk_ (hbox);have n2_:=mk_ ((by rw [hg];exact (bz_ (qb_ HB)) : w.heap.size ≤ gb433));have n3_:=mk_ ((by rw [hg];exact (bz_ (qb_ HB)) : w.heap.size ≤ gb433));clear HB;have HB:=n0_;have BK433:=n1_;have GW433:=n2_;have GE433:=n3_;clear n0_ n1_ n2_ n3_ hb hbox hg)|((with_reducible refine gate_dst (N:=3) rfl ?_);refine box_event ?hg (N:=3) ?hd (cs:=#[.slice A1_0 l1_0.length c1_0,.int .i64 a1_1,.int .i64 a1_2,.bool a1_3]) (t:=28) ?hr ?_;(case hd => rfl);(case hg => rfl);(case hr => first|(go_simp;done)|(go_simp;rfl));intro gb434 hg w29 hbox hb;have n0_:=mk_ (blk_below (g:=gb433) (o:=.cells #[.slice A0_0 l0_0.length c0_0,.int .i64 a0_1,.int .i64 a0_2,.bool a0_3] 28 (0,0)) (qk_ BK433) hb);have n1_:=mk_ (st_ (qc_ HB GE433) hb);have n2_:=mk_ (hbox);have n3_:=mk_ ((by rw [hg];exact (bz_ (qc_ HB GE433)) : w.heap.size ≤ gb434));have n4_:=mk_ ((by rw [hg];exact (bz_ (qc_ HB GE433)) : w.heap.size ≤ gb434));have n5_:=mk_ ((by rw [hg];exact Nat.ne_of_lt (blk_lt (g:=gb433) (o:=.cells #[.slice A0_0 l0_0.length c0_0,.int .i64 a0_1,.int .i64 a0_2,.bool a0_3] 28 (0,0)) (qk_ BK433)) : gb433 ≠ gb434));have n6_:=mk_ ((by rw [hg];exact Nat.ne_of_gt (blk_lt (g:=gb433) (o:=.cells #[.slice A0_0 l0_0.length c0_0,.int .i64 a0_1,.int .i64 a0_2,.bool a0_3] 28 (0,0)) (qk_ BK433)) : gb434 ≠ gb433));clear BK433 HB;have BK433:=n0_;have HB:=n1_;have BK434:=n2_;have GW434:=n3_;have GE434:=n4_;have NB433_434:=n5_;have NB434_433:=n6_;clear n0_ n1_ n2_ n3_ n4_ n5_ n6_ hb hbox hg;have hnb30:=NB433_434.out;have hnc30:=NB434_433.out;have hcz31_0 : w29.cell? ⟨gb433,0,none⟩ = some (.slice A0_0 l0_0.length c0_0):=(bc_ BK433.out 0).trans rfl;have hcz31_1 : w29.cell? ⟨gb433,1,none⟩ = some (.int .i64 a0_1):=(bc_ BK433.out 1).trans rfl;have hcz31_2 : w29.cell? ⟨gb433,2,none⟩ = some (.int .i64 a0_2):=(bc_ BK433.out 2).trans rfl;have hcz31_3 : w29.cell? ⟨gb433,3,none⟩ = some (.bool a0_3):=(bc_ BK433.out 3).trans rfl;have hfz31_0:=bf_ BK433.out 0;have hfz31_1:=bf_ BK433.out 1;have hfz31_2:=bf_ BK433.out 2;have hfz31_3:=bf_ BK433.out 3;have hcz32_0 : w29.cell? ⟨gb434,0,none⟩ = some (.slice A1_0 l1_0.length c1_0):=(bc_ BK434.out 0).trans rfl;have hcz32_1 : w29.cell? ⟨gb434,1,none⟩ = some (.int .i64 a1_1):=(bc_ BK434.out 1).trans rfl;have hcz32_2 : w29.cell? ⟨gb434,2,none⟩ = some (.int .i64 a1_2):=(bc_ BK434.out 2).trans rfl;have hcz32_3 : w29.cell? ⟨gb434,3,none⟩ = some (.bool a1_3):=(bc_ BK434.out 3).trans rfl;have hfz32_0:=bf_ BK434.out 0;have hfz32_1:=bf_ BK434.out 1;have hfz32_2:=bf_ BK434.out 2;have hfz32_3:=bf_ BK434.out 3)|((with_reducible refine gate_callee (f:=17) rfl ?_);refine goesL_ (some 9) rfl rfl Try.func17 (by kernel_rfl) rfl #[.slice A0_0 l0_0.length c0_0,.slice A1_0 l1_0.length c1_0] rfl qm_ ?_;(with_reducible refine (laws_eqByteSS.calls k _ _ l0_0 _ _ l1_0 false _ ?side1 ?side2 ?side3 ?side4 A3.out).mono ?_);(case side1 => exact qn_ HR0_0 HB);(case side2 => exact HC0_0.out);(case side3 => exact qn_ HR1_0 HB);(case side4 => exact HC1_0.out);rintro e w' ⟨rfl,⟨nd,rfl⟩⟩;refine ⟨_,rfl,?_⟩))
  go_ret
  exact ⟨qe_,u2_ HB GE433 GE434⟩

/-! ### laws_markByteS: function 45 -/
def laws_markByteS.l0 : Nat → List Int → Int → Int → Option (Int × List Int)
 | 0,_,_,_ => none
 | k + 1,x0,x1,x5 => if x5 < (x0.length : Int) then (if 0 ≤ x5 then (laws_markByteS.l0 k (x0.set (x5 : Int).toNat ((x1) % 256)) (wrap64 (x1 + 1)) (wrap64 (x5 + 1))) else (none)) else (some (x1,x0))
def laws_markByteS.f (k : Nat) (l0 : List Int) (a1 : Int) : Option (Int × List Int):=laws_markByteS.l0 k l0 a1 0
theorem laws_markByteS.mono_l : ∀ k,(∀ y0 y1 y2,LeO (laws_markByteS.l0 k y0 y1 y2) (laws_markByteS.l0 (k + 1) y0 y1 y2))
 | 0 => fun _ _ _ r h => by simp [laws_markByteS.l0] at h
 | k + 1 => by
  have ih0:=laws_markByteS.mono_l k
  ·intro y0 y1 y2
   unfold laws_markByteS.l0
   repeat' first
   | (with_reducible exact ih0 _ _ _)
   | (with_reducible exact LeO.refl _)
   | (with_reducible exact LeO.none _)
   | (with_reducible refine LeO.ite ?_ ?_)
   | (with_reducible refine LeO.bind ?_ (fun _ => ?_))
   | exact ih0 _ _ _
   | exact LeO.none _
   | refine LeO.ite ?_ ?_
   | refine LeO.bind ?_ (fun _ => ?_)
theorem laws_markByteS.mono : ∀ a0 a1 k,LeO (laws_markByteS.f k a0 a1) (laws_markByteS.f (k + 1) a0 a1):=by
 intro a0 a1 k
 have ih0:=laws_markByteS.mono_l k
 unfold laws_markByteS.f
 repeat' first
   | (with_reducible exact ih0 _ _ _)
   | (with_reducible exact LeO.refl _)
   | (with_reducible exact LeO.none _)
   | (with_reducible refine LeO.ite ?_ ?_)
   | (with_reducible refine LeO.bind ?_ (fun _ => ?_))
   | exact ih0 _ _ _
   | exact LeO.none _
   | refine LeO.ite ?_ ?_
   | refine LeO.bind ?_ (fun _ => ?_)
set_option maxHeartbeats 8000000 in
set_option maxRecDepth 100000 in
theorem laws_markByteS.calls (k : Nat) (P0_ : Nat → Prop) (u9000_ : Value) (l0 : List Int) (a1 : Int) (r1 : Int) (r2 : List Int) (w0 w : World) (hB : Below w0.heap.size w0 w) (ho0 : Kd.R (Kd.int .u8) 5 w w0.heap.size P0_ u9000_ l0) (h : laws_markByteS.f k l0 a1 = some (r1,r2)) :
  Calls Try.prog 45 #[u9000_,.int .i64 a1] w fun e w' => e = .returned (.int .i64 r1) ∧ Kd.R (Kd.int .u8) 5 w' w0.heap.size (fun k_ => (P0_ k_ ∨ w.heap.size ≤ k_)) u9000_ r2 ∧ Below w0.heap.size w0 w' ∧ Kept w w' (fun k_ => P0_ k_):=by
 have HO0:=mk_ (show Kd.R (Kd.int .u8) 5 w w0.heap.size (fun k_ => (P0_ k_ ∨ w.heap.size ≤ k_)) u9000_ l0 from rm_ ho0 (fun k_ hk => (.inl hk)))
 have HK:=mk_ (Kept.refl w (fun k_ => P0_ k_))
 have HW0:=mk_ hB.size
 have HB:=mk_ hB
 clear hB
 have H : (laws_markByteS.l0 k l0 a1 0) = some (r1,r2):=h
 clear h
 have H':=mk_ H
 clear H
 go_enter Try.func45,Try.ntmps45
 go_wp2
 go_loopg [1,5] k (fun kq v1 v5 w' => ∃ (x0_1 : List Int) (x1_1 : Int) (x5_1 : Int),v1 = .int .i64 x1_1 ∧ v5 = .int .i64 x5_1 ∧ Aside0 (laws_markByteS.l0 kq x0_1 x1_1 x5_1 = some (r1,r2)) ∧ Aside0 (kq ≤ k) ∧ Aside0 (Kd.R (Kd.int .u8) 5 w' w0.heap.size (fun k_ => (P0_ k_ ∨ w.heap.size ≤ k_)) u9000_ x0_1) ∧ Aside0 (Kept w w' (fun k_ => P0_ k_)) ∧ Aside0 (Below w0.heap.size w0 w'))
 case atStart => exact ⟨(l0),(a1),(0),qf_,qf_,H',⟨Nat.le_refl _⟩,⟨qr_ HO0⟩,⟨u3_ HK⟩,⟨u0_ HB⟩⟩
 case round =>
  clear H'
  try clear p2
  obtain ⟨x0_1,x1_1,x5_1,rfl,rfl,HA,HK1,HO_0,HK,HB⟩:=hrel
  cases gk with
  | zero => exact absurd HA.out (by simp [laws_markByteS.l0])
  | succ k1 =>
   have H:=HA.out
   clear HA
   simp only [laws_markByteS.l0] at H
   by_cases c3 : x5_1 < (x0_1.length : Int)
   ·rw [if_pos c3] at H
    have c3b0 : decide (x5_1 < (x0_1.length : Int)) = true:=decide_eq_true c3
    clear c3
    by_cases c4 : 0 ≤ x5_1
    ·rw [if_pos c4] at H
     have c4b0 : decide (0 ≤ x5_1) = true:=decide_eq_true c4
     clear c4
     obtain ⟨y436,hy436⟩ : ∃ y_ : List Int,y_ = (x0_1.set (x5_1 : Int).toNat ((x1_1) % 256)):=⟨_,rfl⟩
     replace H : (laws_markByteS.l0 k1 y436 (wrap64 (x1_1 + 1)) (wrap64 (x5_1 + 1))) = some (r1,r2):=by first|(rw [hy436];with_reducible exact H)|(have H2_:=(Option.bind_some _ _).symm.trans H;rw [hy436];with_reducible exact H2_)|(have H2_:=(Option.bind_some _ _).symm.trans H;with_reducible exact H2_)|with_reducible exact H|(rw [hy436];exact H)|exact H
     have Ny436:=mk_ hy436
     clear hy436
     have H':=mk_ H
     clear H
     obtain ⟨Ao6,co6,eo6⟩:=Kd.R_slice HO_0.out
     subst eo6
     have p5 : 0 ≤ (x5_1 : Int):=od_ qa_
     have q5 : (x5_1 : Int) < ((x0_1.length : Int) : Int):=od_ qa_
     obtain ⟨go5,co5,eo5,gb5,gl5,cl5,HG5⟩:=Kd.R_form HO_0.out (by omega)
     (first|cases eo5|(injection eo5 with ea_ en_ ec_;(first|subst ea_|(injection ea_ with ea_;subst ea_));subst ec_;clear en_))
     have GB5:=mk_ gb5
     have GG5:=mk_ HG5
     clear gb5 gl5 HG5
     have HMgo5:=mk_ (show (P0_ go5 ∨ w.heap.size ≤ go5) from (HO_0.out.1 _ rfl))
     obtain ⟨hx5_0,hf5_0⟩:=Kd.R_celln 0 HO_0.out (x5_1 : Int) p5 q5
     replace p5:=eq_true p5
     replace q5:=eq_true q5
     have HP7:=Kd.R_putg HO_0.out (x5_1 : Int) ((x1_1) % 256)
     go_wp2_with (first|((with_reducible refine gate_store (t:=5) (p:=16) rfl ?_);refine store_event (t:=5) (p:=16) (v:=?vo_w8) (w1:=(wr.setCell ⟨go5,(x5_1 : Int).toNat,none⟩ (.int .u8 ((x1_1) % 256)))) ?hg ?ho ?hn ?hr ?_;(case ho => rfl);(case hg => rfl);(case hn => rfl);(case hr => first|(go_simp;done)|(go_simp;rfl));intro w8 hw;have hg : wr.grownBy w8 (some go5):=(by rw [hw];exact HP7.2);have hp_ : Kd.R (Kd.int .u8) 5 w8 w0.heap.size (fun k_ => (P0_ k_ ∨ w.heap.size ≤ k_)) (.slice (some ⟨go5,0,none⟩) x0_1.length co6) y436:=(by rw [hw,Ny436.out];exact HP7.1);clear HP7;have n0_:=mk_ (hp_);have n1_:=mk_ ((by rw [hw];exact bs_ (HB.out) GB5.out : Below w0.heap.size w0 w8));have n2_:=mk_ (Kept.of_grown (S:=(fun k_ => P0_ k_)) hg (u3_ HK) (fun k_ e_ => (HO_0.out.1 k_ e_)));clear HO_0 HB HK;have HO_0:=n0_;have HB:=n1_;have HK:=n2_;clear n0_ n1_ n2_ hg hw hp_))
     go_roundg k1
     case measure => have:=HK1.out;omega
     case rel => exact ⟨(y436),(wrap64 (x1_1 + 1)),(wrap64 (x5_1 + 1)),qf_,qf_,H',⟨by have:=HK1.out;omega⟩,⟨qr_ HO_0⟩,⟨u3_ HK⟩,⟨u0_ HB⟩⟩
    ·rw [if_neg c4] at H
     exact absurd H (by simp)
   ·rw [if_neg c3] at H
    have c3b0 : decide (x5_1 < (x0_1.length : Int)) = false:=decide_eq_false c3
    clear c3
    simp only [Option.some.injEq,Prod.mk.injEq] at H
    obtain ⟨rfl,rfl⟩:=H
    obtain ⟨Ao9,co9,eo9⟩:=Kd.R_slice HO_0.out
    subst eo9
    go_wp2
    go_ret
    exact ⟨qe_,qr_ HO_0,u0_ HB,u3_ HK⟩

-- LIB markss
/-- The marks of a row: so many numbers, from a on. -/
def mkB (n : Nat) (a : Int) : List Int:=(List.range n).map fun i : Nat => (a + (i : Int)) % 256
def mkN : List (List Int) → Int → Int
  | [],a => a
  | r :: rs,a => mkN rs (a + (r.length : Int))
def mkSS : List (List Int) → Int → List (List Int)
  | [],_ => []
  | r :: rs,a => mkB r.length a :: mkSS rs (a + (r.length : Int))
theorem mkB_len (n : Nat) (a : Int) : (mkB n a).length = n:=by unfold mkB;simp
theorem mkSS_len (l : List (List Int)) : ∀ a,(mkSS l a).length = l.length:=by
  induction l with
  | nil => intro a;rfl
  | cons r rs ih => intro a;rw [mkSS,List.length_cons,ih,List.length_cons]
theorem mkN_snoc (l : List (List Int)) (r : List Int) : ∀ a,mkN (l ++ [r]) a = mkN l a + (r.length : Int):=by
  induction l with
  | nil => intro a;rfl
  | cons x l ih => intro a;exact ih _
theorem mkSS_snoc (l : List (List Int)) (r : List Int) : ∀ a,mkSS (l ++ [r]) a = mkSS l a ++ [mkB r.length (mkN l a)]:=by
  induction l with
  | nil => intro a;rfl
  | cons x l ih => intro a;rw [List.cons_append,mkSS,ih];rfl
theorem mkB_at (d : Nat) : ∀ (i : Nat) (x : List Int) (a a1 : Int),i + d = x.length → a1 = a + (i : Int) → (∀ j,j < i → x[j]? = some ((a + (j : Int)) % 256)) → 0 ≤ a → a + (x.length : Int) ≤ 1000000000000 → ∀ k,d < k → laws_markByteS.l0 k x a1 (i : Int) = some (a + (x.length : Int),mkB x.length a):=by
  induction d with
  | zero =>
    intro i x a a1 hi h1 hx h0 hm k hk
    obtain ⟨k,rfl⟩ : ∃ m,k = m + 1:=⟨k - 1,by omega⟩
    simp only [laws_markByteS.l0]
    have e : x = mkB x.length a:=by
      refine List.ext_getElem? fun j => ?_
      by_cases hj : j < i
      · rw [hx j hj]
        unfold mkB
        simp [show j < x.length by omega]
      · rw [List.getElem?_eq_none (by omega),List.getElem?_eq_none (by rw [mkB_len];omega)]
    rw [if_neg (by omega),← e,h1,show i = x.length by omega]
  | succ d ih =>
    intro i x a a1 hi h1 hx h0 hm k hk
    obtain ⟨k,rfl⟩ : ∃ m,k = m + 1:=⟨k - 1,by omega⟩
    simp only [laws_markByteS.l0]
    rw [if_pos (by omega),if_pos (by omega),Int.toNat_natCast,wrap_eq (by omega) (by omega),wrap_eq (by omega) (by omega)]
    have h:=ih (i + 1) (x.set i (a1 % 256)) a (a1 + 1) (by rw [List.length_set];omega) (by omega) (by
      intro j hj
      by_cases e : j = i
      · subst e;rw [List.getElem?_set_self (by omega),h1]
      · rw [List.getElem?_set_ne (by omega)];exact hx j (by omega)) h0 (by rw [List.length_set];exact hm) k (by omega)
    rw [List.length_set] at h
    exact h
theorem mkB_eq (x : List Int) (a : Int) (h0 : 0 ≤ a) (hm : a + (x.length : Int) ≤ 1000000000000) (k : Nat) (hk : x.length < k) : laws_markByteS.f k x a = some (a + (x.length : Int),mkB x.length a) :=
  mkB_at x.length 0 x a a (by omega) (by omega) (fun j hj => by omega) h0 hm k hk
theorem mkN_le (l : List (List Int)) : ∀ a,a ≤ mkN l a:=by
  induction l with
  | nil => intro a;exact Int.le_refl _
  | cons r l ih => intro a;have:=ih (a + (r.length : Int));unfold mkN;omega
theorem mkN_take (l : List (List Int)) (i : Nat) (hi : i < l.length) (a : Int) : mkN (l.take i) a + (l[i].length : Int) ≤ mkN l a:=by
  have e:=mkN_snoc (l.take i) l[i] a
  rw [← List.take_succ_eq_append_getElem hi] at e
  rw [← e]
  have e2 : ∀ (x y : List (List Int)) (a : Int),mkN (x ++ y) a = mkN y (mkN x a):=by
    intro x y
    induction x with
    | nil => intro a;rfl
    | cons z x ih => intro a;exact ih _
  have e3:=e2 (l.take (i + 1)) (l.drop (i + 1)) a
  rw [List.take_append_drop] at e3
  rw [e3]
  exact mkN_le _ _
/-- An own row's element, written by another. -/
theorem S_mark {e5 T : Nat} {W : World} {base : Nat} {ok : Nat → Prop} {A : Option Addr} {n cap : Nat} {xs : List (List Int)} (h : Kd.S (Kd.slice e5 (Kd.int .u8)) T W base ok (.slice A n cap) xs) (i : Nat) (hi : i < xs.length) :
    ∃ (g : Nat) (oki : Nat → Prop) (v : Value),A = some ⟨g,0,none⟩ ∧ W.cell? ⟨g,i,none⟩ = some v ∧ Kd.R (Kd.int .u8) e5 W base oki v (xs.getD i []) ∧ (∀ k,oki k → ok k) ∧
      ∀ (w1 : World) (x' : List Int) (ok2 : Nat → Prop),Kept W w1 oki → Kd.R (Kd.int .u8) e5 w1 base ok2 v x' → Kd.S (Kd.slice e5 (Kd.int .u8)) T w1 base ok (.slice A n cap) (xs.set i x'):=by
  have hn:=(Kd.S_reads' h).1
  obtain ⟨g,cap',e,_⟩:=Kd.R_form (Kd.S_R h) (by omega)
  injection e with e1 e2 e3
  subst e1
  obtain ⟨oki,c,hcl,hM,hcc,hoki,hH⟩:=Kd.S_lend h [] (i : Int) (by omega) (by omega)
  obtain ⟨v,rfl,hR⟩:=hM
  rw [Int.toNat_natCast] at hR hcc
  refine ⟨g,oki,v,rfl,?_,hR,fun k hk => (hoki k hk).1,fun w1 x' ok2 hk h1 => ?_⟩
  · have:=hcc 0 v rfl
    rw [show i * (Kd.slice e5 (Kd.int .u8)).sz + 0 = i from by show i * 1 + 0 = i;omega] at this
    exact this
  · have h2:=Kd.H_back (Kd.H_step hH (fun k _ hn hlt => hk.2 k hlt hn)) (x':=x') (okp:=oki) ⟨v,rfl,hR.1,h1.2⟩ (fun _ hk => hk)
    rw [Int.toNat_natCast] at h2
    exact h2

/-! ### laws_markByteSS: function 25 (by hand) -/
def laws_markByteSS.f (l0 : List (List Int)) (a1 : Int) : Option (Int × List (List Int)) :=
 if 0 ≤ a1 ∧ mkN l0 a1 ≤ 1000000000 ∧ l0.length ≤ 1000000000 then some (mkN l0 a1,mkSS l0 a1) else none
set_option maxHeartbeats 4000000 in
set_option maxRecDepth 100000 in
theorem laws_markByteSS.calls (P0_ : Nat → Prop) (u9000_ : Value) (l0 : List (List Int)) (a1 : Int) (r1 : Int) (r2 : List (List Int)) (w0 w : World) (hB : Below w0.heap.size w0 w) (ho0 : Kd.S (Kd.slice 5 (Kd.int .u8)) 22 w w0.heap.size P0_ u9000_ l0) (h : laws_markByteSS.f l0 a1 = some (r1,r2)) :
  Calls Try.prog 25 #[u9000_,.int .i64 a1] w fun e w' => e = .returned (.int .i64 r1) ∧ Kd.S (Kd.slice 5 (Kd.int .u8)) 22 w' w0.heap.size (fun k_ => (P0_ k_ ∨ w.heap.size ≤ k_)) u9000_ r2 ∧ Below w0.heap.size w0 w' ∧ Kept w w' (fun k_ => P0_ k_):=by
 unfold laws_markByteSS.f at h
 by_cases hc : 0 ≤ a1 ∧ mkN l0 a1 ≤ 1000000000 ∧ l0.length ≤ 1000000000
 ·rw [if_pos hc] at h
  injection h with h
  injection h with h1 h2
  subst h1
  subst h2
  obtain ⟨hc1,hc2,hc3⟩:=hc
  obtain ⟨A,cap,rfl⟩:=Kd.S_slice ho0
  have HB0:=mk_ hB
  have HS0:=mk_ (Kd.S_mono ho0 (ok':=fun k_ => (P0_ k_ ∨ w.heap.size ≤ k_)) (fun k_ hk => Or.inl hk))
  clear hB ho0
  go_enter Try.func25,Try.ntmps25
  go_wp2
  go_loopg [1,5] l0.length (fun gg s1 s5 wr => ∃ (kk : Nat),kk ≤ l0.length ∧ l0.length - kk ≤ gg ∧ s5 = .int .i64 (kk : Int) ∧ s1 = .int .i64 (mkN (l0.take kk) a1) ∧
   Aside0 (Kd.S (Kd.slice 5 (Kd.int .u8)) 22 wr w0.heap.size (fun k_ => (P0_ k_ ∨ w.heap.size ≤ k_)) (.slice A l0.length cap) (mkSS (l0.take kk) a1 ++ l0.drop kk)) ∧ Aside0 (Below w0.heap.size w0 wr) ∧ Aside0 (Kept w wr (fun k_ => P0_ k_)))
  case atStart => exact ⟨0,Nat.zero_le _,by omega,rfl,rfl,HS0,HB0,⟨Kept.refl _ _⟩⟩
  case round =>
   obtain ⟨kk,hkk,hgg,rfl,rfl,HS,BW,KW⟩:=hrel
   by_cases hlt : kk < l0.length
   ·have hln : (mkSS (l0.take kk) a1 ++ l0.drop kk).length = l0.length:=by rw [List.length_append,mkSS_len,List.length_take,List.length_drop];omega
    obtain ⟨g,oki,v,rfl,hcell,hR,hoki,hback⟩:=S_mark HS.out kk (by omega)
    have hgd : (mkSS (l0.take kk) a1 ++ l0.drop kk).getD kk [] = l0[kk]:=by
     rw [List.getD_eq_getElem?_getD,List.getElem?_append_right (by rw [mkSS_len,List.length_take];omega),mkSS_len,List.length_take,List.getElem?_drop,show kk + (kk - min kk l0.length) = kk by omega,List.getElem?_eq_getElem hlt]
     rfl
    rw [hgd] at hR
    have htk:=mkN_take l0 kk hlt a1
    have hle:=mkN_le (l0.take kk) a1
    obtain ⟨x,hx⟩ : ∃ x,mkN (l0.take kk) a1 = x:=⟨_,rfl⟩
    have hcall:=laws_markByteS.calls (l0[kk].length + 1) oki v l0[kk] x _ _ w0 _ BW.out hR (mkB_eq l0[kk] x (by omega) (by omega) _ (by omega))
    have e1 : mkN (l0.take (kk + 1)) a1 = x + (l0[kk].length : Int):=by rw [List.take_succ_eq_append_getElem hlt,mkN_snoc,hx]
    have e2 : (mkSS (l0.take kk) a1 ++ l0.drop kk).set kk (mkB l0[kk].length x) = mkSS (l0.take (kk + 1)) a1 ++ l0.drop (kk + 1):=by
     rw [List.take_succ_eq_append_getElem hlt,mkSS_snoc,hx,List.append_assoc,List.singleton_append,List.set_append_right _ _ (by rw [mkSS_len,List.length_take];omega),mkSS_len,List.length_take,show kk - min kk l0.length = 0 by omega,List.drop_eq_getElem_cons hlt,List.set_cons_zero]
    rw [hx]
    have HN:=mk_ e1
    have HC:=mk_ hcall
    have HK:=mk_ (And.intro hback (And.intro hoki e2))
    have q1 : ((kk : Int) < (l0.length : Int)) = True:=eq_true (by omega)
    have q2 : (0 ≤ (kk : Int)) = True:=eq_true (by omega)
    have q3 : wrap64 ((kk : Int) + 1) = ((kk + 1 : Nat) : Int):=by rw [wrap_eq (by omega) (by omega)];omega
    clear hcall hback hoki e1 e2 htk hle hgd hln hR HS
    go_wp2_with fail
    refine HC.out.mono ?_
    rintro e w' ⟨rfl,h1,h2,h3⟩
    go_wp2
    go_roundg (l0.length - (kk + 1))
    case measure => omega
    case rel =>
     refine ⟨kk + 1,by omega,by omega,by first|rfl|rw [q3]|simp [q3],by rw [HN.out],⟨?_⟩,⟨h2⟩,⟨KW.out.then_ h3 HK.out.2.1⟩⟩
     rw [← HK.out.2.2]
     exact HK.out.1 w' _ _ h3 h1
   ·have hkl : kk = l0.length:=by omega
    subst hkl
    rw [List.take_length,List.drop_length,List.append_nil] at *
    have q1 : ((l0.length : Int) < (l0.length : Int)) = False:=eq_false (by omega)
    go_wp2
    go_ret
    exact ⟨rfl,HS.out,BW.out,KW.out⟩
 ·rw [if_neg hc] at h
  cases h

/-! ### laws_markIntS: function 26 -/
def laws_markIntS.l0 : Nat → List Int → Int → Int → Option (Int × List Int)
 | 0,_,_,_ => none
 | k + 1,x0,x1,x5 => if x5 < (x0.length : Int) then (if 0 ≤ x5 then (laws_markIntS.l0 k (x0.set (x5 : Int).toNat x1) (wrap64 (x1 + 1)) (wrap64 (x5 + 1))) else (none)) else (some (x1,x0))
def laws_markIntS.f (k : Nat) (l0 : List Int) (a1 : Int) : Option (Int × List Int):=laws_markIntS.l0 k l0 a1 0
theorem laws_markIntS.mono_l : ∀ k,(∀ y0 y1 y2,LeO (laws_markIntS.l0 k y0 y1 y2) (laws_markIntS.l0 (k + 1) y0 y1 y2))
 | 0 => fun _ _ _ r h => by simp [laws_markIntS.l0] at h
 | k + 1 => by
  have ih0:=laws_markIntS.mono_l k
  ·intro y0 y1 y2
   unfold laws_markIntS.l0
   repeat' first
   | (with_reducible exact ih0 _ _ _)
   | (with_reducible exact LeO.refl _)
   | (with_reducible exact LeO.none _)
   | (with_reducible refine LeO.ite ?_ ?_)
   | (with_reducible refine LeO.bind ?_ (fun _ => ?_))
   | exact ih0 _ _ _
   | exact LeO.none _
   | refine LeO.ite ?_ ?_
   | refine LeO.bind ?_ (fun _ => ?_)
theorem laws_markIntS.mono : ∀ a0 a1 k,LeO (laws_markIntS.f k a0 a1) (laws_markIntS.f (k + 1) a0 a1):=by
 intro a0 a1 k
 have ih0:=laws_markIntS.mono_l k
 unfold laws_markIntS.f
 repeat' first
   | (with_reducible exact ih0 _ _ _)
   | (with_reducible exact LeO.refl _)
   | (with_reducible exact LeO.none _)
   | (with_reducible refine LeO.ite ?_ ?_)
   | (with_reducible refine LeO.bind ?_ (fun _ => ?_))
   | exact ih0 _ _ _
   | exact LeO.none _
   | refine LeO.ite ?_ ?_
   | refine LeO.bind ?_ (fun _ => ?_)
set_option maxHeartbeats 8000000 in
set_option maxRecDepth 100000 in
theorem laws_markIntS.calls (k : Nat) (P0_ : Nat → Prop) (u9000_ : Value) (l0 : List Int) (a1 : Int) (r1 : Int) (r2 : List Int) (w0 w : World) (hB : Below w0.heap.size w0 w) (ho0 : Kd.R (Kd.int .i64) 3 w w0.heap.size P0_ u9000_ l0) (h : laws_markIntS.f k l0 a1 = some (r1,r2)) :
  Calls Try.prog 26 #[u9000_,.int .i64 a1] w fun e w' => e = .returned (.int .i64 r1) ∧ Kd.R (Kd.int .i64) 3 w' w0.heap.size (fun k_ => (P0_ k_ ∨ w.heap.size ≤ k_)) u9000_ r2 ∧ Below w0.heap.size w0 w' ∧ Kept w w' (fun k_ => P0_ k_):=by
 have HO0:=mk_ (show Kd.R (Kd.int .i64) 3 w w0.heap.size (fun k_ => (P0_ k_ ∨ w.heap.size ≤ k_)) u9000_ l0 from rm_ ho0 (fun k_ hk => (.inl hk)))
 have HK:=mk_ (Kept.refl w (fun k_ => P0_ k_))
 have HW0:=mk_ hB.size
 have HB:=mk_ hB
 clear hB
 have H : (laws_markIntS.l0 k l0 a1 0) = some (r1,r2):=h
 clear h
 have H':=mk_ H
 clear H
 go_enter Try.func26,Try.ntmps26
 go_wp2
 go_loopg [1,5] k (fun kq v1 v5 w' => ∃ (x0_1 : List Int) (x1_1 : Int) (x5_1 : Int),v1 = .int .i64 x1_1 ∧ v5 = .int .i64 x5_1 ∧ Aside0 (laws_markIntS.l0 kq x0_1 x1_1 x5_1 = some (r1,r2)) ∧ Aside0 (kq ≤ k) ∧ Aside0 (Kd.R (Kd.int .i64) 3 w' w0.heap.size (fun k_ => (P0_ k_ ∨ w.heap.size ≤ k_)) u9000_ x0_1) ∧ Aside0 (Kept w w' (fun k_ => P0_ k_)) ∧ Aside0 (Below w0.heap.size w0 w'))
 case atStart => exact ⟨(l0),(a1),(0),qf_,qf_,H',⟨Nat.le_refl _⟩,⟨qr_ HO0⟩,⟨u3_ HK⟩,⟨u0_ HB⟩⟩
 case round =>
  clear H'
  try clear c2
  try clear p2
  obtain ⟨x0_1,x1_1,x5_1,rfl,rfl,HA,HK1,HO_0,HK,HB⟩:=hrel
  cases gk with
  | zero => exact absurd HA.out (by simp [laws_markIntS.l0])
  | succ k1 =>
   have H:=HA.out
   clear HA
   simp only [laws_markIntS.l0] at H
   by_cases c3 : x5_1 < (x0_1.length : Int)
   ·rw [if_pos c3] at H
    have c3b0 : decide (x5_1 < (x0_1.length : Int)) = true:=decide_eq_true c3
    clear c3
    by_cases c4 : 0 ≤ x5_1
    ·rw [if_pos c4] at H
     have c4b0 : decide (0 ≤ x5_1) = true:=decide_eq_true c4
     clear c4
     obtain ⟨y437,hy437⟩ : ∃ y_ : List Int,y_ = (x0_1.set (x5_1 : Int).toNat x1_1):=⟨_,rfl⟩
     replace H : (laws_markIntS.l0 k1 y437 (wrap64 (x1_1 + 1)) (wrap64 (x5_1 + 1))) = some (r1,r2):=by first|(rw [hy437];with_reducible exact H)|(have H2_:=(Option.bind_some _ _).symm.trans H;rw [hy437];with_reducible exact H2_)|(have H2_:=(Option.bind_some _ _).symm.trans H;with_reducible exact H2_)|with_reducible exact H|(rw [hy437];exact H)|exact H
     have Ny437:=mk_ hy437
     clear hy437
     have H':=mk_ H
     clear H
     obtain ⟨Ao6,co6,eo6⟩:=Kd.R_slice HO_0.out
     subst eo6
     have p5 : 0 ≤ (x5_1 : Int):=od_ qa_
     have q5 : (x5_1 : Int) < ((x0_1.length : Int) : Int):=od_ qa_
     obtain ⟨go5,co5,eo5,gb5,gl5,cl5,HG5⟩:=Kd.R_form HO_0.out (by omega)
     (first|cases eo5|(injection eo5 with ea_ en_ ec_;(first|subst ea_|(injection ea_ with ea_;subst ea_));subst ec_;clear en_))
     have GB5:=mk_ gb5
     have GG5:=mk_ HG5
     clear gb5 gl5 HG5
     have HMgo5:=mk_ (show (P0_ go5 ∨ w.heap.size ≤ go5) from (HO_0.out.1 _ rfl))
     obtain ⟨hx5_0,hf5_0⟩:=Kd.R_celln 0 HO_0.out (x5_1 : Int) p5 q5
     replace p5:=eq_true p5
     replace q5:=eq_true q5
     have HP7:=Kd.R_putg HO_0.out (x5_1 : Int) x1_1
     go_wp2_with (first|((with_reducible refine gate_store (t:=3) (p:=15) rfl ?_);refine store_event (t:=3) (p:=15) (v:=?vo_w8) (w1:=(wr.setCell ⟨go5,(x5_1 : Int).toNat,none⟩ (.int .i64 x1_1))) ?hg ?ho ?hn ?hr ?_;(case ho => rfl);(case hg => rfl);(case hn => rfl);(case hr => first|(go_simp;done)|(go_simp;rfl));intro w8 hw;have hg : wr.grownBy w8 (some go5):=(by rw [hw];exact HP7.2);have hp_ : Kd.R (Kd.int .i64) 3 w8 w0.heap.size (fun k_ => (P0_ k_ ∨ w.heap.size ≤ k_)) (.slice (some ⟨go5,0,none⟩) x0_1.length co6) y437:=(by rw [hw,Ny437.out];exact HP7.1);clear HP7;have n0_:=mk_ (hp_);have n1_:=mk_ ((by rw [hw];exact bs_ (HB.out) GB5.out : Below w0.heap.size w0 w8));have n2_:=mk_ (Kept.of_grown (S:=(fun k_ => P0_ k_)) hg (u3_ HK) (fun k_ e_ => (HO_0.out.1 k_ e_)));clear HO_0 HB HK;have HO_0:=n0_;have HB:=n1_;have HK:=n2_;clear n0_ n1_ n2_ hg hw hp_))
     go_roundg k1
     case measure => have:=HK1.out;omega
     case rel => exact ⟨(y437),(wrap64 (x1_1 + 1)),(wrap64 (x5_1 + 1)),qf_,qf_,H',⟨by have:=HK1.out;omega⟩,⟨qr_ HO_0⟩,⟨u3_ HK⟩,⟨u0_ HB⟩⟩
    ·rw [if_neg c4] at H
     exact absurd H (by simp)
   ·rw [if_neg c3] at H
    have c3b0 : decide (x5_1 < (x0_1.length : Int)) = false:=decide_eq_false c3
    clear c3
    simp only [Option.some.injEq,Prod.mk.injEq] at H
    obtain ⟨rfl,rfl⟩:=H
    obtain ⟨Ao9,co9,eo9⟩:=Kd.R_slice HO_0.out
    subst eo9
    go_wp2
    go_ret
    exact ⟨qe_,qr_ HO_0,u0_ HB,u3_ HK⟩

/-! ### laws_markLinkRun: function 27 (by hand) -/
def laws_markLinkRun.f (l0_0 : List (List Int)) (a0_1 : Int) (a0_2 : Int) (a0_3 : Bool) (a1 : Int) : Option (Int × List (List Int)) :=
 laws_markByteSS.f l0_0 a1
set_option maxHeartbeats 4000000 in
set_option maxRecDepth 100000 in
theorem laws_markLinkRun.calls (P0_0_ : Nat → Prop) (u9000_ : Value) (l0_0 : List (List Int)) (a0_1 : Int) (a0_2 : Int) (a0_3 : Bool) (a1 : Int) (r1 : Int) (r2 : List (List Int)) (w0 w : World) (hB : Below w0.heap.size w0 w) (ho0_0 : Kd.S (Kd.slice 5 (Kd.int .u8)) 22 w w0.heap.size P0_0_ u9000_ l0_0) (h : laws_markLinkRun.f l0_0 a0_1 a0_2 a0_3 a1 = some (r1,r2)) :
  Calls Try.prog 27 #[.agg #[u9000_,.int .i64 a0_1,.int .i64 a0_2,.bool a0_3],.int .i64 a1] w fun e w' => e = .returned (.int .i64 r1) ∧ Kd.S (Kd.slice 5 (Kd.int .u8)) 22 w' w0.heap.size (fun k_ => (P0_0_ k_ ∨ w.heap.size ≤ k_)) u9000_ r2 ∧ Below w0.heap.size w0 w' ∧ Kept w w' (fun k_ => P0_0_ k_):=by
 unfold laws_markLinkRun.f at h
 have hu:=Try.underlying28
 obtain ⟨A,cap,rfl⟩:=Kd.S_slice ho0_0
 have hb1:=ba_ (Below.refl w.heap.size w) (.cells #[.slice A l0_0.length cap,.int .i64 a0_1,.int .i64 a0_2,.bool a0_3] 28)
 have hcall:=laws_markByteSS.calls P0_0_ (.slice A l0_0.length cap) l0_0 a1 r1 r2 w0 _ (st_ hB hb1) (Kd.S_below ho0_0 hb1) h
 have k0 : (w.alloc (.cells #[.slice A l0_0.length cap,.int .i64 a0_1,.int .i64 a0_2,.bool a0_3] 28)).cell? ⟨w.heap.size,0,none⟩ = some (.slice A l0_0.length cap):=(bc_ (blk_new w (.cells #[.slice A l0_0.length cap,.int .i64 a0_1,.int .i64 a0_2,.bool a0_3] 28)) 0).trans rfl
 have HC:=mk_ hcall
 have HB1:=mk_ hb1
 clear h hB ho0_0 hcall hb1
 go_enter Try.func27,Try.ntmps27
 go_wp2_with fail
 refine HC.out.mono ?_
 rintro e w' ⟨rfl,h1,h2,h3⟩
 go_wp2
 go_ret
 exact ⟨rfl,Kd.S_mono h1 (fun k hk => hk.elim Or.inl (fun h => Or.inr (Nat.le_trans HB1.out.size h))),h2,⟨Nat.le_trans HB1.out.size h3.1,fun i hi hn => (h3.2 i (Nat.lt_of_lt_of_le hi HB1.out.size) hn).trans (HB1.out.block i hi)⟩⟩

/-! ### laws_heldByteS: function 61 -/
def laws_heldByteS.l0 : Nat → List Int → Int → Int → Option (Int)
 | 0,_,_,_ => none
 | k + 1,x0,x1,x5 => if x5 < (x0.length : Int) then (if 0 ≤ x5 then (if (rd x0 x5) = ((x1) % 256) then (laws_heldByteS.l0 k x0 (wrap64 (x1 + 1)) (wrap64 (x5 + 1))) else (some (-1))) else (none)) else (some x1)
def laws_heldByteS.f (k : Nat) (l0 : List Int) (a1 : Int) : Option (Int):=laws_heldByteS.l0 k l0 a1 0
theorem laws_heldByteS.mono_l : ∀ k,(∀ y0 y1 y2,LeO (laws_heldByteS.l0 k y0 y1 y2) (laws_heldByteS.l0 (k + 1) y0 y1 y2))
 | 0 => fun _ _ _ r h => by simp [laws_heldByteS.l0] at h
 | k + 1 => by
  have ih0:=laws_heldByteS.mono_l k
  ·intro y0 y1 y2
   unfold laws_heldByteS.l0
   repeat' first
   | (with_reducible exact ih0 _ _ _)
   | (with_reducible exact LeO.refl _)
   | (with_reducible exact LeO.none _)
   | (with_reducible refine LeO.ite ?_ ?_)
   | (with_reducible refine LeO.bind ?_ (fun _ => ?_))
   | exact ih0 _ _ _
   | exact LeO.none _
   | refine LeO.ite ?_ ?_
   | refine LeO.bind ?_ (fun _ => ?_)
theorem laws_heldByteS.mono : ∀ a0 a1 k,LeO (laws_heldByteS.f k a0 a1) (laws_heldByteS.f (k + 1) a0 a1):=by
 intro a0 a1 k
 have ih0:=laws_heldByteS.mono_l k
 unfold laws_heldByteS.f
 repeat' first
   | (with_reducible exact ih0 _ _ _)
   | (with_reducible exact LeO.refl _)
   | (with_reducible exact LeO.none _)
   | (with_reducible refine LeO.ite ?_ ?_)
   | (with_reducible refine LeO.bind ?_ (fun _ => ?_))
   | exact ih0 _ _ _
   | exact LeO.none _
   | refine LeO.ite ?_ ?_
   | refine LeO.bind ?_ (fun _ => ?_)
set_option maxHeartbeats 8000000 in
set_option maxRecDepth 100000 in
theorem laws_heldByteS.calls (k : Nat) (A0 : Option Addr) (c0 : Nat) (l0 : List Int) (a1 : Int) (r : Int) (w : World) (hr0 : Kd.C (Kd.int .u8) w A0 l0.length l0) (hc0 : l0.length ≤ c0) (h : laws_heldByteS.f k l0 a1 = some r) :
  Calls Try.prog 61 #[.slice A0 l0.length c0,.int .i64 a1] w fun e w' => e = .returned (.int .i64 r) ∧ Drawn0 w w':=by
 have HR0:=mk_ hr0
 have HC0:=mk_ hc0
 clear hr0 hc0
 have H : (laws_heldByteS.l0 k l0 a1 0) = some r:=h
 clear h
 have H':=mk_ H
 clear H
 go_enter Try.func61,Try.ntmps61
 go_wp2
 go_loopg [1,5] k (fun kq v1 v5 w' => ∃ (x1_1 : Int) (x5_1 : Int),v1 = .int .i64 x1_1 ∧ v5 = .int .i64 x5_1 ∧ Aside0 (laws_heldByteS.l0 kq l0 x1_1 x5_1 = some r) ∧ Aside0 (kq ≤ k) ∧ Drawn0 w w')
 case atStart => exact ⟨(a1),(0),qf_,qf_,H',⟨Nat.le_refl _⟩,by repeat (first|exact Drawn0.refl _|apply Drawn0.step)⟩
 case round =>
  clear H'
  try clear p2
  obtain ⟨x1_1,x5_1,rfl,rfl,HA,HK1,⟨m1,rfl⟩⟩:=hrel
  cases gk with
  | zero => exact absurd HA.out (by simp [laws_heldByteS.l0])
  | succ k1 =>
   have H:=HA.out
   clear HA
   simp only [laws_heldByteS.l0] at H
   by_cases c3 : x5_1 < (l0.length : Int)
   ·rw [if_pos c3] at H
    have c3b0 : decide (x5_1 < (l0.length : Int)) = true:=decide_eq_true c3
    clear c3
    by_cases c4 : 0 ≤ x5_1
    ·rw [if_pos c4] at H
     have c4b0 : decide (0 ≤ x5_1) = true:=decide_eq_true c4
     clear c4
     by_cases c5 : (rd l0 x5_1) = ((x1_1) % 256)
     ·rw [if_pos c5] at H
      have c5b0 : ((rd l0 x5_1) == ((x1_1) % 256)) = true:=beq_iff_eq.mpr c5
      have c5b1 : ((rd l0 x5_1) != ((x1_1) % 256)) = false:=bne_eq_false_iff_eq.mpr c5
      clear c5
      have H':=mk_ H
      clear H
      have p438 : 0 ≤ (x5_1 : Int):=od_ qa_
      have q438 : x5_1 < (l0.length : Int):=od_ qa_
      obtain ⟨ad438,e438,hx438_0⟩:=Kd.at_int HR0.out x5_1 p438 q438
      cases e438
      replace p438:=eq_true p438
      replace q438:=eq_true q438
      go_wp2
      go_roundg k1
      case measure => have:=HK1.out;omega
      case rel => exact ⟨(wrap64 (x1_1 + 1)),(wrap64 (x5_1 + 1)),qf_,qf_,H',⟨by have:=HK1.out;omega⟩,by repeat (first|exact Drawn0.refl _|apply Drawn0.step)⟩
     ·rw [if_neg c5] at H
      have c5b0 : ((rd l0 x5_1) == ((x1_1) % 256)) = false:=beq_eq_false_iff_ne.mpr c5
      have c5b1 : ((rd l0 x5_1) != ((x1_1) % 256)) = true:=bne_iff_ne.mpr c5
      obtain rfl:=Option.some.inj H
      have p438 : 0 ≤ (x5_1 : Int):=od_ qa_
      have q438 : x5_1 < (l0.length : Int):=od_ qa_
      obtain ⟨ad438,e438,hx438_0⟩:=Kd.at_int HR0.out x5_1 p438 q438
      cases e438
      replace p438:=eq_true p438
      replace q438:=eq_true q438
      go_wp2
      go_ret
      exact ⟨by first|rfl|(simp;done)|(simp [*];done),by repeat (first|exact Drawn0.refl _|apply Drawn0.step)⟩
    ·rw [if_neg c4] at H
     exact absurd H (by simp)
   ·rw [if_neg c3] at H
    have c3b0 : decide (x5_1 < (l0.length : Int)) = false:=decide_eq_false c3
    clear c3
    obtain rfl:=Option.some.inj H
    go_wp2
    go_ret
    exact ⟨by first|rfl|(simp;done)|(simp [*];done),by repeat (first|exact Drawn0.refl _|apply Drawn0.step)⟩

/-! ### laws_heldByteSS: function 46 -/
def laws_heldByteSS.l0 : Nat → List (List Int) → Int → Int → Option (Int)
 | 0,_,_,_ => none
 | k + 1,x0,x1,x5 => if x5 < (x0.length : Int) then (if 0 ≤ x5 then ((laws_heldByteS.f k (rd_L4 x0 x5) x1).bind fun t440 => (if t440 < 0 then (some (-1)) else (laws_heldByteSS.l0 k x0 t440 (wrap64 (x5 + 1))))) else (none)) else (some x1)
def laws_heldByteSS.f (k : Nat) (l0 : List (List Int)) (a1 : Int) : Option (Int):=laws_heldByteSS.l0 k l0 a1 0
theorem laws_heldByteSS.mono_l : ∀ k,(∀ y0 y1 y2,LeO (laws_heldByteSS.l0 k y0 y1 y2) (laws_heldByteSS.l0 (k + 1) y0 y1 y2))
 | 0 => fun _ _ _ r h => by simp [laws_heldByteSS.l0] at h
 | k + 1 => by
  have ih0:=laws_heldByteSS.mono_l k
  ·intro y0 y1 y2
   unfold laws_heldByteSS.l0
   repeat' first
   | (with_reducible exact ih0 _ _ _)
   | (with_reducible exact laws_heldByteS.mono _ _ _)
   | (with_reducible exact LeO.refl _)
   | (with_reducible exact LeO.none _)
   | (with_reducible refine LeO.ite ?_ ?_)
   | (with_reducible refine LeO.bind ?_ (fun _ => ?_))
   | exact ih0 _ _ _
   | exact laws_heldByteS.mono _ _ _
   | exact LeO.none _
   | refine LeO.ite ?_ ?_
   | refine LeO.bind ?_ (fun _ => ?_)
theorem laws_heldByteSS.mono : ∀ a0 a1 k,LeO (laws_heldByteSS.f k a0 a1) (laws_heldByteSS.f (k + 1) a0 a1):=by
 intro a0 a1 k
 have ih0:=laws_heldByteSS.mono_l k
 unfold laws_heldByteSS.f
 repeat' first
   | (with_reducible exact ih0 _ _ _)
   | (with_reducible exact laws_heldByteS.mono _ _ _)
   | (with_reducible exact LeO.refl _)
   | (with_reducible exact LeO.none _)
   | (with_reducible refine LeO.ite ?_ ?_)
   | (with_reducible refine LeO.bind ?_ (fun _ => ?_))
   | exact ih0 _ _ _
   | exact laws_heldByteS.mono _ _ _
   | exact LeO.none _
   | refine LeO.ite ?_ ?_
   | refine LeO.bind ?_ (fun _ => ?_)
set_option maxHeartbeats 8000000 in
set_option maxRecDepth 100000 in
theorem laws_heldByteSS.calls (k : Nat) (A0 : Option Addr) (c0 : Nat) (l0 : List (List Int)) (a1 : Int) (r : Int) (w : World) (hr0 : Kd.C (Kd.slice 5 (Kd.int .u8)) w A0 l0.length l0) (hc0 : l0.length ≤ c0) (h : laws_heldByteSS.f k l0 a1 = some r) :
  Calls Try.prog 46 #[.slice A0 l0.length c0,.int .i64 a1] w fun e w' => e = .returned (.int .i64 r) ∧ Drawn0 w w':=by
 have HR0:=mk_ hr0
 have HC0:=mk_ hc0
 clear hr0 hc0
 have H : (laws_heldByteSS.l0 k l0 a1 0) = some r:=h
 clear h
 have H':=mk_ H
 clear H
 go_enter Try.func46,Try.ntmps46
 go_wp2
 go_loopg [1,5] k (fun kq v1 v5 w' => ∃ (x1_1 : Int) (x5_1 : Int),v1 = .int .i64 x1_1 ∧ v5 = .int .i64 x5_1 ∧ Aside0 (laws_heldByteSS.l0 kq l0 x1_1 x5_1 = some r) ∧ Aside0 (kq ≤ k) ∧ Drawn0 w w')
 case atStart => exact ⟨(a1),(0),qf_,qf_,H',⟨Nat.le_refl _⟩,by repeat (first|exact Drawn0.refl _|apply Drawn0.step)⟩
 case round =>
  clear H'
  try clear p2
  obtain ⟨x1_1,x5_1,rfl,rfl,HA,HK1,⟨m1,rfl⟩⟩:=hrel
  cases gk with
  | zero => exact absurd HA.out (by simp [laws_heldByteSS.l0])
  | succ k1 =>
   have H:=HA.out
   clear HA
   simp only [laws_heldByteSS.l0] at H
   by_cases c3 : x5_1 < (l0.length : Int)
   ·rw [if_pos c3] at H
    have c3b0 : decide (x5_1 < (l0.length : Int)) = true:=decide_eq_true c3
    clear c3
    by_cases c4 : 0 ≤ x5_1
    ·rw [if_pos c4] at H
     have c4b0 : decide (0 ≤ x5_1) = true:=decide_eq_true c4
     clear c4
     replace H:=Option.bind_eq_some_iff.mp H
     obtain ⟨t440,A50,H⟩:=H
     replace H : (if t440 < 0 then (some (-1)) else (laws_heldByteSS.l0 k1 l0 t440 (wrap64 (x5_1 + 1)))) = some r:=H
     have A5:=mk_ A50
     clear A50
     by_cases c6 : t440 < 0
     ·rw [if_pos c6] at H
      have c6b0 : decide (t440 < 0) = true:=decide_eq_true c6
      clear c6
      obtain rfl:=Option.some.inj H
      have p439 : 0 ≤ (x5_1 : Int):=od_ qa_
      have q439 : x5_1 < (l0.length : Int):=od_ qa_
      obtain ⟨ad439,A439_0,c439_0,e439,hx439_0,hl439_0,hi439_0⟩:=at_L4 HR0.out x5_1 p439 q439
      cases e439
      have HR439_0:=mk_ hi439_0
      have HC439_0:=mk_ hl439_0
      clear hi439_0 hl439_0
      replace p439:=eq_true p439
      replace q439:=eq_true q439
      go_wp2_with (first|((with_reducible refine gate_callee (f:=61) rfl ?_);refine goesL_ (some 17) rfl rfl Try.func61 (by kernel_rfl) rfl #[.slice A439_0 (rd_L4 l0 x5_1).length c439_0,.int .i64 x1_1] rfl qm_ ?_;(with_reducible refine (laws_heldByteS.calls k1 _ _ (rd_L4 l0 x5_1) x1_1 t440 _ ?side1 ?side2 A5.out).mono ?_);(case side1 => repeat (first|exact HR439_0.out|(with_reducible refine ca_ ?_ _)|(with_reducible refine cn_ ?_ _)|(with_reducible refine cd_ ?_)));(case side2 => exact HC439_0.out);rintro e w' ⟨rfl,⟨nd,rfl⟩⟩;refine ⟨_,rfl,?_⟩))
      go_ret
      exact ⟨by first|rfl|(simp;done)|(simp [*];done),by repeat (first|exact Drawn0.refl _|apply Drawn0.step)⟩
     ·rw [if_neg c6] at H
      have c6b0 : decide (t440 < 0) = false:=decide_eq_false c6
      clear c6
      have H':=mk_ H
      clear H
      have p439 : 0 ≤ (x5_1 : Int):=od_ qa_
      have q439 : x5_1 < (l0.length : Int):=od_ qa_
      obtain ⟨ad439,A439_0,c439_0,e439,hx439_0,hl439_0,hi439_0⟩:=at_L4 HR0.out x5_1 p439 q439
      cases e439
      have HR439_0:=mk_ hi439_0
      have HC439_0:=mk_ hl439_0
      clear hi439_0 hl439_0
      replace p439:=eq_true p439
      replace q439:=eq_true q439
      go_wp2_with (first|((with_reducible refine gate_callee (f:=61) rfl ?_);refine goesL_ (some 17) rfl rfl Try.func61 (by kernel_rfl) rfl #[.slice A439_0 (rd_L4 l0 x5_1).length c439_0,.int .i64 x1_1] rfl qm_ ?_;(with_reducible refine (laws_heldByteS.calls k1 _ _ (rd_L4 l0 x5_1) x1_1 t440 _ ?side1 ?side2 A5.out).mono ?_);(case side1 => repeat (first|exact HR439_0.out|(with_reducible refine ca_ ?_ _)|(with_reducible refine cn_ ?_ _)|(with_reducible refine cd_ ?_)));(case side2 => exact HC439_0.out);rintro e w' ⟨rfl,⟨nd,rfl⟩⟩;refine ⟨_,rfl,?_⟩))
      go_roundg k1
      case measure => have:=HK1.out;omega
      case rel => exact ⟨(t440),(wrap64 (x5_1 + 1)),qf_,qf_,H',⟨by have:=HK1.out;omega⟩,by repeat (first|exact Drawn0.refl _|apply Drawn0.step)⟩
    ·rw [if_neg c4] at H
     exact absurd H (by simp)
   ·rw [if_neg c3] at H
    have c3b0 : decide (x5_1 < (l0.length : Int)) = false:=decide_eq_false c3
    clear c3
    obtain rfl:=Option.some.inj H
    go_wp2
    go_ret
    exact ⟨by first|rfl|(simp;done)|(simp [*];done),by repeat (first|exact Drawn0.refl _|apply Drawn0.step)⟩

/-! ### laws_heldLinkRun: function 28 -/
def laws_heldLinkRun.f (k : Nat) (l0_0 : List (List Int)) (a0_1 : Int) (a0_2 : Int) (a0_3 : Bool) (a1 : Int) : Option (Int):=(laws_heldByteSS.f k l0_0 a1).bind fun t442 => (if t442 < 0 then (some (-1)) else (some t442))
theorem laws_heldLinkRun.mono : ∀ a0 a1 a2 a3 a4 k,LeO (laws_heldLinkRun.f k a0 a1 a2 a3 a4) (laws_heldLinkRun.f (k + 1) a0 a1 a2 a3 a4):=by
 intro a0 a1 a2 a3 a4 k
 unfold laws_heldLinkRun.f
 repeat' first
   | (with_reducible exact laws_heldByteSS.mono _ _ _)
   | (with_reducible exact LeO.refl _)
   | (with_reducible exact LeO.none _)
   | (with_reducible refine LeO.ite ?_ ?_)
   | (with_reducible refine LeO.bind ?_ (fun _ => ?_))
   | exact laws_heldByteSS.mono _ _ _
   | exact LeO.none _
   | refine LeO.ite ?_ ?_
   | refine LeO.bind ?_ (fun _ => ?_)
set_option maxHeartbeats 8000000 in
set_option maxRecDepth 100000 in
theorem laws_heldLinkRun.calls (k : Nat) (A0_0 : Option Addr) (c0_0 : Nat) (l0_0 : List (List Int)) (a0_1 : Int) (a0_2 : Int) (a0_3 : Bool) (a1 : Int) (r : Int) (w : World) (hr0_0 : Kd.C (Kd.slice 5 (Kd.int .u8)) w A0_0 l0_0.length l0_0) (hc0_0 : l0_0.length ≤ c0_0) (h : laws_heldLinkRun.f k l0_0 a0_1 a0_2 a0_3 a1 = some r) :
  Calls Try.prog 28 #[.agg #[.slice A0_0 l0_0.length c0_0,.int .i64 a0_1,.int .i64 a0_2,.bool a0_3],.int .i64 a1] w fun e w' => e = .returned (.int .i64 r) ∧ Below w.heap.size w w':=by
 have hu28:=Try.underlying28
 have HR0_0:=mk_ hr0_0
 have HC0_0:=mk_ hc0_0
 clear hr0_0 hc0_0
 have HB:=mk_ (Below.refl w.heap.size w)
 have H : ((laws_heldByteSS.f k l0_0 a1).bind fun t442 => (if t442 < 0 then (some (-1)) else (some t442))) = some r:=h
 clear h
 replace H:=Option.bind_eq_some_iff.mp H
 obtain ⟨t442,A30,H⟩:=H
 replace H : (if t442 < 0 then (some (-1)) else (some t442)) = some r:=H
 have A3:=mk_ A30
 clear A30
 by_cases c4 : t442 < 0
 ·rw [if_pos c4] at H
  have c4b0 : decide (t442 < 0) = true:=decide_eq_true c4
  clear c4
  obtain rfl:=Option.some.inj H
  go_enter Try.func28,Try.ntmps28
  go_wp2_with (first|((with_reducible refine gate_dst (N:=2) rfl ?_);refine box_event ?hg (N:=2) ?hd (cs:=#[.slice A0_0 l0_0.length c0_0,.int .i64 a0_1,.int .i64 a0_2,.bool a0_3]) (t:=28) ?hr ?_;(case hd => rfl);(case hg => rfl);(case hr => first|(go_simp;done)|(go_simp;rfl));intro gb441 hg w5 hbox hb;have n0_:=mk_ (st_ (qb_ HB) hb);have n1_:=mk_ (hbox);have n2_:=mk_ ((by rw [hg];exact (bz_ (qb_ HB)) : w.heap.size ≤ gb441));have n3_:=mk_ ((by rw [hg];exact (bz_ (qb_ HB)) : w.heap.size ≤ gb441));clear HB;have HB:=n0_;have BK441:=n1_;have GW441:=n2_;have GE441:=n3_;clear n0_ n1_ n2_ n3_ hb hbox hg;have hcz6_0 : w5.cell? ⟨gb441,0,none⟩ = some (.slice A0_0 l0_0.length c0_0):=(bc_ BK441.out 0).trans rfl;have hcz6_1 : w5.cell? ⟨gb441,1,none⟩ = some (.int .i64 a0_1):=(bc_ BK441.out 1).trans rfl;have hcz6_2 : w5.cell? ⟨gb441,2,none⟩ = some (.int .i64 a0_2):=(bc_ BK441.out 2).trans rfl;have hcz6_3 : w5.cell? ⟨gb441,3,none⟩ = some (.bool a0_3):=(bc_ BK441.out 3).trans rfl;have hfz6_0:=bf_ BK441.out 0;have hfz6_1:=bf_ BK441.out 1;have hfz6_2:=bf_ BK441.out 2;have hfz6_3:=bf_ BK441.out 3)|((with_reducible refine gate_callee (f:=46) rfl ?_);refine goesL_ (some 8) rfl rfl Try.func46 (by kernel_rfl) rfl #[.slice A0_0 l0_0.length c0_0,.int .i64 a1] rfl qm_ ?_;(with_reducible refine (laws_heldByteSS.calls k _ _ l0_0 a1 t442 _ ?side1 ?side2 A3.out).mono ?_);(case side1 => exact qn_ HR0_0 HB);(case side2 => exact HC0_0.out);rintro e w' ⟨rfl,⟨nd,rfl⟩⟩;refine ⟨_,rfl,?_⟩))
  go_ret
  exact ⟨qe_,u1_ HB GE441⟩
 ·rw [if_neg c4] at H
  have c4b0 : decide (t442 < 0) = false:=decide_eq_false c4
  clear c4
  obtain rfl:=Option.some.inj H
  go_enter Try.func28,Try.ntmps28
  go_wp2_with (first|((with_reducible refine gate_dst (N:=2) rfl ?_);refine box_event ?hg (N:=2) ?hd (cs:=#[.slice A0_0 l0_0.length c0_0,.int .i64 a0_1,.int .i64 a0_2,.bool a0_3]) (t:=28) ?hr ?_;(case hd => rfl);(case hg => rfl);(case hr => first|(go_simp;done)|(go_simp;rfl));intro gb441 hg w7 hbox hb;have n0_:=mk_ (st_ (qb_ HB) hb);have n1_:=mk_ (hbox);have n2_:=mk_ ((by rw [hg];exact (bz_ (qb_ HB)) : w.heap.size ≤ gb441));have n3_:=mk_ ((by rw [hg];exact (bz_ (qb_ HB)) : w.heap.size ≤ gb441));clear HB;have HB:=n0_;have BK441:=n1_;have GW441:=n2_;have GE441:=n3_;clear n0_ n1_ n2_ n3_ hb hbox hg;have hcz8_0 : w7.cell? ⟨gb441,0,none⟩ = some (.slice A0_0 l0_0.length c0_0):=(bc_ BK441.out 0).trans rfl;have hcz8_1 : w7.cell? ⟨gb441,1,none⟩ = some (.int .i64 a0_1):=(bc_ BK441.out 1).trans rfl;have hcz8_2 : w7.cell? ⟨gb441,2,none⟩ = some (.int .i64 a0_2):=(bc_ BK441.out 2).trans rfl;have hcz8_3 : w7.cell? ⟨gb441,3,none⟩ = some (.bool a0_3):=(bc_ BK441.out 3).trans rfl;have hfz8_0:=bf_ BK441.out 0;have hfz8_1:=bf_ BK441.out 1;have hfz8_2:=bf_ BK441.out 2;have hfz8_3:=bf_ BK441.out 3)|((with_reducible refine gate_callee (f:=46) rfl ?_);refine goesL_ (some 8) rfl rfl Try.func46 (by kernel_rfl) rfl #[.slice A0_0 l0_0.length c0_0,.int .i64 a1] rfl qm_ ?_;(with_reducible refine (laws_heldByteSS.calls k _ _ l0_0 a1 t442 _ ?side1 ?side2 A3.out).mono ?_);(case side1 => exact qn_ HR0_0 HB);(case side2 => exact HC0_0.out);rintro e w' ⟨rfl,⟨nd,rfl⟩⟩;refine ⟨_,rfl,?_⟩))
  go_ret
  exact ⟨qe_,u1_ HB GE441⟩

-- LIB exrun
/-- What the walk of FnExactRunLink keeps, told from a world U on: the two rows of numbers, the answer's rows, its box. -/
structure XB (eB eS eI : Nat) (U W : World) (p2 p3 pg ph : Nat) (v2 v3 vg : Value) (l2 l3 : List Int) (g : List (List Int)) (bx : Nat) (ob : Obj) : Prop where
  bel : Below U.heap.size U W
  lo : U.heap.size ≤ p2 ∧ p2 ≤ p3 ∧ p3 ≤ pg ∧ pg ≤ ph ∧ ph ≤ bx
  r2 : Kd.R (Kd.int .i64) eI W U.heap.size (fun k => p2 ≤ k ∧ k < p3) v2 l2
  r3 : Kd.R (Kd.int .i64) eI W U.heap.size (fun k => p3 ≤ k ∧ k < pg) v3 l3
  sg : Kd.S (Kd.slice eB (Kd.int .u8)) eS W U.heap.size (fun k => pg ≤ k ∧ k < ph) vg g
  bx : W.heap[bx]? = some ob
theorem S_rng {α : Type} {d : Kd α} {e base : Nat} {ok : Nat → Prop} {W : World} {v : Value} {xs : List α} (h : Kd.S d e W base ok v xs) : Kd.S d e W base (fun k => base ≤ k ∧ k < W.heap.size) v xs:=Kd.S_mono (Kd.S_bound h) (fun _ hk => ⟨hk.2.1,hk.2.2.1⟩)
theorem R_rng {α : Type} {d : Kd α} {e base : Nat} {ok : Nat → Prop} {W : World} {v : Value} {xs : List α} (h : Kd.R d e W base ok v xs) : Kd.R d e W base (fun k => base ≤ k ∧ k < W.heap.size) v xs:=Kd.R_mono (Kd.R_bound h) (fun _ hk => ⟨hk.2.1,hk.2.2.1⟩)
section
variable {eB eS eI : Nat} {U W W' : World} {p2 p3 pg ph : Nat} {v2 v3 vg : Value} {l2 l3 : List Int} {g : List (List Int)} {bx : Nat} {ob : Obj}
theorem XB.below (h : XB eB eS eI U W p2 p3 pg ph v2 v3 vg l2 l3 g bx ob) (hb : Below W.heap.size W W') : XB eB eS eI U W' p2 p3 pg ph v2 v3 vg l2 l3 g bx ob :=
  ⟨below_step h.bel hb,h.lo,Kd.R_below h.r2 hb,Kd.R_below h.r3 hb,Kd.S_below h.sg hb,blk_below h.bx hb⟩
/-- Rows ahead of these are written. -/
theorem XB.ahead (h : XB eB eS eI U W p2 p3 pg ph v2 v3 vg l2 l3 g bx ob) {S : Nat → Prop} (hk : Kept W W' S) (hS : ∀ k,S k → k < p2) (hb : Below U.heap.size U W') : XB eB eS eI U W' p2 p3 pg ph v2 v3 vg l2 l3 g bx ob:=by
  obtain ⟨q1,q2,q3,q4,q5⟩:=h.lo
  exact ⟨hb,h.lo,Kd.R_kept h.r2 hk (fun k hk h2 => by have:=hS k h2;omega),Kd.R_kept h.r3 hk (fun k hk h2 => by have:=hS k h2;omega),Kd.S_kept h.sg hk (fun k hk h2 => by have:=hS k h2;omega),blk_kept h.bx hk (fun h2 => by have:=hS _ h2;omega)⟩
end
/-- .. without the first row. -/
structure XC (eB eS eI : Nat) (U W : World) (p3 pg ph : Nat) (v3 vg : Value) (l3 : List Int) (g : List (List Int)) (bx : Nat) (ob : Obj) : Prop where
  bel : Below U.heap.size U W
  lo : U.heap.size ≤ p3 ∧ p3 ≤ pg ∧ pg ≤ ph ∧ ph ≤ bx
  r3 : Kd.R (Kd.int .i64) eI W U.heap.size (fun k => p3 ≤ k ∧ k < pg) v3 l3
  sg : Kd.S (Kd.slice eB (Kd.int .u8)) eS W U.heap.size (fun k => pg ≤ k ∧ k < ph) vg g
  bx : W.heap[bx]? = some ob
/-- .. without both. -/
structure XD (eB eS : Nat) (U W : World) (ok : Nat → Prop) (vg : Value) (g : List (List Int)) (bx : Nat) (ob : Obj) : Prop where
  bel : Below U.heap.size U W
  sg : Kd.S (Kd.slice eB (Kd.int .u8)) eS W U.heap.size ok vg g
  bx : W.heap[bx]? = some ob
section
variable {eB eS eI : Nat} {U W W' : World} {p2 p3 pg ph : Nat} {v2 v3 vg : Value} {l2 l3 : List Int} {g : List (List Int)} {bx : Nat} {ob : Obj} {ok : Nat → Prop}
theorem XB.second (h : XB eB eS eI U W p2 p3 pg ph v2 v3 vg l2 l3 g bx ob) {S : Nat → Prop} (hk : Kept W W' S) (hS : ∀ k,S k → p2 ≤ k ∧ k < p3) (hb : Below U.heap.size U W') : XC eB eS eI U W' p3 pg ph v3 vg l3 g bx ob:=by
  obtain ⟨q1,q2,q3,q4,q5⟩:=h.lo
  exact ⟨hb,⟨by omega,q3,q4,q5⟩,Kd.R_kept h.r3 hk (fun k hk h2 => by have:=hS k h2;omega),Kd.S_kept h.sg hk (fun k hk h2 => by have:=hS k h2;omega),blk_kept h.bx hk (fun h2 => by have:=hS _ h2;omega)⟩
theorem XC.third (h : XC eB eS eI U W p3 pg ph v3 vg l3 g bx ob) {S : Nat → Prop} (hk : Kept W W' S) (hS : ∀ k,S k → p3 ≤ k ∧ k < pg) (hb : Below U.heap.size U W') : XD eB eS U W' (fun k => pg ≤ k ∧ k < ph) vg g bx ob:=by
  obtain ⟨q1,q3,q4,q5⟩:=h.lo
  exact ⟨hb,Kd.S_kept h.sg hk (fun k hk h2 => by have:=hS k h2;omega),blk_kept h.bx hk (fun h2 => by have:=hS _ h2;omega)⟩
theorem XD.below (h : XD eB eS U W ok vg g bx ob) (hb : Below W.heap.size W W') : XD eB eS U W' ok vg g bx ob :=
  ⟨below_step h.bel hb,Kd.S_below h.sg hb,blk_below h.bx hb⟩
end
theorem cells4 {W : World} {b t : Nat} {a0 a1 a2 a3 : Value} (h : W.heap[b]? = some (.cells #[a0, a1, a2, a3] t (0, 0))) :
    W.cell? ⟨b,0,none⟩ = some a0 ∧ W.cell? ⟨b,1,none⟩ = some a1 ∧ W.cell? ⟨b,2,none⟩ = some a2 ∧ W.cell? ⟨b,3,none⟩ = some a3 :=
  ⟨(blk_cell h 0).trans rfl,(blk_cell h 1).trans rfl,(blk_cell h 2).trans rfl,(blk_cell h 3).trans rfl⟩

-- LIB rowopen
/-- What reads as data of a type is of a kind; its lengths are a slice's, its numbers are of their kinds. -/
structure Opn {α : Type} (P : Program) (d : Kd α) (t : TypeId) (wf : α → Prop) : Prop where
  out : ∀ {H : Type} (enc : TypeId × Value → H) (w : World) (fuel : Nat) (cs : List Value) (x : DataW H × List MemPlace),DataW.trod enc P w 0 (fun _ => true) true fuel t cs = some x → ∃ a,d.K w a cs ∧ wf a
theorem opn_int {P : Program} {t : TypeId} {k : IntKind} (ht : P.underlying t = some (.int k)) : Opn P (Kd.int k) t (fun n => (Lit.int k n).wf = true):=by
  constructor
  intro H enc w fuel cs x h
  obtain ⟨n,rfl,_,hw⟩:=DataW.trod_int ht h
  exact ⟨n,rfl,hw⟩
theorem opn_bool {P : Program} {t : TypeId} (ht : P.underlying t = some .bool) : Opn P Kd.bool t (fun _ => True):=by
  constructor
  intro H enc w fuel cs x h
  obtain ⟨b,rfl,_⟩:=DataW.trod_bool ht h
  exact ⟨b,rfl,trivial⟩
theorem opn_slice {α : Type} {P : Program} {d : Kd α} {t e : TypeId} {wf : α → Prop} (ht : P.underlying t = some (.slice e)) (hc : P.cellsOf e = d.sz) (h : Opn P d e wf) : Opn P (Kd.slice e d) t (fun l => l.length ≤ maxLen ∧ ∀ x ∈ l,wf x):=by
  constructor
  intro H enc w fuel cs x hx
  rcases Go.Deep.open_slice ht hx with ⟨rfl,_⟩ | ⟨a,len,cap,m,n,D,Pl,rfl,_,hl,hm,hmm,_,hel⟩
  · exact ⟨[],⟨none,0,rfl,Nat.le_refl _,Kd.C_nil d w⟩,by simp,by simp⟩
  · have hlm : len ≤ m:=by rw [hmm];simp;exact hl
    have hch : ∀ i : Fin len,∃ p : α,∃ c,w.cells? 0 (a.add (i.1 * d.sz)) d.sz = some c ∧ d.K w p c ∧ wf p:=by
      intro i
      obtain ⟨c,h1,h2⟩:=hel i.1 (by omega)
      obtain ⟨p,h3,h4⟩:=h.out enc w n c _ h2
      rw [hc] at h1
      exact ⟨p,c,h1,h3,h4⟩
    obtain ⟨f,hf⟩ : ∃ f : Fin len → α,∀ i : Fin len,∃ c,w.cells? 0 (a.add (i.1 * d.sz)) d.sz = some c ∧ d.K w (f i) c ∧ wf (f i):=⟨fun i => Classical.choose (hch i),fun i => Classical.choose_spec (hch i)⟩
    have hlen : (List.ofFn f).length = len:=List.length_ofFn
    refine ⟨List.ofFn f,⟨some a,cap,by rw [hlen],by omega,hlen.symm ▸ rfl,?_,fun hn => ⟨a,rfl,?_⟩⟩,by rw [hlen];omega,?_⟩
    · rw [hlen];unfold maxLen at hm;omega
    · intro j p hj
      have hjl : j < len:=by rw [← hlen];exact (List.getElem?_eq_some_iff.1 hj).1
      obtain ⟨c,h1,h2,_⟩:=hf ⟨j,hjl⟩
      obtain ⟨_,h3,h4⟩:=World.cells?_some h1
      rw [List.getElem?_ofFn,dif_pos hjl] at hj
      injection hj with hj
      rw [← hj]
      refine ⟨c,h3,h2,fun i u hu => ?_⟩
      have hi : i < d.sz:=by rw [← h3];exact (List.getElem?_eq_some_iff.1 hu).1
      have:=h4 i hi
      rw [hu] at this
      rw [← this,Addr.add_add]
    · intro p hp
      obtain ⟨i,rfl⟩:=(List.mem_ofFn).1 hp
      obtain ⟨_,_,_,hw⟩:=hf i
      exact hw
/-- A parameter that is a slice. -/
theorem open_rowC {α : Type} {P : Program} {d : Kd α} {t e : TypeId} {wf : List α → Prop} {H : Type} {enc : TypeId × Value → H} {w : World} {a : Option Addr} {len cap : Nat} {dd : DataW H} {p : List MemPlace} (h : Opn P (Kd.slice e d) t wf) (hx : DataW.Trod enc P w 0 (fun _ => true) true t (.slice a len cap) dd p) :
    ∃ l : List α,len = l.length ∧ l.length ≤ cap ∧ d.C w a l.length l ∧ wf l:=by
  obtain ⟨fuel,hf⟩:=hx
  obtain ⟨l,⟨A,c,hcs,h1,h2⟩,h3⟩:=h.out enc w fuel _ _ hf
  simp only [Value.cells] at hcs
  have e:=List.singleton_inj.1 hcs
  cases e
  exact ⟨l,rfl,h1,h2,h3⟩
/-- A parameter that is a struct. -/
theorem open_aggK {α : Type} {P : Program} {d : Kd α} {t : TypeId} {wf : α → Prop} {H : Type} {enc : TypeId × Value → H} {w : World} {cs : Array Value} {dd : DataW H} {p : List MemPlace} (h : Opn P d t wf) (hx : DataW.Trod enc P w 0 (fun _ => true) true t (.agg cs) dd p) : ∃ x : α,d.K w x cs.toList ∧ wf x:=by
  obtain ⟨fuel,hf⟩:=hx
  exact h.out enc w fuel _ _ hf

/-! ### laws_FnExactRunLink: function 8 (by hand) -/
def laws_FnExactRunLink.f (k : Nat) (a0 : Int) (l1 : List (List Int)) (l2 : List Int) (l3 : List Int) (a4 : Int) : Option (Bool) :=
 if (l2.length : Int) > 1048576 then some true else if (l3.length : Int) > 1048576 then some true else (laws_szByteSS.f k l1 1048576).bind fun t => if t < 0 then some true else
  (laws_toByteSS.f k l1).bind fun y1 => (laws_toIntS.f k l2).bind fun y2 => (laws_toIntS.f k l3).bind fun y3 => (spec_RunLink.f k a0 l1 l2 l3 a4).bind fun b => (impl_RunLink.f a0 l1 l2 l3 a4).bind fun a =>
  (laws_eqLinkRun.f k a.1 a.2.1 a.2.2.1 a.2.2.2.1 a.1 a.2.1 a.2.2.1 a.2.2.2.1).bind fun e0 => (laws_eqByteSS.f k l1 l1).bind fun e1 => (laws_eqIntS.f k l2 l2).bind fun e2 => (laws_eqIntS.f k l3 l3).bind fun e3 =>
  (laws_markByteSS.f l1 1).bind fun m1 => (laws_markIntS.f k l2 m1.1).bind fun m2 => (laws_markIntS.f k l3 m2.1).bind fun m3 => (laws_markLinkRun.f a.1 a.2.1 a.2.2.1 a.2.2.2.1 1).bind fun m => (laws_heldLinkRun.f k m.2 a.2.1 a.2.2.1 a.2.2.2.1 1).bind fun q =>
  if l1 = y1 ∧ l2 = y2 ∧ l3 = y3 ∧ a = b ∧ e0 = true ∧ e1 = true ∧ e2 = true ∧ e3 = true ∧ 0 ≤ m3.1 ∧ m.1 = q ∧ 0 ≤ m.1 then some true else none
set_option maxHeartbeats 4000000 in
set_option maxRecDepth 100000 in
theorem laws_FnExactRunLink.calls (k : Nat) (a0 : Int) (A1 : Option Addr) (c1 : Nat) (l1 : List (List Int)) (A2 : Option Addr) (c2 : Nat) (l2 : List Int) (A3 : Option Addr) (c3 : Nat) (l3 : List Int) (a4 : Int) (r : Bool) (w : World) (hr1 : Kd.C (Kd.slice 5 (Kd.int .u8)) w A1 l1.length l1) (hc1 : l1.length ≤ c1) (hr2 : Kd.C (Kd.int .i64) w A2 l2.length l2) (hc2 : l2.length ≤ c2) (hr3 : Kd.C (Kd.int .i64) w A3 l3.length l3) (hc3 : l3.length ≤ c3) (h : laws_FnExactRunLink.f k a0 l1 l2 l3 a4 = some r) :
  Calls Try.prog 8 #[.int .i64 a0,.slice A1 l1.length c1,.slice A2 l2.length c2,.slice A3 l3.length c3,.int .i64 a4] w fun e w' => e = .returned (.bool r) ∧ Below w.heap.size w w':=by
 unfold laws_FnExactRunLink.f at h
 have hu:=Try.underlying28
 have hlen2:=Kd.C_max hr2
 have hlen3:=Kd.C_max hr3
 by_cases c2_ : (l2.length : Int) > 1048576
 ·rw [if_pos c2_] at h
  obtain rfl:=Option.some.inj h
  have p1 : (1048576 < (l2.length : Int)) = True:=eq_true c2_
  clear h hr1 hc1 hr2 hc2 hr3 hc3 c2_
  go_enter Try.func8,Try.ntmps8
  go_wp2
  go_ret
  exact ⟨rfl,Below.refl _ _⟩
 rw [if_neg c2_] at h
 have p1 : (1048576 < (l2.length : Int)) = False:=eq_false c2_
 by_cases c3_ : (l3.length : Int) > 1048576
 ·rw [if_pos c3_] at h
  obtain rfl:=Option.some.inj h
  have p2 : (1048576 < (l3.length : Int)) = True:=eq_true c3_
  clear h hr1 hc1 hr2 hc2 hr3 hc3 c2_ c3_
  go_enter Try.func8,Try.ntmps8
  go_wp2
  go_ret
  exact ⟨rfl,Below.refl _ _⟩
 rw [if_neg c3_] at h
 have p2 : (1048576 < (l3.length : Int)) = False:=eq_false c3_
 replace h:=Option.bind_eq_some_iff.mp h
 obtain ⟨t,hT,h⟩:=h
 have HSZ:=mk_ (laws_szByteSS.calls k A1 c1 l1 1048576 t w hr1 hc1 hT)
 have HR1:=mk_ hr1
 have HR2:=mk_ hr2
 have HR3:=mk_ hr3
 by_cases ct : t < 0
 ·rw [if_pos ct] at h
  obtain rfl:=Option.some.inj h
  have p3 : (t < 0) = True:=eq_true ct
  clear h hr1 hr2 hr3 c2_ c3_ ct hT
  go_enter Try.func8,Try.ntmps8
  go_wp2_with fail
  refine HSZ.out.mono ?_
  rintro e w1 ⟨rfl,hd1⟩
  go_wp2
  go_ret
  exact ⟨rfl,hd1.below⟩
 rw [if_neg ct] at h
 have p3 : (t < 0) = False:=eq_false ct
 replace h:=Option.bind_eq_some_iff.mp h
 obtain ⟨y1,hY1,h⟩:=h
 replace h:=Option.bind_eq_some_iff.mp h
 obtain ⟨y2,hY2,h⟩:=h
 replace h:=Option.bind_eq_some_iff.mp h
 obtain ⟨y3,hY3,h⟩:=h
 replace h:=Option.bind_eq_some_iff.mp h
 obtain ⟨b,hS,h⟩:=h
 replace h:=Option.bind_eq_some_iff.mp h
 obtain ⟨⟨g,g2,g3,g4,g5⟩,hA,h⟩:=h
 replace h:=Option.bind_eq_some_iff.mp h
 obtain ⟨e0,hE0,h⟩:=h
 replace h:=Option.bind_eq_some_iff.mp h
 obtain ⟨e1,hE1,h⟩:=h
 replace h:=Option.bind_eq_some_iff.mp h
 obtain ⟨e2,hE2,h⟩:=h
 replace h:=Option.bind_eq_some_iff.mp h
 obtain ⟨e3,hE3,h⟩:=h
 replace h:=Option.bind_eq_some_iff.mp h
 obtain ⟨⟨n1,z1⟩,hM1,h⟩:=h
 replace h:=Option.bind_eq_some_iff.mp h
 obtain ⟨⟨n2,z2⟩,hM2,h⟩:=h
 replace h:=Option.bind_eq_some_iff.mp h
 obtain ⟨⟨n3,z3⟩,hM3,h⟩:=h
 replace h:=Option.bind_eq_some_iff.mp h
 obtain ⟨⟨n4,zg⟩,hML,h⟩:=h
 replace h:=Option.bind_eq_some_iff.mp h
 obtain ⟨q,hHL,h⟩:=h
 by_cases hc : l1 = y1 ∧ l2 = y2 ∧ l3 = y3 ∧ (g,g2,g3,g4,g5) = b ∧ e0 = true ∧ e1 = true ∧ e2 = true ∧ e3 = true ∧ 0 ≤ n3 ∧ n4 = q ∧ 0 ≤ n4
 ·rw [if_pos hc] at h
  obtain rfl:=Option.some.inj h
  obtain ⟨rfl,rfl,rfl,rfl,rfl,rfl,rfl,rfl,hn3,rfl,hn4⟩:=hc
  have p4 : (n3 < 0) = False:=eq_false (by omega)
  have p5 : (n4 < 0) = False:=eq_false (by omega)
  have HT1:=mk_ (fun W hC => laws_toByteSS.calls k A1 c1 l1 l1 W hC hc1 hY1)
  have HT2:=mk_ (fun W hC => laws_toIntS.calls k A2 c2 l2 l2 W hC hc2 hY2)
  have HT3:=mk_ (fun W hC => laws_toIntS.calls k A3 c3 l3 l3 W hC hc3 hY3)
  have HSP:=mk_ (fun A c A' c' A'' c'' W hC hc hC2 hc2 hC3 hc3 => spec_RunLink.calls k a0 A c l1 A' c' l2 A'' c'' l3 a4 g g2 g3 g4 g5 W hC hc hC2 hc2 hC3 hc3 hS)
  have HIM:=mk_ (fun A c A' c' A'' c'' W hC hc hC2 hc2 hC3 hc3 => impl_RunLink.calls a0 A c l1 A' c' l2 A'' c'' l3 a4 g g2 g3 g4 g5 W hC hc hC2 hc2 hC3 hc3 hA)
  have HEL:=mk_ (fun A c A' c' W hC hc hC2 hc2 => laws_eqLinkRun.calls k A c g g2 g3 g4 A' c' g g2 g3 g4 true W hC hc hC2 hc2 hE0)
  have HEB:=mk_ (fun A c A' c' W hC hc hC2 hc2 => laws_eqByteSS.calls k A c l1 A' c' l1 true W hC hc hC2 hc2 hE1)
  have HE2:=mk_ (fun A c A' c' W hC hc hC2 hc2 => laws_eqIntS.calls k A c l2 A' c' l2 true W hC hc hC2 hc2 hE2)
  have HE3:=mk_ (fun A c A' c' W hC hc hC2 hc2 => laws_eqIntS.calls k A c l3 A' c' l3 true W hC hc hC2 hc2 hE3)
  have HM1:=mk_ (fun P v U W hB hS => laws_markByteSS.calls P v l1 1 n1 z1 U W hB hS hM1)
  have HM2:=mk_ (fun P v U W hB hS => laws_markIntS.calls k P v l2 n1 n2 z2 U W hB hS hM2)
  have HM3:=mk_ (fun P v U W hB hS => laws_markIntS.calls k P v l3 n2 n3 z3 U W hB hS hM3)
  have HML:=mk_ (fun P v U W hB hS => laws_markLinkRun.calls P v g g2 g3 g4 1 n4 zg U W hB hS hML)
  have HHL:=mk_ (fun A c W hC hc => laws_heldLinkRun.calls k A c zg g2 g3 g4 1 n4 W hC hc hHL)
  clear hr1 hr2 hr3 c2_ c3_ ct hT hY1 hY2 hY3 hS hA hE0 hE1 hE2 hE3 hM1 hM2 hM3 hML hHL hn3 hn4 hlen2 hlen3
  go_enter Try.func8,Try.ntmps8
  go_wp2_with fail
  refine HSZ.out.mono ?_
  rintro e w1 ⟨rfl,hd1⟩
  have HB1:=mk_ hd1.below
  clear hd1 HSZ
  go_wp2_with fail
  refine (HT1.out w1 (cb_ HR1.out HB1.out)).mono ?_
  rintro e w2 ⟨v2,rfl,h2,hb2⟩
  obtain ⟨B2,d2,rfl⟩:=Kd.S_slice h2
  have H2:=mk_ (Kd.S_reads' h2).2
  have HB2:=mk_ (st_ HB1.out hb2)
  clear h2 hb2 HB1
  go_wp2_with fail
  refine (HT2.out w2 (cb_ HR2.out HB2.out)).mono ?_
  rintro e w3 ⟨v3,rfl,h3,hb3⟩
  obtain ⟨B3,d3,rfl⟩:=Kd.R_slice h3
  have H3:=mk_ (rr_ h3).2
  have HB3:=mk_ (st_ HB2.out hb3)
  have H23:=mk_ (cb_ H2.out.2 hb3)
  clear h3 hb3 HB2
  go_wp2_with fail
  refine (HT3.out w3 (cb_ HR3.out HB3.out)).mono ?_
  rintro e w4 ⟨v4,rfl,h4,hb4⟩
  obtain ⟨B4,d4,rfl⟩:=Kd.R_slice h4
  have H4:=mk_ (rr_ h4).2
  have HB4:=mk_ (st_ HB3.out hb4)
  have H24:=mk_ (cb_ H23.out hb4)
  have H34:=mk_ (cb_ H3.out.2 hb4)
  clear h4 hb4 HB3 H23
  go_wp2_with fail
  refine (HSP.out _ _ _ _ _ _ w4 H24.out H2.out.1 H34.out H3.out.1 H4.out.2 H4.out.1).mono ?_
  rintro e w5 ⟨v5,rfl,h5,hb5⟩
  obtain ⟨Aw,cw,rfl⟩:=Kd.S_slice h5
  have hbU:=ba_ (Below.refl _ w5) (.cells #[.slice Aw g.length cw,.int .i64 g2,.int .i64 g3,.bool g4] 28)
  have HBU:=mk_ (st_ (st_ HB4.out hb5) hbU)
  have HK12:=mk_ (blk_new w5 (.cells #[.slice Aw g.length cw,.int .i64 g2,.int .i64 g3,.bool g4] 28))
  have HCW:=mk_ (ca_ (Kd.S_reads' h5).2.2 (.cells #[.slice Aw g.length cw,.int .i64 g2,.int .i64 g3,.bool g4] 28))
  have HLW:=mk_ (Kd.S_reads' h5).2.1
  have HU1:=mk_ (cb_ HR1.out HBU.out)
  have HU2:=mk_ (cb_ HR2.out HBU.out)
  have HU3:=mk_ (cb_ HR3.out HBU.out)
  clear h5 hb5 hbU HB4 H2 H3 H4 H24 H34 HSP HR1 HR2 HR3
  go_wp2_with fail
  refine (HT1.out _ HU1.out).mono ?_
  rintro e w6 ⟨v6,rfl,h6,hb6⟩
  obtain ⟨Ax,cx,rfl⟩:=Kd.S_slice h6
  generalize w5.alloc (.cells #[.slice Aw g.length cw,.int .i64 g2,.int .i64 g3,.bool g4] 28) = U at HBU HK12 HCW HU1 HU2 HU3 h6 hb6
  generalize w5.heap.size = b12 at HK12 ⊢
  have H6:=mk_ h6
  have HB6:=mk_ hb6
  clear h6 hb6
  go_wp2_with fail
  refine (HT2.out w6 (cb_ HU2.out HB6.out)).mono ?_
  rintro e w7 ⟨v7,rfl,h7,hb7⟩
  obtain ⟨A7,c7,rfl⟩:=Kd.R_slice h7
  have H7:=mk_ h7
  have HB7:=mk_ hb7
  clear h7 hb7
  go_wp2_with fail
  refine (HT3.out w7 (cb_ HU3.out (st_ HB6.out HB7.out))).mono ?_
  rintro e w8 ⟨v8,rfl,h8,hb8⟩
  obtain ⟨A8,c8,rfl⟩:=Kd.R_slice h8
  have H8:=mk_ h8
  have HB8:=mk_ hb8
  clear h8 hb8
  go_wp2_with fail
  refine (HIM.out _ _ _ _ _ _ w8 (cb_ (cb_ (Kd.S_reads' H6.out).2.2 HB7.out) HB8.out) (Kd.S_reads' H6.out).2.1 (cb_ (rr_ H7.out).2.2 HB8.out) (rr_ H7.out).2.1 (rr_ H8.out).2.2 (rr_ H8.out).2.1).mono ?_
  rintro e w9 ⟨v9,rfl,h9,hb9⟩
  obtain ⟨Ag,cg,rfl⟩:=Kd.S_slice h9
  have hba:=ba_ (Below.refl _ w9) (.cells #[.slice Ag g.length cg,.int .i64 g2,.int .i64 g3,.bool g4] 28)
  have b8:=st_ (st_ HB6.out HB7.out) HB8.out
  have HX : Aside0 (XB 5 22 3 U (w9.alloc (.cells #[.slice Ag g.length cg,.int .i64 g2,.int .i64 g3,.bool g4] 28)) w6.heap.size w7.heap.size w8.heap.size w9.heap.size (.slice A7 l2.length c7) (.slice A8 l3.length c8) (.slice Ag g.length cg) l2 l3 g w9.heap.size (.cells #[.slice Ag g.length cg,.int .i64 g2,.int .i64 g3,.bool g4] 28)) :=
   ⟨st_ (st_ b8 hb9) hba,⟨HB6.out.size,HB7.out.size,HB8.out.size,hb9.size,Nat.le_refl _⟩,Kd.R_lower (rb_ (rb_ (rb_ (R_rng H7.out) HB8.out) hb9) hba) HB6.out.size,
    Kd.R_lower (rb_ (rb_ (R_rng H8.out) hb9) hba) (Nat.le_trans HB6.out.size HB7.out.size),Kd.S_lower (Kd.S_below (S_rng h9) hba) b8.size,blk_new w9 (.cells #[.slice Ag g.length cg,.int .i64 g2,.int .i64 g3,.bool g4] 28)⟩
  have SX : Aside0 (Kd.S (Kd.slice 5 (Kd.int .u8)) 22 (w9.alloc (.cells #[.slice Ag g.length cg,.int .i64 g2,.int .i64 g3,.bool g4] 28)) U.heap.size (fun k => U.heap.size ≤ k ∧ k < w6.heap.size) (.slice Ax l1.length cx) l1):=⟨Kd.S_below (Kd.S_below (Kd.S_below (Kd.S_below (S_rng H6.out) HB7.out) HB8.out) hb9) hba⟩
  clear b8 hba h9 hb9 H6 H7 H8 HB6 HB7 HB8
  obtain ⟨i0,i1,i2,i3⟩:=cells4 HX.out.bx
  obtain ⟨j0,j1,j2,j3⟩:=cells4 (blk_below HK12.out HX.out.bel)
  go_wp2_with fail
  refine (HEL.out Ag cg Aw cw _ (Kd.S_reads' HX.out.sg).2.2 (Kd.S_reads' HX.out.sg).2.1 (cb_ HCW.out HX.out.bel) HLW.out).mono ?_
  rintro e w10 ⟨rfl,hb10⟩
  replace HX:=mk_ (HX.out.below hb10)
  replace SX:=mk_ (Kd.S_below SX.out hb10)
  generalize w6.heap.size = p2_ at HX SX
  generalize w7.heap.size = p3_ at HX
  generalize w8.heap.size = pg_ at HX
  generalize w9.heap.size = b17 at HX ⊢
  clear i0 i1 i2 i3 j0 j1 j2 j3 hb10
  go_wp2_with fail
  refine (HT1.out w10 (cb_ HU1.out HX.out.bel)).mono ?_
  rintro e w11 ⟨v11,rfl,h11,hb11⟩
  obtain ⟨A11,c11,rfl⟩:=Kd.S_slice h11
  replace HX:=mk_ (HX.out.below hb11)
  replace SX:=mk_ (Kd.S_below SX.out hb11)
  have H11:=mk_ (Kd.S_reads' h11).2
  clear h11 hb11
  go_wp2_with fail
  refine (HEB.out Ax cx A11 c11 w11 (Kd.S_reads' SX.out).2.2 (Kd.S_reads' SX.out).2.1 H11.out.2 H11.out.1).mono ?_
  rintro e w12 ⟨rfl,hd12⟩
  replace HX:=mk_ (HX.out.below hd12.below)
  replace SX:=mk_ (Kd.S_below SX.out hd12.below)
  clear hd12 H11
  go_wp2_with fail
  refine (HT2.out w12 (cb_ HU2.out HX.out.bel)).mono ?_
  rintro e w13 ⟨v13,rfl,h13,hb13⟩
  obtain ⟨A13,c13,rfl⟩:=Kd.R_slice h13
  replace HX:=mk_ (HX.out.below hb13)
  replace SX:=mk_ (Kd.S_below SX.out hb13)
  have H13:=mk_ (rr_ h13).2
  clear h13 hb13
  go_wp2_with fail
  refine (HE2.out A7 c7 A13 c13 w13 (rr_ HX.out.r2).2.2 (rr_ HX.out.r2).2.1 H13.out.2 H13.out.1).mono ?_
  rintro e w14 ⟨rfl,hd14⟩
  replace HX:=mk_ (HX.out.below hd14.below)
  replace SX:=mk_ (Kd.S_below SX.out hd14.below)
  clear hd14 H13
  go_wp2_with fail
  refine (HT3.out w14 (cb_ HU3.out HX.out.bel)).mono ?_
  rintro e w15 ⟨v15,rfl,h15,hb15⟩
  obtain ⟨A15,c15,rfl⟩:=Kd.R_slice h15
  replace HX:=mk_ (HX.out.below hb15)
  replace SX:=mk_ (Kd.S_below SX.out hb15)
  have H15:=mk_ (rr_ h15).2
  clear h15 hb15
  go_wp2_with fail
  refine (HE3.out A8 c8 A15 c15 w15 (rr_ HX.out.r3).2.2 (rr_ HX.out.r3).2.1 H15.out.2 H15.out.1).mono ?_
  rintro e w16 ⟨rfl,hd16⟩
  replace HX:=mk_ (HX.out.below hd16.below)
  replace SX:=mk_ (Kd.S_below SX.out hd16.below)
  clear hd16 H15
  go_wp2_with fail
  refine (HM1.out _ _ U w16 HX.out.bel SX.out).mono ?_
  rintro e w17 ⟨rfl,_,hb17,hk17⟩
  replace HX:=mk_ (HX.out.ahead hk17 (fun k hk => hk.2) hb17)
  clear hb17 hk17 SX
  go_wp2_with fail
  refine (HM2.out _ _ U w17 HX.out.bel HX.out.r2).mono ?_
  rintro e w18 ⟨rfl,_,hb18,hk18⟩
  replace HX:=mk_ (HX.out.second hk18 (fun k hk => hk) hb18)
  clear hb18 hk18
  go_wp2_with fail
  refine (HM3.out _ _ U w18 HX.out.bel HX.out.r3).mono ?_
  rintro e w19 ⟨rfl,_,hb19,hk19⟩
  replace HX:=mk_ (HX.out.third hk19 (fun k hk => hk) hb19)
  clear hb19 hk19
  obtain ⟨i0,i1,i2,i3⟩:=cells4 HX.out.bx
  obtain ⟨j0,j1,j2,j3⟩:=cells4 (blk_below HK12.out HX.out.bel)
  go_wp2_with fail
  refine (HEL.out Ag cg Aw cw _ (Kd.S_reads' HX.out.sg).2.2 (Kd.S_reads' HX.out.sg).2.1 (cb_ HCW.out HX.out.bel) HLW.out).mono ?_
  rintro e w20 ⟨rfl,hb20⟩
  replace HX:=mk_ (HX.out.below hb20)
  clear i0 i1 i2 i3 j0 j1 j2 j3 hb20
  obtain ⟨i0,i1,i2,i3⟩:=cells4 HX.out.bx
  go_wp2_with fail
  refine (HML.out _ _ U w20 HX.out.bel HX.out.sg).mono ?_
  rintro e w21 ⟨rfl,h21,hb21,hk21⟩
  have hlen:=(Kd.S_reads' h21).1
  replace HX : Aside0 (XD 5 22 U w21 _ (.slice Ag g.length cg) zg b17 (.cells #[.slice Ag g.length cg,.int .i64 g2,.int .i64 g3,.bool g4] 28)):=⟨hb21,h21,blk_kept HX.out.bx hk21 (fun hk => Nat.lt_irrefl _ hk.2)⟩
  have HH:=HHL.out Ag cg
  rw [← hlen] at HH
  have HHX:=mk_ HH
  have HLEN:=mk_ hlen
  clear hlen i0 i1 i2 i3 h21 hb21 hk21 HH HML HHL
  obtain ⟨i0,i1,i2,i3⟩:=cells4 HX.out.bx
  go_wp2_with fail
  refine (HHX.out w21 (by have h9:=(Kd.S_reads' HX.out.sg).2.2;rw [← HLEN.out] at h9;exact h9) (Kd.S_reads' HX.out.sg).2.1).mono ?_
  rintro e w22 ⟨rfl,hb22⟩
  replace HX:=mk_ (HX.out.below hb22)
  clear i0 i1 i2 i3 hb22
  go_wp2_with fail
  refine (HT1.out w22 (cb_ HU1.out HX.out.bel)).mono ?_
  rintro e w23 ⟨v23,rfl,h23,hb23⟩
  obtain ⟨A23,c23,rfl⟩:=Kd.S_slice h23
  replace HX:=mk_ (HX.out.below hb23)
  have H23:=mk_ (Kd.S_reads' h23).2
  clear h23 hb23
  go_wp2_with fail
  refine (HT2.out w23 (cb_ HU2.out HX.out.bel)).mono ?_
  rintro e w24 ⟨v24,rfl,h24,hb24⟩
  obtain ⟨A24,c24,rfl⟩:=Kd.R_slice h24
  replace HX:=mk_ (HX.out.below hb24)
  have H24:=mk_ (rr_ h24).2
  have H23b:=mk_ (cb_ H23.out.2 hb24)
  clear h24 hb24
  go_wp2_with fail
  refine (HT3.out w24 (cb_ HU3.out HX.out.bel)).mono ?_
  rintro e w25 ⟨v25,rfl,h25,hb25⟩
  obtain ⟨A25,c25,rfl⟩:=Kd.R_slice h25
  replace HX:=mk_ (HX.out.below hb25)
  have H25:=mk_ (rr_ h25).2
  have H23c:=mk_ (cb_ H23b.out hb25)
  have H24b:=mk_ (cb_ H24.out.2 hb25)
  clear h25 hb25 H23b
  go_wp2_with fail
  refine (HIM.out _ _ _ _ _ _ w25 H23c.out H23.out.1 H24b.out H24.out.1 H25.out.2 H25.out.1).mono ?_
  rintro e w26 ⟨v26,rfl,h26,hb26⟩
  obtain ⟨Ah,ch,rfl⟩:=Kd.S_slice h26
  have hba:=ba_ (Below.refl _ w26) (.cells #[.slice Ah g.length ch,.int .i64 g2,.int .i64 g3,.bool g4] 28)
  replace HX:=mk_ (HX.out.below (st_ hb26 hba))
  have H26:=mk_ (And.intro (Kd.S_reads' h26).2.1 (ca_ (Kd.S_reads' h26).2.2 (.cells #[.slice Ah g.length ch,.int .i64 g2,.int .i64 g3,.bool g4] 28)))
  have hbn:=blk_new w26 (.cells #[.slice Ah g.length ch,.int .i64 g2,.int .i64 g3,.bool g4] 28)
  clear h26 hb26 hba H23 H24 H25 H23c H24b HT1 HT2 HT3 HIM
  obtain ⟨i0,i1,i2,i3⟩:=cells4 hbn
  obtain ⟨j0,j1,j2,j3⟩:=cells4 (blk_below HK12.out HX.out.bel)
  clear hbn
  go_wp2_with fail
  refine (HEL.out Ah ch Aw cw _ H26.out.2 H26.out.1 (cb_ HCW.out HX.out.bel) HLW.out).mono ?_
  rintro e w27 ⟨rfl,hb27⟩
  replace HX:=mk_ (HX.out.below hb27)
  clear i0 i1 i2 i3 j0 j1 j2 j3 hb27
  obtain ⟨i0,i1,i2,i3⟩:=cells4 HX.out.bx
  go_wp2_with fail
  refine (HHX.out w27 (by have h9:=(Kd.S_reads' HX.out.sg).2.2;rw [← HLEN.out] at h9;exact h9) (Kd.S_reads' HX.out.sg).2.1).mono ?_
  rintro e w28 ⟨rfl,hb28⟩
  go_wp2
  go_ret
  exact ⟨by first|rfl|simp,st_ HBU.out (st_ HX.out.bel hb28)⟩
 ·rw [if_neg hc] at h
  cases h

/-- The pure statement of laws_FnExactRunLink. -/
def laws_FnExactRunLink.Pure : Prop:=∀ (a0 : Int) (l1 : List (List Int)) (l2 : List Int) (l3 : List Int) (a4 : Int),(Lit.int .i64 a0).wf = true → (l1.length ≤ maxLen ∧ ∀ y0 ∈ l1,(y0.length ≤ maxLen ∧ ∀ y1 ∈ y0,(Lit.int .u8 y1).wf = true)) → l2.length ≤ maxLen → l2.length * 8 ≤ 140737488351232 → (∀ x ∈ l2,(Lit.int .i64 x).wf = true) → l3.length ≤ maxLen → l3.length * 8 ≤ 140737488351232 → (∀ x ∈ l3,(Lit.int .i64 x).wf = true) → (Lit.int .i64 a4).wf = true → ∃ k,laws_FnExactRunLink.f k a0 l1 l2 l3 a4 = some true
theorem laws_FnExactRunLink.walk (P : laws_FnExactRunLink.Pure) (a0 : Int) (A1 : Option Addr) (c1 : Nat) (l1 : List (List Int)) (a2 : Option Addr) (len2 cap2 : Nat) (z2 : List Int) (a3 : Option Addr) (len3 cap3 : Nat) (z3 : List Int) (a4 : Int) (w : World) (w0 : (Lit.int .i64 a0).wf = true) (hr1 : Kd.C (Kd.slice 5 (Kd.int .u8)) w A1 l1.length l1) (hc1 : l1.length ≤ c1) (hm1 : (l1.length ≤ maxLen ∧ ∀ y0 ∈ l1,(y0.length ≤ maxLen ∧ ∀ y1 ∈ y0,(Lit.int .u8 y1).wf = true))) (w2 : (a2 = none ∧ len2 = 0 ∧ cap2 = 0 ∧ z2 = []) ∨ ∃ x,a2 = some x ∧ len2 ≤ cap2 ∧ cap2 ≤ maxLen ∧ z2.length = cap2 ∧ (∀ i,i < z2.length → w.cell? (x.add i) = some (.int .i64 (z2.getD i 0))) ∧ ∀ n ∈ z2,(Lit.int .i64 n).wf = true) (y2 : len2 * 8 ≤ 140737488351232) (w3 : (a3 = none ∧ len3 = 0 ∧ cap3 = 0 ∧ z3 = []) ∨ ∃ x,a3 = some x ∧ len3 ≤ cap3 ∧ cap3 ≤ maxLen ∧ z3.length = cap3 ∧ (∀ i,i < z3.length → w.cell? (x.add i) = some (.int .i64 (z3.getD i 0))) ∧ ∀ n ∈ z3,(Lit.int .i64 n).wf = true) (y3 : len3 * 8 ≤ 140737488351232) (w4 : (Lit.int .i64 a4).wf = true) :
  Calls Try.prog 8 #[.int .i64 a0,.slice A1 l1.length c1,.slice a2 len2 cap2,.slice a3 len3 cap3,.int .i64 a4] w fun e w' => e = .returned (.bool true) ∧ Below w.heap.size w w':=by
 obtain ⟨l2,rfl,hr2,hm2,hw2,hc2⟩:=ReadsInt.ofRowC w2
 obtain ⟨l3,rfl,hr3,hm3,hw3,hc3⟩:=ReadsInt.ofRowC w3
 obtain ⟨k,h⟩:=P a0 l1 l2 l3 a4 w0 hm1 hm2 y2 hw2 hm3 y3 hw3 w4
 refine (laws_FnExactRunLink.calls k a0 _ _ l1 _ _ l2 _ _ l3 a4 true _ hr1 hc1 (Kd.C_of_reads (d:=(0 : Int)) (h1:=fun _ => rfl) hr2) hc2 (Kd.C_of_reads (d:=(0 : Int)) (h1:=fun _ => rfl) hr3) hc3 h).mono ?_
 rintro e w' ⟨rfl,hd⟩
 exact ⟨rfl,hd⟩

end Go.Proofs.Ytdpnloibbimblaa.PAll
