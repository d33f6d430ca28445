/- Proved here: contracts of functions of the given program, or lemmas on them, for the laws of this seat. Written by xprint.py, a program of this session, on the ground of the kit's print; parts by hand: wip/x/ext. -/
import Derived.Test.YtdpnloibbimblaaPAllx0
import Derived.Test.YtdpnloibbimblaaPAllx1
import Derived.Test.YtdpnloibbimblaaPAllx5
namespace Go.Proofs.Ytdpnloibbimblaa.PAll
open Go.RowKit Go.Proofs.YtdpnloibbimblaaW.PrintWords Go.Proofs.YtdpnloibbimblaaW.PrintLast Go.Proofs.YtdpnloibbimblaaW.PrintMore
attribute [local go_sem] max2_int min2_int max_two min_two max_three min_three max_four min_four   -- for this text's walks alone
set_option linter.unusedVariables false
set_option linter.unusedSimpArgs false

/-! ### laws_szByteS: function 38 -/
def laws_szByteS.f (l0 : List Int) (a1 : Int) : Option (Int):=if (wrap64 (a1 - (l0.length : Int))) < 0 then (some (-1)) else (some (wrap64 (a1 - (l0.length : Int))))
set_option maxHeartbeats 8000000 in
set_option maxRecDepth 100000 in
theorem laws_szByteS.calls (A0 : Option Addr) (c0 : Nat) (l0 : List Int) (a1 : Int) (r : Int) (w : World) (hr0 : Kd.C (Kd.int .u8) w A0 l0.length l0) (hc0 : l0.length ≤ c0) (h : laws_szByteS.f l0 a1 = some r) :
  Calls Try.prog 38 #[.slice A0 l0.length c0,.int .i64 a1] w fun e w' => e = .returned (.int .i64 r) ∧ Drawn0 w w':=by
 have HR0:=mk_ hr0
 have HC0:=mk_ hc0
 clear hr0 hc0
 have H : (if (wrap64 (a1 - (l0.length : Int))) < 0 then (some (-1)) else (some (wrap64 (a1 - (l0.length : Int))))) = some r:=h
 clear h
 by_cases c3 : (wrap64 (a1 - (l0.length : Int))) < 0
 ·rw [if_pos c3] at H
  have c3b0 : decide ((wrap64 (a1 - (l0.length : Int))) < 0) = true:=decide_eq_true c3
  clear c3
  obtain rfl:=Option.some.inj H
  go_enter Try.func38,Try.ntmps38
  go_wp2
  go_ret
  exact ⟨by first|rfl|(simp;done)|(simp [*];done),by repeat (first|exact Drawn0.refl _|apply Drawn0.step)⟩
 ·rw [if_neg c3] at H
  have c3b0 : decide ((wrap64 (a1 - (l0.length : Int))) < 0) = false:=decide_eq_false c3
  clear c3
  obtain rfl:=Option.some.inj H
  go_enter Try.func38,Try.ntmps38
  go_wp2
  go_ret
  exact ⟨by first|rfl|(simp;done)|(simp [*];done),by repeat (first|exact Drawn0.refl _|apply Drawn0.step)⟩

/-! ### laws_szByteSS: function 12 -/
def laws_szByteSS.l0 : Nat → List (List Int) → Int → Int → Option (Int)
 | 0,_,_,_ => none
 | k + 1,x0,x1,x5 => if x5 < (x0.length : Int) then (if 0 ≤ x5 then ((laws_szByteS.f (rd_L4 x0 x5) x1).bind fun t649 => (if t649 < 0 then (some (-1)) else (laws_szByteSS.l0 k x0 t649 (wrap64 (x5 + 1))))) else (none)) else (some x1)
def laws_szByteSS.f (k : Nat) (l0 : List (List Int)) (a1 : Int) : Option (Int):=if (wrap64 (a1 - (l0.length : Int))) < 0 then (some (-1)) else (laws_szByteSS.l0 k l0 (wrap64 (a1 - (l0.length : Int))) 0)
theorem laws_szByteSS.mono_l : ∀ k,(∀ y0 y1 y2,LeO (laws_szByteSS.l0 k y0 y1 y2) (laws_szByteSS.l0 (k + 1) y0 y1 y2))
 | 0 => fun _ _ _ r h => by simp [laws_szByteSS.l0] at h
 | k + 1 => by
  have ih0:=laws_szByteSS.mono_l k
  ·intro y0 y1 y2
   unfold laws_szByteSS.l0
   repeat' first
   | (with_reducible exact ih0 _ _ _)
   | (with_reducible exact LeO.refl _)
   | (with_reducible exact LeO.none _)
   | (with_reducible refine LeO.ite ?_ ?_)
   | (with_reducible refine LeO.bind ?_ (fun _ => ?_))
   | exact ih0 _ _ _
   | exact LeO.none _
   | refine LeO.ite ?_ ?_
   | refine LeO.bind ?_ (fun _ => ?_)
theorem laws_szByteSS.mono : ∀ a0 a1 k,LeO (laws_szByteSS.f k a0 a1) (laws_szByteSS.f (k + 1) a0 a1):=by
 intro a0 a1 k
 have ih0:=laws_szByteSS.mono_l k
 unfold laws_szByteSS.f
 repeat' first
   | (with_reducible exact ih0 _ _ _)
   | (with_reducible exact LeO.refl _)
   | (with_reducible exact LeO.none _)
   | (with_reducible refine LeO.ite ?_ ?_)
   | (with_reducible refine LeO.bind ?_ (fun _ => ?_))
   | exact ih0 _ _ _
   | exact LeO.none _
   | refine LeO.ite ?_ ?_
   | refine LeO.bind ?_ (fun _ => ?_)
set_option maxHeartbeats 8000000 in
set_option maxRecDepth 100000 in
theorem laws_szByteSS.calls (k : Nat) (A0 : Option Addr) (c0 : Nat) (l0 : List (List Int)) (a1 : Int) (r : Int) (w : World) (hr0 : Kd.C (Kd.slice 5 (Kd.int .u8)) w A0 l0.length l0) (hc0 : l0.length ≤ c0) (h : laws_szByteSS.f k l0 a1 = some r) :
  Calls Try.prog 12 #[.slice A0 l0.length c0,.int .i64 a1] w fun e w' => e = .returned (.int .i64 r) ∧ Drawn0 w w':=by
 have HR0:=mk_ hr0
 have HC0:=mk_ hc0
 clear hr0 hc0
 have H : (if (wrap64 (a1 - (l0.length : Int))) < 0 then (some (-1)) else (laws_szByteSS.l0 k l0 (wrap64 (a1 - (l0.length : Int))) 0)) = some r:=h
 clear h
 by_cases c3 : (wrap64 (a1 - (l0.length : Int))) < 0
 ·rw [if_pos c3] at H
  have c3b0 : decide ((wrap64 (a1 - (l0.length : Int))) < 0) = true:=decide_eq_true c3
  clear c3
  obtain rfl:=Option.some.inj H
  go_enter Try.func12,Try.ntmps12
  go_wp2
  go_ret
  exact ⟨by first|rfl|(simp;done)|(simp [*];done),by repeat (first|exact Drawn0.refl _|apply Drawn0.step)⟩
 ·rw [if_neg c3] at H
  have c3b0 : decide ((wrap64 (a1 - (l0.length : Int))) < 0) = false:=decide_eq_false c3
  clear c3
  have H':=mk_ H
  clear H
  go_enter Try.func12,Try.ntmps12
  go_wp2
  go_loopg [1,5] k (fun kq v1 v5 w' => ∃ (x1_1 : Int) (x5_1 : Int),v1 = .int .i64 x1_1 ∧ v5 = .int .i64 x5_1 ∧ Aside0 (laws_szByteSS.l0 kq l0 x1_1 x5_1 = some r) ∧ Aside0 (kq ≤ k) ∧ Drawn0 w w')
  case atStart => exact ⟨(wrap64 (a1 - (l0.length : Int))),(0),qf_,qf_,H',⟨Nat.le_refl _⟩,by repeat (first|exact Drawn0.refl _|apply Drawn0.step)⟩
  case round =>
   clear H'
   try clear c1
   try clear p2
   try clear c3
   try clear c3b0
   obtain ⟨x1_1,x5_1,rfl,rfl,HA,HK1,⟨m1,rfl⟩⟩:=hrel
   cases gk with
   | zero => exact absurd HA.out (by simp [laws_szByteSS.l0])
   | succ k1 =>
    have H:=HA.out
    clear HA
    simp only [laws_szByteSS.l0] at H
    by_cases c4 : x5_1 < (l0.length : Int)
    ·rw [if_pos c4] at H
     have c4b0 : decide (x5_1 < (l0.length : Int)) = true:=decide_eq_true c4
     clear c4
     by_cases c5 : 0 ≤ x5_1
     ·rw [if_pos c5] at H
      have c5b0 : decide (0 ≤ x5_1) = true:=decide_eq_true c5
      clear c5
      replace H:=Option.bind_eq_some_iff.mp H
      obtain ⟨t649,A60,H⟩:=H
      replace H : (if t649 < 0 then (some (-1)) else (laws_szByteSS.l0 k1 l0 t649 (wrap64 (x5_1 + 1)))) = some r:=H
      have A6:=mk_ A60
      clear A60
      by_cases c7 : t649 < 0
      ·rw [if_pos c7] at H
       have c7b0 : decide (t649 < 0) = true:=decide_eq_true c7
       clear c7
       obtain rfl:=Option.some.inj H
       have p648 : 0 ≤ (x5_1 : Int):=od_ qa_
       have q648 : x5_1 < (l0.length : Int):=od_ qa_
       obtain ⟨ad648,A648_0,c648_0,e648,hx648_0,hl648_0,hi648_0⟩:=at_L4 HR0.out x5_1 p648 q648
       cases e648
       have HR648_0:=mk_ hi648_0
       have HC648_0:=mk_ hl648_0
       clear hi648_0 hl648_0
       replace p648:=eq_true p648
       replace q648:=eq_true q648
       go_wp2_with (first|((with_reducible refine gate_callee (f:=38) rfl ?_);refine goesL_ (some 23) rfl rfl Try.func38 (by kernel_rfl) rfl #[.slice A648_0 (rd_L4 l0 x5_1).length c648_0,.int .i64 x1_1] rfl qm_ ?_;(with_reducible refine (laws_szByteS.calls _ _ (rd_L4 l0 x5_1) x1_1 t649 _ ?side1 ?side2 A6.out).mono ?_);(case side1 => repeat (first|exact HR648_0.out|(with_reducible refine ca_ ?_ _)|(with_reducible refine cn_ ?_ _)|(with_reducible refine cd_ ?_)));(case side2 => exact HC648_0.out);rintro e w' ⟨rfl,⟨nd,rfl⟩⟩;refine ⟨_,rfl,?_⟩))
       go_ret
       exact ⟨by first|rfl|(simp;done)|(simp [*];done),by repeat (first|exact Drawn0.refl _|apply Drawn0.step)⟩
      ·rw [if_neg c7] at H
       have c7b0 : decide (t649 < 0) = false:=decide_eq_false c7
       clear c7
       have H':=mk_ H
       clear H
       have p648 : 0 ≤ (x5_1 : Int):=od_ qa_
       have q648 : x5_1 < (l0.length : Int):=od_ qa_
       obtain ⟨ad648,A648_0,c648_0,e648,hx648_0,hl648_0,hi648_0⟩:=at_L4 HR0.out x5_1 p648 q648
       cases e648
       have HR648_0:=mk_ hi648_0
       have HC648_0:=mk_ hl648_0
       clear hi648_0 hl648_0
       replace p648:=eq_true p648
       replace q648:=eq_true q648
       go_wp2_with (first|((with_reducible refine gate_callee (f:=38) rfl ?_);refine goesL_ (some 23) rfl rfl Try.func38 (by kernel_rfl) rfl #[.slice A648_0 (rd_L4 l0 x5_1).length c648_0,.int .i64 x1_1] rfl qm_ ?_;(with_reducible refine (laws_szByteS.calls _ _ (rd_L4 l0 x5_1) x1_1 t649 _ ?side1 ?side2 A6.out).mono ?_);(case side1 => repeat (first|exact HR648_0.out|(with_reducible refine ca_ ?_ _)|(with_reducible refine cn_ ?_ _)|(with_reducible refine cd_ ?_)));(case side2 => exact HC648_0.out);rintro e w' ⟨rfl,⟨nd,rfl⟩⟩;refine ⟨_,rfl,?_⟩))
       go_roundg k1
       case measure => have:=HK1.out;omega
       case rel => exact ⟨(t649),(wrap64 (x5_1 + 1)),qf_,qf_,H',⟨by have:=HK1.out;omega⟩,by repeat (first|exact Drawn0.refl _|apply Drawn0.step)⟩
     ·rw [if_neg c5] at H
      exact absurd H (by simp)
    ·rw [if_neg c4] at H
     have c4b0 : decide (x5_1 < (l0.length : Int)) = false:=decide_eq_false c4
     clear c4
     obtain rfl:=Option.some.inj H
     go_wp2
     go_ret
     exact ⟨by first|rfl|(simp;done)|(simp [*];done),by repeat (first|exact Drawn0.refl _|apply Drawn0.step)⟩

/-! ### laws_toByteS: function 39 -/
def laws_toByteS.l0 : Nat → List Int → List Int → Int → Option (List Int)
 | 0,_,_,_ => none
 | k + 1,x0,x3,x4 => if x4 < (x0.length : Int) then (if 0 ≤ x4 then (if x4 < (x3.length : Int) then (laws_toByteS.l0 k x0 (x3.set (x4 : Int).toNat (rd x0 x4)) (wrap64 (x4 + 1))) else (none)) else (none)) else (some x3)
def laws_toByteS.f (k : Nat) (l0 : List Int) : Option (List Int):=if 0 ≤ (l0.length : Int) then (if ((l0.length : Int) : Int).toNat ≤ 281474976710656 then (laws_toByteS.l0 k l0 (List.replicate ((l0.length : Int) : Int).toNat 0) 0) else (none)) else (none)
theorem laws_toByteS.mono_l : ∀ k,(∀ y0 y1 y2,LeO (laws_toByteS.l0 k y0 y1 y2) (laws_toByteS.l0 (k + 1) y0 y1 y2))
 | 0 => fun _ _ _ r h => by simp [laws_toByteS.l0] at h
 | k + 1 => by
  have ih0:=laws_toByteS.mono_l k
  ·intro y0 y1 y2
   unfold laws_toByteS.l0
   repeat' first
   | (with_reducible exact ih0 _ _ _)
   | (with_reducible exact LeO.refl _)
   | (with_reducible exact LeO.none _)
   | (with_reducible refine LeO.ite ?_ ?_)
   | (with_reducible refine LeO.bind ?_ (fun _ => ?_))
   | exact ih0 _ _ _
   | exact LeO.none _
   | refine LeO.ite ?_ ?_
   | refine LeO.bind ?_ (fun _ => ?_)
theorem laws_toByteS.mono : ∀ a0 k,LeO (laws_toByteS.f k a0) (laws_toByteS.f (k + 1) a0):=by
 intro a0 k
 have ih0:=laws_toByteS.mono_l k
 unfold laws_toByteS.f
 repeat' first
   | (with_reducible exact ih0 _ _ _)
   | (with_reducible exact LeO.refl _)
   | (with_reducible exact LeO.none _)
   | (with_reducible refine LeO.ite ?_ ?_)
   | (with_reducible refine LeO.bind ?_ (fun _ => ?_))
   | exact ih0 _ _ _
   | exact LeO.none _
   | refine LeO.ite ?_ ?_
   | refine LeO.bind ?_ (fun _ => ?_)
set_option maxHeartbeats 8000000 in
set_option maxRecDepth 100000 in
theorem laws_toByteS.calls (k : Nat) (A0 : Option Addr) (c0 : Nat) (l0 : List Int) (r : List Int) (w : World) (hr0 : Kd.C (Kd.int .u8) w A0 l0.length l0) (hc0 : l0.length ≤ c0) (h : laws_toByteS.f k l0 = some r) :
  Calls Try.prog 39 #[.slice A0 l0.length c0] w fun e w' => ∃ v0_ : Value,e = .returned (v0_) ∧ Kd.R (Kd.int .u8) 5 w' w.heap.size (fun _ => True) v0_ r ∧ Below w.heap.size w w':=by
 have HR0:=mk_ hr0
 have HC0:=mk_ hc0
 clear hr0 hc0
 have HB:=mk_ (Below.refl w.heap.size w)
 have H : (if 0 ≤ (l0.length : Int) then (if ((l0.length : Int) : Int).toNat ≤ 281474976710656 then (laws_toByteS.l0 k l0 (List.replicate ((l0.length : Int) : Int).toNat 0) 0) else (none)) else (none)) = some r:=h
 clear h
 by_cases c2 : 0 ≤ (l0.length : Int)
 ·rw [if_pos c2] at H
  have c2b0:=eq_true c2
  have c2b1 : decide (0 ≤ (l0.length : Int)) = true:=decide_eq_true c2
  clear c2
  by_cases c3 : ((l0.length : Int) : Int).toNat ≤ 281474976710656
  ·rw [if_pos c3] at H
   have c3b0:=eq_true c3
   have c3b1 : decide (((l0.length : Int) : Int).toNat ≤ 281474976710656) = true:=decide_eq_true c3
   clear c3
   obtain ⟨y650,hy650⟩ : ∃ y_ : List Int,y_ = (List.replicate ((l0.length : Int) : Int).toNat 0):=⟨_,rfl⟩
   replace H : (laws_toByteS.l0 k l0 y650 0) = some r:=by first|(rw [hy650];with_reducible exact H)|(have H2_:=(Option.bind_some _ _).symm.trans H;rw [hy650];with_reducible exact H2_)|(have H2_:=(Option.bind_some _ _).symm.trans H;with_reducible exact H2_)|with_reducible exact H|(rw [hy650];exact H)|exact H
   have Ny650:=mk_ hy650
   clear hy650
   have H':=mk_ H
   clear H
   go_enter Try.func39,Try.ntmps39
   go_wp2_with (first|((with_reducible refine gate_dst (N:=7) rfl ?_);refine Kd.R_make (Kd.int .u8) _ 5 rfl (N:=7) rfl 22 _ _ rfl (l0.length : Int) rfl rfl Try.underlying22 (.int .u8 0) 1 info5 rfl (by decide) (by omega) 0 (ok:=fun _ => True) (okp:=fun _ => True) rfl (fun _ hk => hk) trivial (od_ qa_) (Nat.le_trans (Nat.mul_le_mul_right _ (od_ qa_ : (l0.length : Int).toNat ≤ 281474976710656)) (by omega)) (Below.refl _ _) (Nat.le_refl _) ?_;intro v651 w4 ho5 hb hg_ hnew_;clear hg_ hnew_;(first|rw [← Ny650.out] at ho5|(simp only [Int.reduceToNat] at ho5;rw [← Ny650.out] at ho5));have n0_:=mk_ (Kd.R_lower ho5 (bz_ (qb_ HB)));have n1_:=mk_ (st_ (qb_ HB) hb);clear HB;have HO652:=n0_;have HB:=n1_;clear n0_ n1_ hb ho5))
   go_loopg [4] k (fun kq v4 w' => ∃ (x3_1 : List Int) (x4_1 : Int),v4 = .int .i64 x4_1 ∧ Aside0 (laws_toByteS.l0 kq l0 x3_1 x4_1 = some r) ∧ Aside0 (kq ≤ k) ∧ Aside0 (Kd.R (Kd.int .u8) 5 w' w.heap.size (fun _ => True) v651 x3_1) ∧ Aside0 (Below w.heap.size w w'))
   case atStart => exact ⟨(y650),(0),qf_,H',⟨Nat.le_refl _⟩,⟨qr_ HO652⟩,⟨u0_ HB⟩⟩
   case round =>
    clear H'
    try clear c2
    try clear c2b0
    try clear c2b1
    try clear p2
    try clear c3
    try clear c3b0
    try clear c3b1
    obtain ⟨x3_1,x4_1,rfl,HA,HK1,HO_3,HB⟩:=hrel
    cases gk with
    | zero => exact absurd HA.out (by simp [laws_toByteS.l0])
    | succ k1 =>
     have H:=HA.out
     clear HA
     simp only [laws_toByteS.l0] at H
     by_cases c6 : x4_1 < (l0.length : Int)
     ·rw [if_pos c6] at H
      have c6b0 : decide (x4_1 < (l0.length : Int)) = true:=decide_eq_true c6
      clear c6
      by_cases c7 : 0 ≤ x4_1
      ·rw [if_pos c7] at H
       have c7b0 : decide (0 ≤ x4_1) = true:=decide_eq_true c7
       clear c7
       by_cases c8 : x4_1 < (x3_1.length : Int)
       ·rw [if_pos c8] at H
        have c8b0 : decide (x4_1 < (x3_1.length : Int)) = true:=decide_eq_true c8
        clear c8
        obtain ⟨y654,hy654⟩ : ∃ y_ : List Int,y_ = (x3_1.set (x4_1 : Int).toNat (rd l0 x4_1)):=⟨_,rfl⟩
        replace H : (laws_toByteS.l0 k1 l0 y654 (wrap64 (x4_1 + 1))) = some r:=by first|(rw [hy654];with_reducible exact H)|(have H2_:=(Option.bind_some _ _).symm.trans H;rw [hy654];with_reducible exact H2_)|(have H2_:=(Option.bind_some _ _).symm.trans H;with_reducible exact H2_)|with_reducible exact H|(rw [hy654];exact H)|exact H
        have Ny654:=mk_ hy654
        clear hy654
        have H':=mk_ H
        clear H
        have p653 : 0 ≤ (x4_1 : Int):=od_ qa_
        have q653 : x4_1 < (l0.length : Int):=od_ qa_
        obtain ⟨ad653,e653,hx653_0⟩:=Kd.at_int HR0.out x4_1 p653 q653
        cases e653
        replace hx653_0:=(HB.out.cell (wl_ w _ hx653_0)).trans hx653_0
        replace p653:=eq_true p653
        replace q653:=eq_true q653
        have p9 : 0 ≤ (x4_1 : Int):=od_ qa_
        have q9 : (x4_1 : Int) < ((x3_1.length : Int) : Int):=od_ qa_
        obtain ⟨go9,co9,eo9,gb9,gl9,cl9,HG9⟩:=Kd.R_form HO_3.out (by omega)
        (first|cases eo9|(injection eo9 with ea_ en_ ec_;(first|subst ea_|(injection ea_ with ea_;subst ea_));subst ec_;clear en_))
        have GB9:=mk_ gb9
        have GG9:=mk_ HG9
        clear gb9 gl9 HG9
        obtain ⟨hx9_0,hf9_0⟩:=Kd.R_celln 0 HO_3.out (x4_1 : Int) p9 q9
        replace p9:=eq_true p9
        replace q9:=eq_true q9
        have HP10:=Kd.R_putg HO_3.out (x4_1 : Int) (rd l0 x4_1)
        go_wp2_with (first|((with_reducible refine gate_store (t:=5) (p:=20) rfl ?_);refine store_event (t:=5) (p:=20) (v:=?vo_w11) (w1:=(wr.setCell ⟨go9,(x4_1 : Int).toNat,none⟩ (.int .u8 (rd l0 x4_1)))) ?hg ?ho ?hn ?hr ?_;(case ho => rfl);(case hg => rfl);(case hn => rfl);(case hr => first|(go_simp;done)|(go_simp;rfl));intro w11 hw;have hg : wr.grownBy w11 (some go9):=(by rw [hw];exact HP10.2);have hp_ : Kd.R (Kd.int .u8) 5 w11 w.heap.size (fun _ => True) (.slice (some ⟨go9,0,none⟩) x3_1.length co9) y654:=(by rw [hw,Ny654.out];exact HP10.1);clear HP10;have n0_:=mk_ (hp_);have n1_:=mk_ ((by rw [hw];exact bs_ (HB.out) GB9.out : Below w.heap.size w w11));clear HO_3 HB;have HO_3:=n0_;have HB:=n1_;clear n0_ n1_ hg hw hp_))
        go_roundg k1
        case measure => have:=HK1.out;omega
        case rel => exact ⟨(y654),(wrap64 (x4_1 + 1)),qf_,H',⟨by have:=HK1.out;omega⟩,⟨qr_ HO_3⟩,⟨u0_ HB⟩⟩
       ·rw [if_neg c8] at H
        exact absurd H (by simp)
      ·rw [if_neg c7] at H
       exact absurd H (by simp)
     ·rw [if_neg c6] at H
      have c6b0 : decide (x4_1 < (l0.length : Int)) = false:=decide_eq_false c6
      clear c6
      obtain rfl:=Option.some.inj H
      go_wp2
      go_ret
      exact ⟨_,qe_,qr_ HO_3,u0_ HB⟩
  ·rw [if_neg c3] at H
   exact absurd H (by simp)
 ·rw [if_neg c2] at H
  exact absurd H (by simp)

/-! ### laws_toByteSS: function 14 -/
def laws_toByteSS.l0 : Nat → List (List Int) → List (List Int) → Int → Option ((List (List Int)))
 | 0,_,_,_ => none
 | k + 1,x0,x3,x4 => if x4 < (x0.length : Int) then (if 0 ≤ x4 then ((laws_toByteS.f k (rd_L4 x0 x4)).bind fun t659 => (if x4 < (x3.length : Int) then (laws_toByteSS.l0 k x0 (x3.set (x4 : Int).toNat t659) (wrap64 (x4 + 1))) else (none))) else (none)) else (some x3)
def laws_toByteSS.f (k : Nat) (l0 : List (List Int)) : Option ((List (List Int))):=if 0 ≤ (l0.length : Int) then (if ((l0.length : Int) : Int).toNat ≤ 11728124029610 then (laws_toByteSS.l0 k l0 (List.replicate ((l0.length : Int) : Int).toNat []) 0) else (none)) else (none)
theorem laws_toByteSS.mono_l : ∀ k,(∀ y0 y1 y2,LeO (laws_toByteSS.l0 k y0 y1 y2) (laws_toByteSS.l0 (k + 1) y0 y1 y2))
 | 0 => fun _ _ _ r h => by simp [laws_toByteSS.l0] at h
 | k + 1 => by
  have ih0:=laws_toByteSS.mono_l k
  ·intro y0 y1 y2
   unfold laws_toByteSS.l0
   repeat' first
   | (with_reducible exact ih0 _ _ _)
   | (with_reducible exact laws_toByteS.mono _ _)
   | (with_reducible exact LeO.refl _)
   | (with_reducible exact LeO.none _)
   | (with_reducible refine LeO.ite ?_ ?_)
   | (with_reducible refine LeO.bind ?_ (fun _ => ?_))
   | exact ih0 _ _ _
   | exact laws_toByteS.mono _ _
   | exact LeO.none _
   | refine LeO.ite ?_ ?_
   | refine LeO.bind ?_ (fun _ => ?_)
theorem laws_toByteSS.mono : ∀ a0 k,LeO (laws_toByteSS.f k a0) (laws_toByteSS.f (k + 1) a0):=by
 intro a0 k
 have ih0:=laws_toByteSS.mono_l k
 unfold laws_toByteSS.f
 repeat' first
   | (with_reducible exact ih0 _ _ _)
   | (with_reducible exact laws_toByteS.mono _ _)
   | (with_reducible exact LeO.refl _)
   | (with_reducible exact LeO.none _)
   | (with_reducible refine LeO.ite ?_ ?_)
   | (with_reducible refine LeO.bind ?_ (fun _ => ?_))
   | exact ih0 _ _ _
   | exact laws_toByteS.mono _ _
   | exact LeO.none _
   | refine LeO.ite ?_ ?_
   | refine LeO.bind ?_ (fun _ => ?_)
set_option maxHeartbeats 8000000 in
set_option maxRecDepth 100000 in
theorem laws_toByteSS.calls (k : Nat) (A0 : Option Addr) (c0 : Nat) (l0 : List (List Int)) (r : List (List Int)) (w : World) (hr0 : Kd.C (Kd.slice 5 (Kd.int .u8)) w A0 l0.length l0) (hc0 : l0.length ≤ c0) (h : laws_toByteSS.f k l0 = some r) :
  Calls Try.prog 14 #[.slice A0 l0.length c0] w fun e w' => ∃ v0_ : Value,e = .returned (v0_) ∧ Kd.S (Kd.slice 5 (Kd.int .u8)) 22 w' w.heap.size (fun _ => True) v0_ r ∧ Below w.heap.size w w':=by
 have HR0:=mk_ hr0
 have HC0:=mk_ hc0
 clear hr0 hc0
 have HB:=mk_ (Below.refl w.heap.size w)
 have H : (if 0 ≤ (l0.length : Int) then (if ((l0.length : Int) : Int).toNat ≤ 11728124029610 then (laws_toByteSS.l0 k l0 (List.replicate ((l0.length : Int) : Int).toNat []) 0) else (none)) else (none)) = some r:=h
 clear h
 by_cases c2 : 0 ≤ (l0.length : Int)
 ·rw [if_pos c2] at H
  have c2b0:=eq_true c2
  have c2b1 : decide (0 ≤ (l0.length : Int)) = true:=decide_eq_true c2
  clear c2
  by_cases c3 : ((l0.length : Int) : Int).toNat ≤ 11728124029610
  ·rw [if_pos c3] at H
   have c3b0:=eq_true c3
   have c3b1 : decide (((l0.length : Int) : Int).toNat ≤ 11728124029610) = true:=decide_eq_true c3
   clear c3
   obtain ⟨y655,hy655⟩ : ∃ y_ : List (List Int),y_ = (List.replicate ((l0.length : Int) : Int).toNat []):=⟨_,rfl⟩
   replace H : (laws_toByteSS.l0 k l0 y655 0) = some r:=by first|(rw [hy655];with_reducible exact H)|(have H2_:=(Option.bind_some _ _).symm.trans H;rw [hy655];with_reducible exact H2_)|(have H2_:=(Option.bind_some _ _).symm.trans H;with_reducible exact H2_)|with_reducible exact H|(rw [hy655];exact H)|exact H
   have Ny655:=mk_ hy655
   clear hy655
   have H':=mk_ H
   clear H
   go_enter Try.func14,Try.ntmps14
   go_wp2_with (first|((with_reducible refine gate_dst (N:=7) rfl ?_);refine Kd.S_make (Kd.slice 5 (Kd.int .u8)) _ 22 rfl (N:=7) rfl 23 _ _ rfl (l0.length : Int) rfl rfl Try.underlying23 (.slice none 0 0) 24 info22 rfl (by decide) (by omega) [] (ok:=fun _ => True) (okp:=fun _ => True) ⟨_,rfl,Kd.R_nil _ _ _ _ _⟩ (fun _ hk => hk) trivial (od_ qa_) (Nat.le_trans (Nat.mul_le_mul_right _ (od_ qa_ : (l0.length : Int).toNat ≤ 11728124029610)) (by omega)) (Below.refl _ _) (Nat.le_refl _) ?_;intro v656 w4 ho5 hb hg_ hnew_;clear hg_ hnew_;(first|rw [← Ny655.out] at ho5|(simp only [Int.reduceToNat] at ho5;rw [← Ny655.out] at ho5));have n0_:=mk_ (Kd.S_lower ho5 (bz_ (qb_ HB)));have n1_:=mk_ (st_ (qb_ HB) hb);clear HB;have HO657:=n0_;have HB:=n1_;clear n0_ n1_ hb ho5))
   go_loopg [4] k (fun kq v4 w' => ∃ (x3_1 : List (List Int)) (x4_1 : Int),v4 = .int .i64 x4_1 ∧ Aside0 (laws_toByteSS.l0 kq l0 x3_1 x4_1 = some r) ∧ Aside0 (kq ≤ k) ∧ Aside0 (Kd.S (Kd.slice 5 (Kd.int .u8)) 22 w' w.heap.size (fun _ => True) v656 x3_1) ∧ Aside0 (Below w.heap.size w w'))
   case atStart => exact ⟨(y655),(0),qf_,H',⟨Nat.le_refl _⟩,⟨by (with_reducible repeat (first|apply Kd.S_alloc|apply Kd.S_drewN|apply Kd.S_drew));exact HO657.out⟩,⟨u0_ HB⟩⟩
   case round =>
    clear H'
    try clear c1
    try clear c2
    try clear c2b0
    try clear c2b1
    try clear p2
    try clear c3
    try clear c3b0
    try clear c3b1
    obtain ⟨x3_1,x4_1,rfl,HA,HK1,HO_3,HB⟩:=hrel
    cases gk with
    | zero => exact absurd HA.out (by simp [laws_toByteSS.l0])
    | succ k1 =>
     have H:=HA.out
     clear HA
     simp only [laws_toByteSS.l0] at H
     by_cases c6 : x4_1 < (l0.length : Int)
     ·rw [if_pos c6] at H
      have c6b0 : decide (x4_1 < (l0.length : Int)) = true:=decide_eq_true c6
      clear c6
      by_cases c7 : 0 ≤ x4_1
      ·rw [if_pos c7] at H
       have c7b0 : decide (0 ≤ x4_1) = true:=decide_eq_true c7
       clear c7
       replace H:=Option.bind_eq_some_iff.mp H
       obtain ⟨t659,A80,H⟩:=H
       replace H : (if x4_1 < (x3_1.length : Int) then (laws_toByteSS.l0 k1 l0 (x3_1.set (x4_1 : Int).toNat t659) (wrap64 (x4_1 + 1))) else (none)) = some r:=H
       have A8:=mk_ A80
       clear A80
       by_cases c9 : x4_1 < (x3_1.length : Int)
       ·rw [if_pos c9] at H
        have c9b0 : decide (x4_1 < (x3_1.length : Int)) = true:=decide_eq_true c9
        clear c9
        obtain ⟨y662,hy662⟩ : ∃ y_ : List (List Int),y_ = (x3_1.set (x4_1 : Int).toNat t659):=⟨_,rfl⟩
        replace H : (laws_toByteSS.l0 k1 l0 y662 (wrap64 (x4_1 + 1))) = some r:=by first|(rw [hy662];with_reducible exact H)|(have H2_:=(Option.bind_some _ _).symm.trans H;rw [hy662];with_reducible exact H2_)|(have H2_:=(Option.bind_some _ _).symm.trans H;with_reducible exact H2_)|with_reducible exact H|(rw [hy662];exact H)|exact H
        have Ny662:=mk_ hy662
        clear hy662
        have H':=mk_ H
        clear H
        have p658 : 0 ≤ (x4_1 : Int):=od_ qa_
        have q658 : x4_1 < (l0.length : Int):=od_ qa_
        obtain ⟨ad658,A658_0,c658_0,e658,hx658_0,hl658_0,hi658_0⟩:=at_L4 HR0.out x4_1 p658 q658
        cases e658
        replace hx658_0:=(HB.out.cell (wl_ w _ hx658_0)).trans hx658_0
        have HR658_0:=mk_ hi658_0
        have HC658_0:=mk_ hl658_0
        clear hi658_0 hl658_0
        replace p658:=eq_true p658
        replace q658:=eq_true q658
        go_wp2_with (first|((with_reducible refine gate_callee (f:=39) rfl ?_);refine goesL_ (some 20) rfl rfl Try.func39 (by kernel_rfl) rfl #[.slice A658_0 (rd_L4 l0 x4_1).length c658_0] rfl qm_ ?_;(with_reducible refine (laws_toByteS.calls k1 _ _ (rd_L4 l0 x4_1) t659 _ ?side1 ?side2 A8.out).mono ?_);(case side1 => exact qn_ HR658_0 HB);(case side2 => exact HC658_0.out);rintro e w11 ⟨v660,rfl,ho0,hb⟩;refine ⟨_,rfl,?_⟩;obtain ⟨Aq_,cq_,eq_⟩:=Kd.R_slice ho0;subst eq_;have n0_:=mk_ (Kd.S_elder' (by (with_reducible repeat (first|apply Kd.S_alloc|apply Kd.S_drewN|apply Kd.S_drew));exact HO_3.out) (Kd.R_base ho0) hb);have n1_:=mk_ (Kd.R_lower ho0 (bz_ (qb_ HB)));have n2_:=mk_ (st_ (qb_ HB) hb);clear HO_3 HB;have HO_3:=n0_;have HO661:=n1_;have HB:=n2_;clear n0_ n1_ n2_;(try clear hb);(try clear hb2);(try clear hk);(try clear hi);(try clear ho0);have p10 : 0 ≤ (x4_1 : Int):=od_ qa_;have q10 : (x4_1 : Int) < ((x3_1.length : Int) : Int):=od_ qa_;obtain ⟨go10,co10,eo10,gb10,gl10,cl10,HG10⟩:=Kd.S_form HO_3.out (by omega);(first|cases eo10|(injection eo10 with ea_ en_ ec_;(first|subst ea_|(injection ea_ with ea_;subst ea_));subst ec_;clear en_));have GB10:=mk_ gb10;have GG10:=mk_ HG10;clear gb10 gl10 HG10;obtain ⟨_,ce10,hcl10,hM10,hcc10,hfr10,_,_⟩:=Kd.S_elem HO_3.out [] (x4_1 : Int) p10 q10;obtain ⟨ve10_0,rfl,ge10_0⟩:=hM10;have hx10_0:=hcc10 0 _ rfl;have hf10_0:=hfr10 0;(try simp only [show ((Kd.slice 5 (Kd.int .u8))).sz = 1 from rfl,Nat.mul_one,Nat.add_zero] at hx10_0);(try simp only [show ((Kd.slice 5 (Kd.int .u8))).sz = 1 from rfl,Nat.mul_one,Nat.add_zero] at hf10_0);clear hcl10 hcc10 hfr10 ;(try clear hM10);replace p10:=eq_true p10;replace q10:=eq_true q10;have n_:=mk_ (Kd.S_mono (ok':=(fun k_ => some k_ ≠ ((.slice Aq_ t659.length cq_ : Value) : Value).ownBlock)) HO_3.out (fun k_ hk => hk.2));clear HO_3;have HO_3:=n_;clear n_;have HX12:=mk_ (show Kd.S (Kd.slice 5 (Kd.int .u8)) 22 w11 w.heap.size (fun k_ => ((fun _ => True)) k_ ∧ ¬ ((fun k_ => some k_ = ((.slice Aq_ t659.length cq_ : Value) : Value).ownBlock)) k_) (.slice (some ⟨go10,0,none⟩) x3_1.length co10) x3_1 from (by (with_reducible repeat (first|apply Kd.S_alloc|apply Kd.S_drewN|apply Kd.S_drew));exact Kd.S_mono HO_3.out (fun k_ hk => ⟨trivial,fun e_ => hk e_⟩)));obtain ⟨oki12,ce12,hcl12,hM12,hcc12,hfr12,hoki12,hH12⟩:=Kd.S_elem HX12.out [] (x4_1 : Int) (od_ qa_) (by have h_ : (x4_1 : Int) < ((x3_1.length : Int) : Int):=od_ qa_;first|exact h_|(have e_:=(Kd.S_reads' HO_3.out).1;omega)|simpa using h_);obtain ⟨ve12_0,rfl,ge12_0⟩:=hM12;have HP12:=Kd.S_seg hH12 (od_ qa_) (by have h_ : (x4_1 : Int) < ((x3_1.length : Int) : Int):=od_ qa_;first|exact h_|(have e_:=(Kd.S_reads' HO_3.out).1;omega)|simpa using h_) (seg:=[(.slice Aq_ t659.length cq_ : Value)]) (j:=0) (show 1 ≤ 1 from by decide) (x':=t659) (Kd.M_row (rm_ (Kd.R_tight rfl (rm_ (ok':=fun k_ => ((fun _ => True)) k_ ∧ k_ ≠ go10) (Kd.R_apart' (HO661.out) (Kd.S_typed HO_3.out) (by decide)) (fun k_ hk => ⟨trivial,fun e_ => (hk.2) (by rw [e_];rfl)⟩))) (fun _ h_ => Or.inr (h_)))) (fun _ hk => hk) (fun k_ hk_ => ((rm_ (ok':=fun k_ => ((fun _ => True)) k_ ∧ k_ ≠ go10) (Kd.R_apart' (HO661.out) (Kd.S_typed HO_3.out) (by decide)) (fun k_ hk => ⟨trivial,fun e_ => (hk.2) (by rw [e_];rfl)⟩))).1 k_ hk_.symm);have hx12_0:=hcc12 0 _ rfl;(try simp only [show ((Kd.slice 5 (Kd.int .u8))).sz = 1 from rfl,Nat.mul_one,Nat.add_zero] at hx12_0);have hf12_0:=hfr12 0;(try simp only [show ((Kd.slice 5 (Kd.int .u8))).sz = 1 from rfl,Nat.mul_one,Nat.add_zero] at hf12_0);clear hcl12 hcc12 hfr12  hoki12 hH12;(try clear hM12);(try simp only [show ((Kd.slice 5 (Kd.int .u8))).sz = 1 from rfl,Nat.mul_one,Nat.add_zero] at HP12))|((with_reducible refine gate_store (t:=22) (p:=21) rfl ?_);refine store_event (t:=22) (p:=21) (v:=?vo_w13) (w1:=(w11.setCell ⟨go10,(x4_1 : Int).toNat,none⟩ ((.slice Aq_ t659.length cq_ : Value)))) ?hg ?ho ?hn ?hr ?_;(case ho => rfl);(case hg => rfl);(case hn => rfl);(case hr => first|(go_simp;done)|(go_simp;rfl));intro w13 hw;have hg : w11.grownBy w13 (some go10):=(by rw [hw];exact HP12.2);have hp_ : Kd.S (Kd.slice 5 (Kd.int .u8)) 22 w13 w.heap.size (fun _ => True) (.slice (some ⟨go10,0,none⟩) x3_1.length co10) y662:=(by rw [hw,Ny662.out];exact HP12.1);clear HP12;have n0_:=mk_ (hp_);have n1_:=mk_ ((by rw [hw];exact bs_ (HB.out) GB10.out : Below w.heap.size w w13));clear HO_3 HB HO661;have HO_3:=n0_;have HB:=n1_;clear n0_ n1_ hg hw hp_))
        go_roundg k1
        case measure => have:=HK1.out;omega
        case rel => exact ⟨(y662),(wrap64 (x4_1 + 1)),qf_,H',⟨by have:=HK1.out;omega⟩,⟨by (with_reducible repeat (first|apply Kd.S_alloc|apply Kd.S_drewN|apply Kd.S_drew));exact HO_3.out⟩,⟨u0_ HB⟩⟩
       ·rw [if_neg c9] at H
        exact absurd H (by simp)
      ·rw [if_neg c7] at H
       exact absurd H (by simp)
     ·rw [if_neg c6] at H
      have c6b0 : decide (x4_1 < (l0.length : Int)) = false:=decide_eq_false c6
      clear c6
      obtain rfl:=Option.some.inj H
      go_wp2
      go_ret
      exact ⟨_,qe_,by (with_reducible repeat (first|apply Kd.S_alloc|apply Kd.S_drewN|apply Kd.S_drew));exact HO_3.out,u0_ HB⟩
  ·rw [if_neg c3] at H
   exact absurd H (by simp)
 ·rw [if_neg c2] at H
  exact absurd H (by simp)

/-! ### laws_toIntS: function 15 -/
def laws_toIntS.l0 : Nat → List Int → List Int → Int → Option (List Int)
 | 0,_,_,_ => none
 | k + 1,x0,x3,x4 => if x4 < (x0.length : Int) then (if 0 ≤ x4 then (if x4 < (x3.length : Int) then (laws_toIntS.l0 k x0 (x3.set (x4 : Int).toNat (rd x0 x4)) (wrap64 (x4 + 1))) else (none)) else (none)) else (some x3)
def laws_toIntS.f (k : Nat) (l0 : List Int) : Option (List Int):=if 0 ≤ (l0.length : Int) then (if ((l0.length : Int) : Int).toNat ≤ 35184372088832 then (laws_toIntS.l0 k l0 (List.replicate ((l0.length : Int) : Int).toNat 0) 0) else (none)) else (none)
theorem laws_toIntS.mono_l : ∀ k,(∀ y0 y1 y2,LeO (laws_toIntS.l0 k y0 y1 y2) (laws_toIntS.l0 (k + 1) y0 y1 y2))
 | 0 => fun _ _ _ r h => by simp [laws_toIntS.l0] at h
 | k + 1 => by
  have ih0:=laws_toIntS.mono_l k
  ·intro y0 y1 y2
   unfold laws_toIntS.l0
   repeat' first
   | (with_reducible exact ih0 _ _ _)
   | (with_reducible exact LeO.refl _)
   | (with_reducible exact LeO.none _)
   | (with_reducible refine LeO.ite ?_ ?_)
   | (with_reducible refine LeO.bind ?_ (fun _ => ?_))
   | exact ih0 _ _ _
   | exact LeO.none _
   | refine LeO.ite ?_ ?_
   | refine LeO.bind ?_ (fun _ => ?_)
theorem laws_toIntS.mono : ∀ a0 k,LeO (laws_toIntS.f k a0) (laws_toIntS.f (k + 1) a0):=by
 intro a0 k
 have ih0:=laws_toIntS.mono_l k
 unfold laws_toIntS.f
 repeat' first
   | (with_reducible exact ih0 _ _ _)
   | (with_reducible exact LeO.refl _)
   | (with_reducible exact LeO.none _)
   | (with_reducible refine LeO.ite ?_ ?_)
   | (with_reducible refine LeO.bind ?_ (fun _ => ?_))
   | exact ih0 _ _ _
   | exact LeO.none _
   | refine LeO.ite ?_ ?_
   | refine LeO.bind ?_ (fun _ => ?_)
set_option maxHeartbeats 8000000 in
set_option maxRecDepth 100000 in
theorem laws_toIntS.calls (k : Nat) (A0 : Option Addr) (c0 : Nat) (l0 : List Int) (r : List Int) (w : World) (hr0 : Kd.C (Kd.int .i64) w A0 l0.length l0) (hc0 : l0.length ≤ c0) (h : laws_toIntS.f k l0 = some r) :
  Calls Try.prog 15 #[.slice A0 l0.length c0] w fun e w' => ∃ v0_ : Value,e = .returned (v0_) ∧ Kd.R (Kd.int .i64) 3 w' w.heap.size (fun _ => True) v0_ r ∧ Below w.heap.size w w':=by
 have HR0:=mk_ hr0
 have HC0:=mk_ hc0
 clear hr0 hc0
 have HB:=mk_ (Below.refl w.heap.size w)
 have H : (if 0 ≤ (l0.length : Int) then (if ((l0.length : Int) : Int).toNat ≤ 35184372088832 then (laws_toIntS.l0 k l0 (List.replicate ((l0.length : Int) : Int).toNat 0) 0) else (none)) else (none)) = some r:=h
 clear h
 by_cases c2 : 0 ≤ (l0.length : Int)
 ·rw [if_pos c2] at H
  have c2b0:=eq_true c2
  have c2b1 : decide (0 ≤ (l0.length : Int)) = true:=decide_eq_true c2
  clear c2
  by_cases c3 : ((l0.length : Int) : Int).toNat ≤ 35184372088832
  ·rw [if_pos c3] at H
   have c3b0:=eq_true c3
   have c3b1 : decide (((l0.length : Int) : Int).toNat ≤ 35184372088832) = true:=decide_eq_true c3
   clear c3
   obtain ⟨y663,hy663⟩ : ∃ y_ : List Int,y_ = (List.replicate ((l0.length : Int) : Int).toNat 0):=⟨_,rfl⟩
   replace H : (laws_toIntS.l0 k l0 y663 0) = some r:=by first|(rw [hy663];with_reducible exact H)|(have H2_:=(Option.bind_some _ _).symm.trans H;rw [hy663];with_reducible exact H2_)|(have H2_:=(Option.bind_some _ _).symm.trans H;with_reducible exact H2_)|with_reducible exact H|(rw [hy663];exact H)|exact H
   have Ny663:=mk_ hy663
   clear hy663
   have H':=mk_ H
   clear H
   go_enter Try.func15,Try.ntmps15
   go_wp2_with (first|((with_reducible refine gate_dst (N:=7) rfl ?_);refine Kd.R_make (Kd.int .i64) _ 3 rfl (N:=7) rfl 24 _ _ rfl (l0.length : Int) rfl rfl Try.underlying24 (.int .i64 0) 8 info3 rfl (by decide) (by omega) 0 (ok:=fun _ => True) (okp:=fun _ => True) rfl (fun _ hk => hk) trivial (od_ qa_) (Nat.le_trans (Nat.mul_le_mul_right _ (od_ qa_ : (l0.length : Int).toNat ≤ 35184372088832)) (by omega)) (Below.refl _ _) (Nat.le_refl _) ?_;intro v664 w4 ho5 hb hg_ hnew_;clear hg_ hnew_;(first|rw [← Ny663.out] at ho5|(simp only [Int.reduceToNat] at ho5;rw [← Ny663.out] at ho5));have n0_:=mk_ (Kd.R_lower ho5 (bz_ (qb_ HB)));have n1_:=mk_ (st_ (qb_ HB) hb);clear HB;have HO665:=n0_;have HB:=n1_;clear n0_ n1_ hb ho5))
   go_loopg [4] k (fun kq v4 w' => ∃ (x3_1 : List Int) (x4_1 : Int),v4 = .int .i64 x4_1 ∧ Aside0 (laws_toIntS.l0 kq l0 x3_1 x4_1 = some r) ∧ Aside0 (kq ≤ k) ∧ Aside0 (Kd.R (Kd.int .i64) 3 w' w.heap.size (fun _ => True) v664 x3_1) ∧ Aside0 (Below w.heap.size w w'))
   case atStart => exact ⟨(y663),(0),qf_,H',⟨Nat.le_refl _⟩,⟨qr_ HO665⟩,⟨u0_ HB⟩⟩
   case round =>
    clear H'
    try clear c1
    try clear c2
    try clear c2b0
    try clear c2b1
    try clear p2
    try clear c3
    try clear c3b0
    try clear c3b1
    obtain ⟨x3_1,x4_1,rfl,HA,HK1,HO_3,HB⟩:=hrel
    cases gk with
    | zero => exact absurd HA.out (by simp [laws_toIntS.l0])
    | succ k1 =>
     have H:=HA.out
     clear HA
     simp only [laws_toIntS.l0] at H
     by_cases c6 : x4_1 < (l0.length : Int)
     ·rw [if_pos c6] at H
      have c6b0 : decide (x4_1 < (l0.length : Int)) = true:=decide_eq_true c6
      clear c6
      by_cases c7 : 0 ≤ x4_1
      ·rw [if_pos c7] at H
       have c7b0 : decide (0 ≤ x4_1) = true:=decide_eq_true c7
       clear c7
       by_cases c8 : x4_1 < (x3_1.length : Int)
       ·rw [if_pos c8] at H
        have c8b0 : decide (x4_1 < (x3_1.length : Int)) = true:=decide_eq_true c8
        clear c8
        obtain ⟨y667,hy667⟩ : ∃ y_ : List Int,y_ = (x3_1.set (x4_1 : Int).toNat (rd l0 x4_1)):=⟨_,rfl⟩
        replace H : (laws_toIntS.l0 k1 l0 y667 (wrap64 (x4_1 + 1))) = some r:=by first|(rw [hy667];with_reducible exact H)|(have H2_:=(Option.bind_some _ _).symm.trans H;rw [hy667];with_reducible exact H2_)|(have H2_:=(Option.bind_some _ _).symm.trans H;with_reducible exact H2_)|with_reducible exact H|(rw [hy667];exact H)|exact H
        have Ny667:=mk_ hy667
        clear hy667
        have H':=mk_ H
        clear H
        have p666 : 0 ≤ (x4_1 : Int):=od_ qa_
        have q666 : x4_1 < (l0.length : Int):=od_ qa_
        obtain ⟨ad666,e666,hx666_0⟩:=Kd.at_int HR0.out x4_1 p666 q666
        cases e666
        replace hx666_0:=(HB.out.cell (wl_ w _ hx666_0)).trans hx666_0
        replace p666:=eq_true p666
        replace q666:=eq_true q666
        have p9 : 0 ≤ (x4_1 : Int):=od_ qa_
        have q9 : (x4_1 : Int) < ((x3_1.length : Int) : Int):=od_ qa_
        obtain ⟨go9,co9,eo9,gb9,gl9,cl9,HG9⟩:=Kd.R_form HO_3.out (by omega)
        (first|cases eo9|(injection eo9 with ea_ en_ ec_;(first|subst ea_|(injection ea_ with ea_;subst ea_));subst ec_;clear en_))
        have GB9:=mk_ gb9
        have GG9:=mk_ HG9
        clear gb9 gl9 HG9
        obtain ⟨hx9_0,hf9_0⟩:=Kd.R_celln 0 HO_3.out (x4_1 : Int) p9 q9
        replace p9:=eq_true p9
        replace q9:=eq_true q9
        have HP10:=Kd.R_putg HO_3.out (x4_1 : Int) (rd l0 x4_1)
        go_wp2_with (first|((with_reducible refine gate_store (t:=3) (p:=20) rfl ?_);refine store_event (t:=3) (p:=20) (v:=?vo_w11) (w1:=(wr.setCell ⟨go9,(x4_1 : Int).toNat,none⟩ (.int .i64 (rd l0 x4_1)))) ?hg ?ho ?hn ?hr ?_;(case ho => rfl);(case hg => rfl);(case hn => rfl);(case hr => first|(go_simp;done)|(go_simp;rfl));intro w11 hw;have hg : wr.grownBy w11 (some go9):=(by rw [hw];exact HP10.2);have hp_ : Kd.R (Kd.int .i64) 3 w11 w.heap.size (fun _ => True) (.slice (some ⟨go9,0,none⟩) x3_1.length co9) y667:=(by rw [hw,Ny667.out];exact HP10.1);clear HP10;have n0_:=mk_ (hp_);have n1_:=mk_ ((by rw [hw];exact bs_ (HB.out) GB9.out : Below w.heap.size w w11));clear HO_3 HB;have HO_3:=n0_;have HB:=n1_;clear n0_ n1_ hg hw hp_))
        go_roundg k1
        case measure => have:=HK1.out;omega
        case rel => exact ⟨(y667),(wrap64 (x4_1 + 1)),qf_,H',⟨by have:=HK1.out;omega⟩,⟨qr_ HO_3⟩,⟨u0_ HB⟩⟩
       ·rw [if_neg c8] at H
        exact absurd H (by simp)
      ·rw [if_neg c7] at H
       exact absurd H (by simp)
     ·rw [if_neg c6] at H
      have c6b0 : decide (x4_1 < (l0.length : Int)) = false:=decide_eq_false c6
      clear c6
      obtain rfl:=Option.some.inj H
      go_wp2
      go_ret
      exact ⟨_,qe_,qr_ HO_3,u0_ HB⟩
  ·rw [if_neg c3] at H
   exact absurd H (by simp)
 ·rw [if_neg c2] at H
  exact absurd H (by simp)

/-! ### laws_eqByteS: function 40 -/
def laws_eqByteS.l0 : Nat → List Int → List Int → Int → Option (Bool)
 | 0,_,_,_ => none
 | k + 1,x0,x1,x5 => if x5 < (x0.length : Int) then (if 0 ≤ x5 then (if x5 < (x1.length : Int) then (if (rd x0 x5) = (rd x1 x5) then (laws_eqByteS.l0 k x0 x1 (wrap64 (x5 + 1))) else (some false)) else (none)) else (none)) else (some true)
def laws_eqByteS.f (k : Nat) (l0 : List Int) (l1 : List Int) : Option (Bool):=if (l0.length : Int) = (l1.length : Int) then (laws_eqByteS.l0 k l0 l1 0) else (some false)
theorem laws_eqByteS.mono_l : ∀ k,(∀ y0 y1 y2,LeO (laws_eqByteS.l0 k y0 y1 y2) (laws_eqByteS.l0 (k + 1) y0 y1 y2))
 | 0 => fun _ _ _ r h => by simp [laws_eqByteS.l0] at h
 | k + 1 => by
  have ih0:=laws_eqByteS.mono_l k
  ·intro y0 y1 y2
   unfold laws_eqByteS.l0
   repeat' first
   | (with_reducible exact ih0 _ _ _)
   | (with_reducible exact LeO.refl _)
   | (with_reducible exact LeO.none _)
   | (with_reducible refine LeO.ite ?_ ?_)
   | (with_reducible refine LeO.bind ?_ (fun _ => ?_))
   | exact ih0 _ _ _
   | exact LeO.none _
   | refine LeO.ite ?_ ?_
   | refine LeO.bind ?_ (fun _ => ?_)
theorem laws_eqByteS.mono : ∀ a0 a1 k,LeO (laws_eqByteS.f k a0 a1) (laws_eqByteS.f (k + 1) a0 a1):=by
 intro a0 a1 k
 have ih0:=laws_eqByteS.mono_l k
 unfold laws_eqByteS.f
 repeat' first
   | (with_reducible exact ih0 _ _ _)
   | (with_reducible exact LeO.refl _)
   | (with_reducible exact LeO.none _)
   | (with_reducible refine LeO.ite ?_ ?_)
   | (with_reducible refine LeO.bind ?_ (fun _ => ?_))
   | exact ih0 _ _ _
   | exact LeO.none _
   | refine LeO.ite ?_ ?_
   | refine LeO.bind ?_ (fun _ => ?_)
set_option maxHeartbeats 8000000 in
set_option maxRecDepth 100000 in
theorem laws_eqByteS.calls (k : Nat) (A0 : Option Addr) (c0 : Nat) (l0 : List Int) (A1 : Option Addr) (c1 : Nat) (l1 : List Int) (r : Bool) (w : World) (hr0 : Kd.C (Kd.int .u8) w A0 l0.length l0) (hc0 : l0.length ≤ c0) (hr1 : Kd.C (Kd.int .u8) w A1 l1.length l1) (hc1 : l1.length ≤ c1) (h : laws_eqByteS.f k l0 l1 = some r) :
  Calls Try.prog 40 #[.slice A0 l0.length c0,.slice A1 l1.length c1] w fun e w' => e = .returned (.bool r) ∧ Drawn0 w w':=by
 have HR0:=mk_ hr0
 have HC0:=mk_ hc0
 clear hr0 hc0
 have HR1:=mk_ hr1
 have HC1:=mk_ hc1
 clear hr1 hc1
 have H : (if (l0.length : Int) = (l1.length : Int) then (laws_eqByteS.l0 k l0 l1 0) else (some false)) = some r:=h
 clear h
 by_cases c3 : (l0.length : Int) = (l1.length : Int)
 ·rw [if_pos c3] at H
  have c3b0 : ((l0.length : Int) == (l1.length : Int)) = true:=beq_iff_eq.mpr c3
  have c3b1 : ((l0.length : Int) != (l1.length : Int)) = false:=bne_eq_false_iff_eq.mpr c3
  have c3b2 : (l0.length == l1.length) = true:=by first|simpa using c3|(simp at c3 ⊢;omega)
  clear c3
  have H':=mk_ H
  clear H
  go_enter Try.func40,Try.ntmps40
  go_wp2
  repeat (go_quiet (fail);try go_wp2)
  go_loopg [5] k (fun kq v5 w' => ∃ (x5_1 : Int),v5 = .int .i64 x5_1 ∧ Aside0 (laws_eqByteS.l0 kq l0 l1 x5_1 = some r) ∧ Aside0 (kq ≤ k) ∧ Drawn0 w w')
  case atStart => exact ⟨(0),qf_,H',⟨Nat.le_refl _⟩,by repeat (first|exact Drawn0.refl _|apply Drawn0.step)⟩
  case round =>
   clear H'
   try clear c1
   try clear p2
   try clear c3
   try clear c3b0
   try clear c3b1
   try clear c3b2
   obtain ⟨x5_1,rfl,HA,HK1,⟨m1,rfl⟩⟩:=hrel
   cases gk with
   | zero => exact absurd HA.out (by simp [laws_eqByteS.l0])
   | succ k1 =>
    have H:=HA.out
    clear HA
    simp only [laws_eqByteS.l0] at H
    by_cases c4 : x5_1 < (l0.length : Int)
    ·rw [if_pos c4] at H
     have c4b0 : decide (x5_1 < (l0.length : Int)) = true:=decide_eq_true c4
     clear c4
     by_cases c5 : 0 ≤ x5_1
     ·rw [if_pos c5] at H
      have c5b0 : decide (0 ≤ x5_1) = true:=decide_eq_true c5
      clear c5
      by_cases c6 : x5_1 < (l1.length : Int)
      ·rw [if_pos c6] at H
       have c6b0 : decide (x5_1 < (l1.length : Int)) = true:=decide_eq_true c6
       clear c6
       by_cases c7 : (rd l0 x5_1) = (rd l1 x5_1)
       ·rw [if_pos c7] at H
        have c7b0 : ((rd l0 x5_1) == (rd l1 x5_1)) = true:=beq_iff_eq.mpr c7
        have c7b1 : ((rd l0 x5_1) != (rd l1 x5_1)) = false:=bne_eq_false_iff_eq.mpr c7
        clear c7
        have H':=mk_ H
        clear H
        have p668 : 0 ≤ (x5_1 : Int):=od_ qa_
        have q668 : x5_1 < (l0.length : Int):=od_ qa_
        obtain ⟨ad668,e668,hx668_0⟩:=Kd.at_int HR0.out x5_1 p668 q668
        cases e668
        replace p668:=eq_true p668
        replace q668:=eq_true q668
        have p669 : 0 ≤ (x5_1 : Int):=od_ qa_
        have q669 : x5_1 < (l1.length : Int):=od_ qa_
        obtain ⟨ad669,e669,hx669_0⟩:=Kd.at_int HR1.out x5_1 p669 q669
        cases e669
        replace p669:=eq_true p669
        replace q669:=eq_true q669
        go_wp2
        repeat (go_quiet (fail);try go_wp2)
        go_roundg k1
        case measure => have:=HK1.out;omega
        case rel => exact ⟨(wrap64 (x5_1 + 1)),qf_,H',⟨by have:=HK1.out;omega⟩,by repeat (first|exact Drawn0.refl _|apply Drawn0.step)⟩
       ·rw [if_neg c7] at H
        have c7b0 : ((rd l0 x5_1) == (rd l1 x5_1)) = false:=beq_eq_false_iff_ne.mpr c7
        have c7b1 : ((rd l0 x5_1) != (rd l1 x5_1)) = true:=bne_iff_ne.mpr c7
        obtain rfl:=Option.some.inj H
        have p668 : 0 ≤ (x5_1 : Int):=od_ qa_
        have q668 : x5_1 < (l0.length : Int):=od_ qa_
        obtain ⟨ad668,e668,hx668_0⟩:=Kd.at_int HR0.out x5_1 p668 q668
        cases e668
        replace p668:=eq_true p668
        replace q668:=eq_true q668
        have p669 : 0 ≤ (x5_1 : Int):=od_ qa_
        have q669 : x5_1 < (l1.length : Int):=od_ qa_
        obtain ⟨ad669,e669,hx669_0⟩:=Kd.at_int HR1.out x5_1 p669 q669
        cases e669
        replace p669:=eq_true p669
        replace q669:=eq_true q669
        go_wp2
        repeat (go_quiet (fail);try go_wp2)
        go_ret
        exact ⟨by first|rfl|(simp;done)|(simp [*];done),by repeat (first|exact Drawn0.refl _|apply Drawn0.step)⟩
      ·rw [if_neg c6] at H
       exact absurd H (by simp)
     ·rw [if_neg c5] at H
      exact absurd H (by simp)
    ·rw [if_neg c4] at H
     have c4b0 : decide (x5_1 < (l0.length : Int)) = false:=decide_eq_false c4
     clear c4
     obtain rfl:=Option.some.inj H
     go_wp2
     repeat (go_quiet (fail);try go_wp2)
     go_ret
     exact ⟨by first|rfl|(simp;done)|(simp [*];done),by repeat (first|exact Drawn0.refl _|apply Drawn0.step)⟩
 ·rw [if_neg c3] at H
  have c3b0 : ((l0.length : Int) == (l1.length : Int)) = false:=beq_eq_false_iff_ne.mpr c3
  have c3b1 : ((l0.length : Int) != (l1.length : Int)) = true:=bne_iff_ne.mpr c3
  have c3b2 : (l0.length == l1.length) = false:=by first|simpa using c3|(simp at c3 ⊢;omega)
  obtain rfl:=Option.some.inj H
  go_enter Try.func40,Try.ntmps40
  go_wp2
  repeat (go_quiet (fail);try go_wp2)
  go_ret
  exact ⟨by first|rfl|(simp;done)|(simp [*];done),by repeat (first|exact Drawn0.refl _|apply Drawn0.step)⟩

/-! ### laws_eqByteSS: function 17 -/
def laws_eqByteSS.l0 : Nat → List (List Int) → List (List Int) → Int → Option (Bool)
 | 0,_,_,_ => none
 | k + 1,x0,x1,x5 => if x5 < (x0.length : Int) then (if 0 ≤ x5 then (if x5 < (x1.length : Int) then ((laws_eqByteS.f k (rd_L4 x0 x5) (rd_L4 x1 x5)).bind fun t672 => (if t672 = true then (laws_eqByteSS.l0 k x0 x1 (wrap64 (x5 + 1))) else (some false))) else (none)) else (none)) else (some true)
def laws_eqByteSS.f (k : Nat) (l0 : List (List Int)) (l1 : List (List Int)) : Option (Bool):=if (l0.length : Int) = (l1.length : Int) then (laws_eqByteSS.l0 k l0 l1 0) else (some false)
theorem laws_eqByteSS.mono_l : ∀ k,(∀ y0 y1 y2,LeO (laws_eqByteSS.l0 k y0 y1 y2) (laws_eqByteSS.l0 (k + 1) y0 y1 y2))
 | 0 => fun _ _ _ r h => by simp [laws_eqByteSS.l0] at h
 | k + 1 => by
  have ih0:=laws_eqByteSS.mono_l k
  ·intro y0 y1 y2
   unfold laws_eqByteSS.l0
   repeat' first
   | (with_reducible exact ih0 _ _ _)
   | (with_reducible exact laws_eqByteS.mono _ _ _)
   | (with_reducible exact LeO.refl _)
   | (with_reducible exact LeO.none _)
   | (with_reducible refine LeO.ite ?_ ?_)
   | (with_reducible refine LeO.bind ?_ (fun _ => ?_))
   | exact ih0 _ _ _
   | exact laws_eqByteS.mono _ _ _
   | exact LeO.none _
   | refine LeO.ite ?_ ?_
   | refine LeO.bind ?_ (fun _ => ?_)
theorem laws_eqByteSS.mono : ∀ a0 a1 k,LeO (laws_eqByteSS.f k a0 a1) (laws_eqByteSS.f (k + 1) a0 a1):=by
 intro a0 a1 k
 have ih0:=laws_eqByteSS.mono_l k
 unfold laws_eqByteSS.f
 repeat' first
   | (with_reducible exact ih0 _ _ _)
   | (with_reducible exact laws_eqByteS.mono _ _ _)
   | (with_reducible exact LeO.refl _)
   | (with_reducible exact LeO.none _)
   | (with_reducible refine LeO.ite ?_ ?_)
   | (with_reducible refine LeO.bind ?_ (fun _ => ?_))
   | exact ih0 _ _ _
   | exact laws_eqByteS.mono _ _ _
   | exact LeO.none _
   | refine LeO.ite ?_ ?_
   | refine LeO.bind ?_ (fun _ => ?_)
set_option maxHeartbeats 8000000 in
set_option maxRecDepth 100000 in
theorem laws_eqByteSS.calls (k : Nat) (A0 : Option Addr) (c0 : Nat) (l0 : List (List Int)) (A1 : Option Addr) (c1 : Nat) (l1 : List (List Int)) (r : Bool) (w : World) (hr0 : Kd.C (Kd.slice 5 (Kd.int .u8)) w A0 l0.length l0) (hc0 : l0.length ≤ c0) (hr1 : Kd.C (Kd.slice 5 (Kd.int .u8)) w A1 l1.length l1) (hc1 : l1.length ≤ c1) (h : laws_eqByteSS.f k l0 l1 = some r) :
  Calls Try.prog 17 #[.slice A0 l0.length c0,.slice A1 l1.length c1] w fun e w' => e = .returned (.bool r) ∧ Drawn0 w w':=by
 have HR0:=mk_ hr0
 have HC0:=mk_ hc0
 clear hr0 hc0
 have HR1:=mk_ hr1
 have HC1:=mk_ hc1
 clear hr1 hc1
 have H : (if (l0.length : Int) = (l1.length : Int) then (laws_eqByteSS.l0 k l0 l1 0) else (some false)) = some r:=h
 clear h
 by_cases c3 : (l0.length : Int) = (l1.length : Int)
 ·rw [if_pos c3] at H
  have c3b0 : ((l0.length : Int) == (l1.length : Int)) = true:=beq_iff_eq.mpr c3
  have c3b1 : ((l0.length : Int) != (l1.length : Int)) = false:=bne_eq_false_iff_eq.mpr c3
  have c3b2 : (l0.length == l1.length) = true:=by first|simpa using c3|(simp at c3 ⊢;omega)
  clear c3
  have H':=mk_ H
  clear H
  go_enter Try.func17,Try.ntmps17
  go_wp2
  repeat (go_quiet (fail);try go_wp2)
  go_loopg [5] k (fun kq v5 w' => ∃ (x5_1 : Int),v5 = .int .i64 x5_1 ∧ Aside0 (laws_eqByteSS.l0 kq l0 l1 x5_1 = some r) ∧ Aside0 (kq ≤ k) ∧ Drawn0 w w')
  case atStart => exact ⟨(0),qf_,H',⟨Nat.le_refl _⟩,by repeat (first|exact Drawn0.refl _|apply Drawn0.step)⟩
  case round =>
   clear H'
   try clear c1
   try clear p2
   try clear c3
   try clear c3b0
   try clear c3b1
   try clear c3b2
   obtain ⟨x5_1,rfl,HA,HK1,⟨m1,rfl⟩⟩:=hrel
   cases gk with
   | zero => exact absurd HA.out (by simp [laws_eqByteSS.l0])
   | succ k1 =>
    have H:=HA.out
    clear HA
    simp only [laws_eqByteSS.l0] at H
    by_cases c4 : x5_1 < (l0.length : Int)
    ·rw [if_pos c4] at H
     have c4b0 : decide (x5_1 < (l0.length : Int)) = true:=decide_eq_true c4
     clear c4
     by_cases c5 : 0 ≤ x5_1
     ·rw [if_pos c5] at H
      have c5b0 : decide (0 ≤ x5_1) = true:=decide_eq_true c5
      clear c5
      by_cases c6 : x5_1 < (l1.length : Int)
      ·rw [if_pos c6] at H
       have c6b0 : decide (x5_1 < (l1.length : Int)) = true:=decide_eq_true c6
       clear c6
       replace H:=Option.bind_eq_some_iff.mp H
       obtain ⟨t672,A70,H⟩:=H
       replace H : (if t672 = true then (laws_eqByteSS.l0 k1 l0 l1 (wrap64 (x5_1 + 1))) else (some false)) = some r:=H
       have A7:=mk_ A70
       clear A70
       by_cases c8 : t672 = true
       ·subst c8
        have H1 : (laws_eqByteSS.l0 k1 l0 l1 (wrap64 (x5_1 + 1))) = some r:=by rw [if_pos rfl] at H;exact H
        clear H
        have H:=H1
        clear H1
        have H':=mk_ H
        clear H
        have p670 : 0 ≤ (x5_1 : Int):=od_ qa_
        have q670 : x5_1 < (l0.length : Int):=od_ qa_
        obtain ⟨ad670,A670_0,c670_0,e670,hx670_0,hl670_0,hi670_0⟩:=at_L4 HR0.out x5_1 p670 q670
        cases e670
        have HR670_0:=mk_ hi670_0
        have HC670_0:=mk_ hl670_0
        clear hi670_0 hl670_0
        replace p670:=eq_true p670
        replace q670:=eq_true q670
        have p671 : 0 ≤ (x5_1 : Int):=od_ qa_
        have q671 : x5_1 < (l1.length : Int):=od_ qa_
        obtain ⟨ad671,A671_0,c671_0,e671,hx671_0,hl671_0,hi671_0⟩:=at_L4 HR1.out x5_1 p671 q671
        cases e671
        have HR671_0:=mk_ hi671_0
        have HC671_0:=mk_ hl671_0
        clear hi671_0 hl671_0
        replace p671:=eq_true p671
        replace q671:=eq_true q671
        go_wp2_with (first|(go_at_call 40;(with_reducible refine (laws_eqByteS.calls k1 _ _ (rd_L4 l0 x5_1) _ _ (rd_L4 l1 x5_1) true _ ?side1 ?side2 ?side3 ?side4 A7.out).mono ?_);(case side1 => repeat (first|exact HR670_0.out|(with_reducible refine ca_ ?_ _)|(with_reducible refine cn_ ?_ _)|(with_reducible refine cd_ ?_)));(case side2 => exact HC670_0.out);(case side3 => repeat (first|exact HR671_0.out|(with_reducible refine ca_ ?_ _)|(with_reducible refine cn_ ?_ _)|(with_reducible refine cd_ ?_)));(case side4 => exact HC671_0.out);rintro e w' ⟨rfl,⟨nd,rfl⟩⟩;(try first|exact ⟨rfl,_,World.drewN_drewN _ _ _⟩|exact ⟨rfl,_,Eq.trans (World.drewN_drewN _ _ _) (congrArg (World.drewN _) (Nat.add_assoc _ _ _))⟩)))
        repeat (go_quiet (first|(go_at_call 40;(with_reducible refine (laws_eqByteS.calls k1 _ _ (rd_L4 l0 x5_1) _ _ (rd_L4 l1 x5_1) true _ ?side1 ?side2 ?side3 ?side4 A7.out).mono ?_);(case side1 => repeat (first|exact HR670_0.out|(with_reducible refine ca_ ?_ _)|(with_reducible refine cn_ ?_ _)|(with_reducible refine cd_ ?_)));(case side2 => exact HC670_0.out);(case side3 => repeat (first|exact HR671_0.out|(with_reducible refine ca_ ?_ _)|(with_reducible refine cn_ ?_ _)|(with_reducible refine cd_ ?_)));(case side4 => exact HC671_0.out);rintro e w' ⟨rfl,⟨nd,rfl⟩⟩;(try first|exact ⟨rfl,_,World.drewN_drewN _ _ _⟩|exact ⟨rfl,_,Eq.trans (World.drewN_drewN _ _ _) (congrArg (World.drewN _) (Nat.add_assoc _ _ _))⟩)));try go_wp2_with (first|(go_at_call 40;(with_reducible refine (laws_eqByteS.calls k1 _ _ (rd_L4 l0 x5_1) _ _ (rd_L4 l1 x5_1) true _ ?side1 ?side2 ?side3 ?side4 A7.out).mono ?_);(case side1 => repeat (first|exact HR670_0.out|(with_reducible refine ca_ ?_ _)|(with_reducible refine cn_ ?_ _)|(with_reducible refine cd_ ?_)));(case side2 => exact HC670_0.out);(case side3 => repeat (first|exact HR671_0.out|(with_reducible refine ca_ ?_ _)|(with_reducible refine cn_ ?_ _)|(with_reducible refine cd_ ?_)));(case side4 => exact HC671_0.out);rintro e w' ⟨rfl,⟨nd,rfl⟩⟩;(try first|exact ⟨rfl,_,World.drewN_drewN _ _ _⟩|exact ⟨rfl,_,Eq.trans (World.drewN_drewN _ _ _) (congrArg (World.drewN _) (Nat.add_assoc _ _ _))⟩))))
        go_roundg k1
        case measure => have:=HK1.out;omega
        case rel => exact ⟨(wrap64 (x5_1 + 1)),qf_,H',⟨by have:=HK1.out;omega⟩,by repeat (first|exact Drawn0.refl _|apply Drawn0.step)⟩
       ·replace c8:=Bool.eq_false_iff.mpr c8
        subst c8
        have H1 : (some false) = some r:=by rw [if_neg (show ¬ (false = true) by decide)] at H;exact H
        clear H
        have H:=H1
        clear H1
        obtain rfl:=Option.some.inj H
        have p670 : 0 ≤ (x5_1 : Int):=od_ qa_
        have q670 : x5_1 < (l0.length : Int):=od_ qa_
        obtain ⟨ad670,A670_0,c670_0,e670,hx670_0,hl670_0,hi670_0⟩:=at_L4 HR0.out x5_1 p670 q670
        cases e670
        have HR670_0:=mk_ hi670_0
        have HC670_0:=mk_ hl670_0
        clear hi670_0 hl670_0
        replace p670:=eq_true p670
        replace q670:=eq_true q670
        have p671 : 0 ≤ (x5_1 : Int):=od_ qa_
        have q671 : x5_1 < (l1.length : Int):=od_ qa_
        obtain ⟨ad671,A671_0,c671_0,e671,hx671_0,hl671_0,hi671_0⟩:=at_L4 HR1.out x5_1 p671 q671
        cases e671
        have HR671_0:=mk_ hi671_0
        have HC671_0:=mk_ hl671_0
        clear hi671_0 hl671_0
        replace p671:=eq_true p671
        replace q671:=eq_true q671
        go_wp2_with (first|(go_at_call 40;(with_reducible refine (laws_eqByteS.calls k1 _ _ (rd_L4 l0 x5_1) _ _ (rd_L4 l1 x5_1) false _ ?side1 ?side2 ?side3 ?side4 A7.out).mono ?_);(case side1 => repeat (first|exact HR670_0.out|(with_reducible refine ca_ ?_ _)|(with_reducible refine cn_ ?_ _)|(with_reducible refine cd_ ?_)));(case side2 => exact HC670_0.out);(case side3 => repeat (first|exact HR671_0.out|(with_reducible refine ca_ ?_ _)|(with_reducible refine cn_ ?_ _)|(with_reducible refine cd_ ?_)));(case side4 => exact HC671_0.out);rintro e w' ⟨rfl,⟨nd,rfl⟩⟩;(try first|exact ⟨rfl,_,World.drewN_drewN _ _ _⟩|exact ⟨rfl,_,Eq.trans (World.drewN_drewN _ _ _) (congrArg (World.drewN _) (Nat.add_assoc _ _ _))⟩)))
        repeat (go_quiet (first|(go_at_call 40;(with_reducible refine (laws_eqByteS.calls k1 _ _ (rd_L4 l0 x5_1) _ _ (rd_L4 l1 x5_1) false _ ?side1 ?side2 ?side3 ?side4 A7.out).mono ?_);(case side1 => repeat (first|exact HR670_0.out|(with_reducible refine ca_ ?_ _)|(with_reducible refine cn_ ?_ _)|(with_reducible refine cd_ ?_)));(case side2 => exact HC670_0.out);(case side3 => repeat (first|exact HR671_0.out|(with_reducible refine ca_ ?_ _)|(with_reducible refine cn_ ?_ _)|(with_reducible refine cd_ ?_)));(case side4 => exact HC671_0.out);rintro e w' ⟨rfl,⟨nd,rfl⟩⟩;(try first|exact ⟨rfl,_,World.drewN_drewN _ _ _⟩|exact ⟨rfl,_,Eq.trans (World.drewN_drewN _ _ _) (congrArg (World.drewN _) (Nat.add_assoc _ _ _))⟩)));try go_wp2_with (first|(go_at_call 40;(with_reducible refine (laws_eqByteS.calls k1 _ _ (rd_L4 l0 x5_1) _ _ (rd_L4 l1 x5_1) false _ ?side1 ?side2 ?side3 ?side4 A7.out).mono ?_);(case side1 => repeat (first|exact HR670_0.out|(with_reducible refine ca_ ?_ _)|(with_reducible refine cn_ ?_ _)|(with_reducible refine cd_ ?_)));(case side2 => exact HC670_0.out);(case side3 => repeat (first|exact HR671_0.out|(with_reducible refine ca_ ?_ _)|(with_reducible refine cn_ ?_ _)|(with_reducible refine cd_ ?_)));(case side4 => exact HC671_0.out);rintro e w' ⟨rfl,⟨nd,rfl⟩⟩;(try first|exact ⟨rfl,_,World.drewN_drewN _ _ _⟩|exact ⟨rfl,_,Eq.trans (World.drewN_drewN _ _ _) (congrArg (World.drewN _) (Nat.add_assoc _ _ _))⟩))))
        go_ret
        exact ⟨by first|rfl|(simp;done)|(simp [*];done),by repeat (first|exact Drawn0.refl _|apply Drawn0.step)⟩
      ·rw [if_neg c6] at H
       exact absurd H (by simp)
     ·rw [if_neg c5] at H
      exact absurd H (by simp)
    ·rw [if_neg c4] at H
     have c4b0 : decide (x5_1 < (l0.length : Int)) = false:=decide_eq_false c4
     clear c4
     obtain rfl:=Option.some.inj H
     go_wp2
     repeat (go_quiet (fail);try go_wp2)
     go_ret
     exact ⟨by first|rfl|(simp;done)|(simp [*];done),by repeat (first|exact Drawn0.refl _|apply Drawn0.step)⟩
 ·rw [if_neg c3] at H
  have c3b0 : ((l0.length : Int) == (l1.length : Int)) = false:=beq_eq_false_iff_ne.mpr c3
  have c3b1 : ((l0.length : Int) != (l1.length : Int)) = true:=bne_iff_ne.mpr c3
  have c3b2 : (l0.length == l1.length) = false:=by first|simpa using c3|(simp at c3 ⊢;omega)
  obtain rfl:=Option.some.inj H
  go_enter Try.func17,Try.ntmps17
  go_wp2
  repeat (go_quiet (fail);try go_wp2)
  go_ret
  exact ⟨by first|rfl|(simp;done)|(simp [*];done),by repeat (first|exact Drawn0.refl _|apply Drawn0.step)⟩

/-! ### laws_eqIntS: function 18 -/
def laws_eqIntS.l0 : Nat → List Int → List Int → Int → Option (Bool)
 | 0,_,_,_ => none
 | k + 1,x0,x1,x5 => if x5 < (x0.length : Int) then (if 0 ≤ x5 then (if x5 < (x1.length : Int) then (if (rd x0 x5) = (rd x1 x5) then (laws_eqIntS.l0 k x0 x1 (wrap64 (x5 + 1))) else (some false)) else (none)) else (none)) else (some true)
def laws_eqIntS.f (k : Nat) (l0 : List Int) (l1 : List Int) : Option (Bool):=if (l0.length : Int) = (l1.length : Int) then (laws_eqIntS.l0 k l0 l1 0) else (some false)
theorem laws_eqIntS.mono_l : ∀ k,(∀ y0 y1 y2,LeO (laws_eqIntS.l0 k y0 y1 y2) (laws_eqIntS.l0 (k + 1) y0 y1 y2))
 | 0 => fun _ _ _ r h => by simp [laws_eqIntS.l0] at h
 | k + 1 => by
  have ih0:=laws_eqIntS.mono_l k
  ·intro y0 y1 y2
   unfold laws_eqIntS.l0
   repeat' first
   | (with_reducible exact ih0 _ _ _)
   | (with_reducible exact LeO.refl _)
   | (with_reducible exact LeO.none _)
   | (with_reducible refine LeO.ite ?_ ?_)
   | (with_reducible refine LeO.bind ?_ (fun _ => ?_))
   | exact ih0 _ _ _
   | exact LeO.none _
   | refine LeO.ite ?_ ?_
   | refine LeO.bind ?_ (fun _ => ?_)
theorem laws_eqIntS.mono : ∀ a0 a1 k,LeO (laws_eqIntS.f k a0 a1) (laws_eqIntS.f (k + 1) a0 a1):=by
 intro a0 a1 k
 have ih0:=laws_eqIntS.mono_l k
 unfold laws_eqIntS.f
 repeat' first
   | (with_reducible exact ih0 _ _ _)
   | (with_reducible exact LeO.refl _)
   | (with_reducible exact LeO.none _)
   | (with_reducible refine LeO.ite ?_ ?_)
   | (with_reducible refine LeO.bind ?_ (fun _ => ?_))
   | exact ih0 _ _ _
   | exact LeO.none _
   | refine LeO.ite ?_ ?_
   | refine LeO.bind ?_ (fun _ => ?_)
set_option maxHeartbeats 8000000 in
set_option maxRecDepth 100000 in
theorem laws_eqIntS.calls (k : Nat) (A0 : Option Addr) (c0 : Nat) (l0 : List Int) (A1 : Option Addr) (c1 : Nat) (l1 : List Int) (r : Bool) (w : World) (hr0 : Kd.C (Kd.int .i64) w A0 l0.length l0) (hc0 : l0.length ≤ c0) (hr1 : Kd.C (Kd.int .i64) w A1 l1.length l1) (hc1 : l1.length ≤ c1) (h : laws_eqIntS.f k l0 l1 = some r) :
  Calls Try.prog 18 #[.slice A0 l0.length c0,.slice A1 l1.length c1] w fun e w' => e = .returned (.bool r) ∧ Drawn0 w w':=by
 have HR0:=mk_ hr0
 have HC0:=mk_ hc0
 clear hr0 hc0
 have HR1:=mk_ hr1
 have HC1:=mk_ hc1
 clear hr1 hc1
 have H : (if (l0.length : Int) = (l1.length : Int) then (laws_eqIntS.l0 k l0 l1 0) else (some false)) = some r:=h
 clear h
 by_cases c3 : (l0.length : Int) = (l1.length : Int)
 ·rw [if_pos c3] at H
  have c3b0 : ((l0.length : Int) == (l1.length : Int)) = true:=beq_iff_eq.mpr c3
  have c3b1 : ((l0.length : Int) != (l1.length : Int)) = false:=bne_eq_false_iff_eq.mpr c3
  have c3b2 : (l0.length == l1.length) = true:=by first|simpa using c3|(simp at c3 ⊢;omega)
  clear c3
  have H':=mk_ H
  clear H
  go_enter Try.func18,Try.ntmps18
  go_wp2
  repeat (go_quiet (fail);try go_wp2)
  go_loopg [5] k (fun kq v5 w' => ∃ (x5_1 : Int),v5 = .int .i64 x5_1 ∧ Aside0 (laws_eqIntS.l0 kq l0 l1 x5_1 = some r) ∧ Aside0 (kq ≤ k) ∧ Drawn0 w w')
  case atStart => exact ⟨(0),qf_,H',⟨Nat.le_refl _⟩,by repeat (first|exact Drawn0.refl _|apply Drawn0.step)⟩
  case round =>
   clear H'
   try clear c1
   try clear p2
   try clear c3
   try clear c3b0
   try clear c3b1
   try clear c3b2
   obtain ⟨x5_1,rfl,HA,HK1,⟨m1,rfl⟩⟩:=hrel
   cases gk with
   | zero => exact absurd HA.out (by simp [laws_eqIntS.l0])
   | succ k1 =>
    have H:=HA.out
    clear HA
    simp only [laws_eqIntS.l0] at H
    by_cases c4 : x5_1 < (l0.length : Int)
    ·rw [if_pos c4] at H
     have c4b0 : decide (x5_1 < (l0.length : Int)) = true:=decide_eq_true c4
     clear c4
     by_cases c5 : 0 ≤ x5_1
     ·rw [if_pos c5] at H
      have c5b0 : decide (0 ≤ x5_1) = true:=decide_eq_true c5
      clear c5
      by_cases c6 : x5_1 < (l1.length : Int)
      ·rw [if_pos c6] at H
       have c6b0 : decide (x5_1 < (l1.length : Int)) = true:=decide_eq_true c6
       clear c6
       by_cases c7 : (rd l0 x5_1) = (rd l1 x5_1)
       ·rw [if_pos c7] at H
        have c7b0 : ((rd l0 x5_1) == (rd l1 x5_1)) = true:=beq_iff_eq.mpr c7
        have c7b1 : ((rd l0 x5_1) != (rd l1 x5_1)) = false:=bne_eq_false_iff_eq.mpr c7
        clear c7
        have H':=mk_ H
        clear H
        have p673 : 0 ≤ (x5_1 : Int):=od_ qa_
        have q673 : x5_1 < (l0.length : Int):=od_ qa_
        obtain ⟨ad673,e673,hx673_0⟩:=Kd.at_int HR0.out x5_1 p673 q673
        cases e673
        replace p673:=eq_true p673
        replace q673:=eq_true q673
        have p674 : 0 ≤ (x5_1 : Int):=od_ qa_
        have q674 : x5_1 < (l1.length : Int):=od_ qa_
        obtain ⟨ad674,e674,hx674_0⟩:=Kd.at_int HR1.out x5_1 p674 q674
        cases e674
        replace p674:=eq_true p674
        replace q674:=eq_true q674
        go_wp2
        repeat (go_quiet (fail);try go_wp2)
        go_roundg k1
        case measure => have:=HK1.out;omega
        case rel => exact ⟨(wrap64 (x5_1 + 1)),qf_,H',⟨by have:=HK1.out;omega⟩,by repeat (first|exact Drawn0.refl _|apply Drawn0.step)⟩
       ·rw [if_neg c7] at H
        have c7b0 : ((rd l0 x5_1) == (rd l1 x5_1)) = false:=beq_eq_false_iff_ne.mpr c7
        have c7b1 : ((rd l0 x5_1) != (rd l1 x5_1)) = true:=bne_iff_ne.mpr c7
        obtain rfl:=Option.some.inj H
        have p673 : 0 ≤ (x5_1 : Int):=od_ qa_
        have q673 : x5_1 < (l0.length : Int):=od_ qa_
        obtain ⟨ad673,e673,hx673_0⟩:=Kd.at_int HR0.out x5_1 p673 q673
        cases e673
        replace p673:=eq_true p673
        replace q673:=eq_true q673
        have p674 : 0 ≤ (x5_1 : Int):=od_ qa_
        have q674 : x5_1 < (l1.length : Int):=od_ qa_
        obtain ⟨ad674,e674,hx674_0⟩:=Kd.at_int HR1.out x5_1 p674 q674
        cases e674
        replace p674:=eq_true p674
        replace q674:=eq_true q674
        go_wp2
        repeat (go_quiet (fail);try go_wp2)
        go_ret
        exact ⟨by first|rfl|(simp;done)|(simp [*];done),by repeat (first|exact Drawn0.refl _|apply Drawn0.step)⟩
      ·rw [if_neg c6] at H
       exact absurd H (by simp)
     ·rw [if_neg c5] at H
      exact absurd H (by simp)
    ·rw [if_neg c4] at H
     have c4b0 : decide (x5_1 < (l0.length : Int)) = false:=decide_eq_false c4
     clear c4
     obtain rfl:=Option.some.inj H
     go_wp2
     repeat (go_quiet (fail);try go_wp2)
     go_ret
     exact ⟨by first|rfl|(simp;done)|(simp [*];done),by repeat (first|exact Drawn0.refl _|apply Drawn0.step)⟩
 ·rw [if_neg c3] at H
  have c3b0 : ((l0.length : Int) == (l1.length : Int)) = false:=beq_eq_false_iff_ne.mpr c3
  have c3b1 : ((l0.length : Int) != (l1.length : Int)) = true:=bne_iff_ne.mpr c3
  have c3b2 : (l0.length == l1.length) = false:=by first|simpa using c3|(simp at c3 ⊢;omega)
  obtain rfl:=Option.some.inj H
  go_enter Try.func18,Try.ntmps18
  go_wp2
  repeat (go_quiet (fail);try go_wp2)
  go_ret
  exact ⟨by first|rfl|(simp;done)|(simp [*];done),by repeat (first|exact Drawn0.refl _|apply Drawn0.step)⟩

-- LIB rowopen
/-- What reads as data of a type is of a kind; its lengths are a slice's, its numbers are of their kinds. -/
structure Opn {α : Type} (P : Program) (d : Kd α) (t : TypeId) (wf : α → Prop) : Prop where
  out : ∀ {H : Type} (enc : TypeId × Value → H) (w : World) (fuel : Nat) (cs : List Value) (x : DataW H × List MemPlace),DataW.trod enc P w 0 (fun _ => true) true fuel t cs = some x → ∃ a,d.K w a cs ∧ wf a
theorem opn_int {P : Program} {t : TypeId} {k : IntKind} (ht : P.underlying t = some (.int k)) : Opn P (Kd.int k) t (fun n => (Lit.int k n).wf = true):=by
  constructor
  intro H enc w fuel cs x h
  obtain ⟨n,rfl,_,hw⟩:=DataW.trod_int ht h
  exact ⟨n,rfl,hw⟩
theorem opn_bool {P : Program} {t : TypeId} (ht : P.underlying t = some .bool) : Opn P Kd.bool t (fun _ => True):=by
  constructor
  intro H enc w fuel cs x h
  obtain ⟨b,rfl,_⟩:=DataW.trod_bool ht h
  exact ⟨b,rfl,trivial⟩
theorem opn_slice {α : Type} {P : Program} {d : Kd α} {t e : TypeId} {wf : α → Prop} (ht : P.underlying t = some (.slice e)) (hc : P.cellsOf e = d.sz) (h : Opn P d e wf) : Opn P (Kd.slice e d) t (fun l => l.length ≤ maxLen ∧ ∀ x ∈ l,wf x):=by
  constructor
  intro H enc w fuel cs x hx
  rcases Go.Deep.open_slice ht hx with ⟨rfl,_⟩ | ⟨a,len,cap,m,n,D,Pl,rfl,_,hl,hm,hmm,_,hel⟩
  · exact ⟨[],⟨none,0,rfl,Nat.le_refl _,Kd.C_nil d w⟩,by simp,by simp⟩
  · have hlm : len ≤ m:=by rw [hmm];simp;exact hl
    have hch : ∀ i : Fin len,∃ p : α,∃ c,w.cells? 0 (a.add (i.1 * d.sz)) d.sz = some c ∧ d.K w p c ∧ wf p:=by
      intro i
      obtain ⟨c,h1,h2⟩:=hel i.1 (by omega)
      obtain ⟨p,h3,h4⟩:=h.out enc w n c _ h2
      rw [hc] at h1
      exact ⟨p,c,h1,h3,h4⟩
    obtain ⟨f,hf⟩ : ∃ f : Fin len → α,∀ i : Fin len,∃ c,w.cells? 0 (a.add (i.1 * d.sz)) d.sz = some c ∧ d.K w (f i) c ∧ wf (f i):=⟨fun i => Classical.choose (hch i),fun i => Classical.choose_spec (hch i)⟩
    have hlen : (List.ofFn f).length = len:=List.length_ofFn
    refine ⟨List.ofFn f,⟨some a,cap,by rw [hlen],by omega,hlen.symm ▸ rfl,?_,fun hn => ⟨a,rfl,?_⟩⟩,by rw [hlen];omega,?_⟩
    · rw [hlen];unfold maxLen at hm;omega
    · intro j p hj
      have hjl : j < len:=by rw [← hlen];exact (List.getElem?_eq_some_iff.1 hj).1
      obtain ⟨c,h1,h2,_⟩:=hf ⟨j,hjl⟩
      obtain ⟨_,h3,h4⟩:=World.cells?_some h1
      rw [List.getElem?_ofFn,dif_pos hjl] at hj
      injection hj with hj
      rw [← hj]
      refine ⟨c,h3,h2,fun i u hu => ?_⟩
      have hi : i < d.sz:=by rw [← h3];exact (List.getElem?_eq_some_iff.1 hu).1
      have:=h4 i hi
      rw [hu] at this
      rw [← this,Addr.add_add]
    · intro p hp
      obtain ⟨i,rfl⟩:=(List.mem_ofFn).1 hp
      obtain ⟨_,_,_,hw⟩:=hf i
      exact hw
/-- A parameter that is a slice. -/
theorem open_rowC {α : Type} {P : Program} {d : Kd α} {t e : TypeId} {wf : List α → Prop} {H : Type} {enc : TypeId × Value → H} {w : World} {a : Option Addr} {len cap : Nat} {dd : DataW H} {p : List MemPlace} (h : Opn P (Kd.slice e d) t wf) (hx : DataW.Trod enc P w 0 (fun _ => true) true t (.slice a len cap) dd p) :
    ∃ l : List α,len = l.length ∧ l.length ≤ cap ∧ d.C w a l.length l ∧ wf l:=by
  obtain ⟨fuel,hf⟩:=hx
  obtain ⟨l,⟨A,c,hcs,h1,h2⟩,h3⟩:=h.out enc w fuel _ _ hf
  simp only [Value.cells] at hcs
  have e:=List.singleton_inj.1 hcs
  cases e
  exact ⟨l,rfl,h1,h2,h3⟩
/-- A parameter that is a struct. -/
theorem open_aggK {α : Type} {P : Program} {d : Kd α} {t : TypeId} {wf : α → Prop} {H : Type} {enc : TypeId × Value → H} {w : World} {cs : Array Value} {dd : DataW H} {p : List MemPlace} (h : Opn P d t wf) (hx : DataW.Trod enc P w 0 (fun _ => true) true t (.agg cs) dd p) : ∃ x : α,d.K w x cs.toList ∧ wf x:=by
  obtain ⟨fuel,hf⟩:=hx
  exact h.out enc w fuel _ _ hf

/-! ### laws_FnExactLinkRounds: function 4 -/
def laws_FnExactLinkRounds.f (k : Nat) (a0 : Int) (l1 : List (List Int)) (l2 : List Int) (l3 : List Int) : Option (Bool):=if (l2.length : Int) > 1048576 then (some true) else (if (l3.length : Int) > 1048576 then (some true) else ((laws_szByteSS.f k l1 1048576).bind fun t675 => (if t675 < 0 then (some true) else ((laws_toByteSS.f k l1).bind fun t676 => ((laws_toIntS.f k l2).bind fun t679 => ((laws_toIntS.f k l3).bind fun t682 => ((spec_LinkRounds.f k a0 t676 t679 t682).bind fun t685 => ((laws_toByteSS.f k l1).bind fun t686 => ((laws_toIntS.f k l2).bind fun t689 => ((laws_toIntS.f k l3).bind fun t692 => ((impl_LinkRounds.f a0 t686 t689 t692).bind fun t695 => (if t695 = t685 then ((laws_toByteSS.f k l1).bind fun t696 => ((laws_eqByteSS.f k t686 t696).bind fun t699 => (if t699 = true then ((laws_toIntS.f k l2).bind fun t700 => ((laws_eqIntS.f k t689 t700).bind fun t703 => (if t703 = true then ((laws_toIntS.f k l3).bind fun t704 => ((laws_eqIntS.f k t692 t704).bind fun t707 => (if t707 = true then (some true) else (some false)))) else (some false)))) else (some false)))) else (some false)))))))))))))
theorem laws_FnExactLinkRounds.mono : ∀ a0 a1 a2 a3 k,LeO (laws_FnExactLinkRounds.f k a0 a1 a2 a3) (laws_FnExactLinkRounds.f (k + 1) a0 a1 a2 a3):=by
 intro a0 a1 a2 a3 k
 unfold laws_FnExactLinkRounds.f
 repeat' first
   | (with_reducible exact laws_eqByteSS.mono _ _ _)
   | (with_reducible exact laws_eqIntS.mono _ _ _)
   | (with_reducible exact laws_szByteSS.mono _ _ _)
   | (with_reducible exact laws_toByteSS.mono _ _)
   | (with_reducible exact laws_toIntS.mono _ _)
   | (with_reducible exact spec_LinkRounds.mono _ _ _ _ _)
   | (with_reducible exact LeO.refl _)
   | (with_reducible exact LeO.none _)
   | (with_reducible refine LeO.ite ?_ ?_)
   | (with_reducible refine LeO.bind ?_ (fun _ => ?_))
   | exact laws_eqByteSS.mono _ _ _
   | exact laws_eqIntS.mono _ _ _
   | exact laws_szByteSS.mono _ _ _
   | exact laws_toByteSS.mono _ _
   | exact laws_toIntS.mono _ _
   | exact spec_LinkRounds.mono _ _ _ _ _
   | exact LeO.none _
   | refine LeO.ite ?_ ?_
   | refine LeO.bind ?_ (fun _ => ?_)
set_option maxHeartbeats 8000000 in
set_option maxRecDepth 100000 in
theorem laws_FnExactLinkRounds.calls (k : Nat) (a0 : Int) (A1 : Option Addr) (c1 : Nat) (l1 : List (List Int)) (A2 : Option Addr) (c2 : Nat) (l2 : List Int) (A3 : Option Addr) (c3 : Nat) (l3 : List Int) (r : Bool) (w : World) (hr1 : Kd.C (Kd.slice 5 (Kd.int .u8)) w A1 l1.length l1) (hc1 : l1.length ≤ c1) (hr2 : Kd.C (Kd.int .i64) w A2 l2.length l2) (hc2 : l2.length ≤ c2) (hr3 : Kd.C (Kd.int .i64) w A3 l3.length l3) (hc3 : l3.length ≤ c3) (h : laws_FnExactLinkRounds.f k a0 l1 l2 l3 = some r) :
  Calls Try.prog 4 #[.int .i64 a0,.slice A1 l1.length c1,.slice A2 l2.length c2,.slice A3 l3.length c3] w fun e w' => e = .returned (.bool r) ∧ Below w.heap.size w w':=by
 have HR1:=mk_ hr1
 have HC1:=mk_ hc1
 clear hr1 hc1
 have HR2:=mk_ hr2
 have HC2:=mk_ hc2
 clear hr2 hc2
 have HR3:=mk_ hr3
 have HC3:=mk_ hc3
 clear hr3 hc3
 have HB:=mk_ (Below.refl w.heap.size w)
 have H : (if (l2.length : Int) > 1048576 then (some true) else (if (l3.length : Int) > 1048576 then (some true) else ((laws_szByteSS.f k l1 1048576).bind fun t675 => (if t675 < 0 then (some true) else ((laws_toByteSS.f k l1).bind fun t676 => ((laws_toIntS.f k l2).bind fun t679 => ((laws_toIntS.f k l3).bind fun t682 => ((spec_LinkRounds.f k a0 t676 t679 t682).bind fun t685 => ((laws_toByteSS.f k l1).bind fun t686 => ((laws_toIntS.f k l2).bind fun t689 => ((laws_toIntS.f k l3).bind fun t692 => ((impl_LinkRounds.f a0 t686 t689 t692).bind fun t695 => (if t695 = t685 then ((laws_toByteSS.f k l1).bind fun t696 => ((laws_eqByteSS.f k t686 t696).bind fun t699 => (if t699 = true then ((laws_toIntS.f k l2).bind fun t700 => ((laws_eqIntS.f k t689 t700).bind fun t703 => (if t703 = true then ((laws_toIntS.f k l3).bind fun t704 => ((laws_eqIntS.f k t692 t704).bind fun t707 => (if t707 = true then (some true) else (some false)))) else (some false)))) else (some false)))) else (some false)))))))))))))) = some r:=h
 clear h
 by_cases c5 : (l2.length : Int) > 1048576
 ·rw [if_pos c5] at H
  have c5b0 : decide (1048576 < (l2.length : Int)) = true:=decide_eq_true c5
  have c5b1 : decide (1048576 < l2.length) = true:=decide_eq_true (by omega)
  clear c5
  obtain rfl:=Option.some.inj H
  go_enter Try.func4,Try.ntmps4
  go_wp2
  go_ret
  exact ⟨qe_,u0_ HB⟩
 ·rw [if_neg c5] at H
  have c5b0 : decide (1048576 < (l2.length : Int)) = false:=decide_eq_false c5
  have c5b1 : decide (1048576 < l2.length) = false:=decide_eq_false (by omega)
  clear c5
  by_cases c6 : (l3.length : Int) > 1048576
  ·rw [if_pos c6] at H
   have c6b0 : decide (1048576 < (l3.length : Int)) = true:=decide_eq_true c6
   have c6b1 : decide (1048576 < l3.length) = true:=decide_eq_true (by omega)
   clear c6
   obtain rfl:=Option.some.inj H
   go_enter Try.func4,Try.ntmps4
   go_wp2
   go_ret
   exact ⟨qe_,u0_ HB⟩
  ·rw [if_neg c6] at H
   have c6b0 : decide (1048576 < (l3.length : Int)) = false:=decide_eq_false c6
   have c6b1 : decide (1048576 < l3.length) = false:=decide_eq_false (by omega)
   clear c6
   replace H:=Option.bind_eq_some_iff.mp H
   obtain ⟨t675,A70,H⟩:=H
   replace H : (if t675 < 0 then (some true) else ((laws_toByteSS.f k l1).bind fun t676 => ((laws_toIntS.f k l2).bind fun t679 => ((laws_toIntS.f k l3).bind fun t682 => ((spec_LinkRounds.f k a0 t676 t679 t682).bind fun t685 => ((laws_toByteSS.f k l1).bind fun t686 => ((laws_toIntS.f k l2).bind fun t689 => ((laws_toIntS.f k l3).bind fun t692 => ((impl_LinkRounds.f a0 t686 t689 t692).bind fun t695 => (if t695 = t685 then ((laws_toByteSS.f k l1).bind fun t696 => ((laws_eqByteSS.f k t686 t696).bind fun t699 => (if t699 = true then ((laws_toIntS.f k l2).bind fun t700 => ((laws_eqIntS.f k t689 t700).bind fun t703 => (if t703 = true then ((laws_toIntS.f k l3).bind fun t704 => ((laws_eqIntS.f k t692 t704).bind fun t707 => (if t707 = true then (some true) else (some false)))) else (some false)))) else (some false)))) else (some false))))))))))) = some r:=H
   have A7:=mk_ A70
   clear A70
   by_cases c8 : t675 < 0
   ·rw [if_pos c8] at H
    have c8b0 : decide (t675 < 0) = true:=decide_eq_true c8
    clear c8
    obtain rfl:=Option.some.inj H
    go_enter Try.func4,Try.ntmps4
    go_wp2_with (first|((with_reducible refine gate_callee (f:=12) rfl ?_);refine goesL_ (some 23) rfl rfl Try.func12 (by kernel_rfl) rfl #[.slice A1 l1.length c1,.int .i64 1048576] rfl qm_ ?_;(with_reducible refine (laws_szByteSS.calls k _ _ l1 1048576 t675 _ ?side1 ?side2 A7.out).mono ?_);(case side1 => repeat (first|exact HR1.out|(with_reducible refine ca_ ?_ _)|(with_reducible refine cn_ ?_ _)|(with_reducible refine cd_ ?_)));(case side2 => exact HC1.out);rintro e w' ⟨rfl,⟨nd,rfl⟩⟩;refine ⟨_,rfl,?_⟩))
    go_ret
    exact ⟨qe_,u0_ HB⟩
   ·rw [if_neg c8] at H
    have c8b0 : decide (t675 < 0) = false:=decide_eq_false c8
    clear c8
    replace H:=Option.bind_eq_some_iff.mp H
    obtain ⟨t676,A90,H⟩:=H
    replace H : ((laws_toIntS.f k l2).bind fun t679 => ((laws_toIntS.f k l3).bind fun t682 => ((spec_LinkRounds.f k a0 t676 t679 t682).bind fun t685 => ((laws_toByteSS.f k l1).bind fun t686 => ((laws_toIntS.f k l2).bind fun t689 => ((laws_toIntS.f k l3).bind fun t692 => ((impl_LinkRounds.f a0 t686 t689 t692).bind fun t695 => (if t695 = t685 then ((laws_toByteSS.f k l1).bind fun t696 => ((laws_eqByteSS.f k t686 t696).bind fun t699 => (if t699 = true then ((laws_toIntS.f k l2).bind fun t700 => ((laws_eqIntS.f k t689 t700).bind fun t703 => (if t703 = true then ((laws_toIntS.f k l3).bind fun t704 => ((laws_eqIntS.f k t692 t704).bind fun t707 => (if t707 = true then (some true) else (some false)))) else (some false)))) else (some false)))) else (some false))))))))) = some r:=H
    have A9:=mk_ A90
    clear A90
    replace H:=Option.bind_eq_some_iff.mp H
    obtain ⟨t679,A100,H⟩:=H
    replace H : ((laws_toIntS.f k l3).bind fun t682 => ((spec_LinkRounds.f k a0 t676 t679 t682).bind fun t685 => ((laws_toByteSS.f k l1).bind fun t686 => ((laws_toIntS.f k l2).bind fun t689 => ((laws_toIntS.f k l3).bind fun t692 => ((impl_LinkRounds.f a0 t686 t689 t692).bind fun t695 => (if t695 = t685 then ((laws_toByteSS.f k l1).bind fun t696 => ((laws_eqByteSS.f k t686 t696).bind fun t699 => (if t699 = true then ((laws_toIntS.f k l2).bind fun t700 => ((laws_eqIntS.f k t689 t700).bind fun t703 => (if t703 = true then ((laws_toIntS.f k l3).bind fun t704 => ((laws_eqIntS.f k t692 t704).bind fun t707 => (if t707 = true then (some true) else (some false)))) else (some false)))) else (some false)))) else (some false)))))))) = some r:=H
    have A10:=mk_ A100
    clear A100
    replace H:=Option.bind_eq_some_iff.mp H
    obtain ⟨t682,A110,H⟩:=H
    replace H : ((spec_LinkRounds.f k a0 t676 t679 t682).bind fun t685 => ((laws_toByteSS.f k l1).bind fun t686 => ((laws_toIntS.f k l2).bind fun t689 => ((laws_toIntS.f k l3).bind fun t692 => ((impl_LinkRounds.f a0 t686 t689 t692).bind fun t695 => (if t695 = t685 then ((laws_toByteSS.f k l1).bind fun t696 => ((laws_eqByteSS.f k t686 t696).bind fun t699 => (if t699 = true then ((laws_toIntS.f k l2).bind fun t700 => ((laws_eqIntS.f k t689 t700).bind fun t703 => (if t703 = true then ((laws_toIntS.f k l3).bind fun t704 => ((laws_eqIntS.f k t692 t704).bind fun t707 => (if t707 = true then (some true) else (some false)))) else (some false)))) else (some false)))) else (some false))))))) = some r:=H
    have A11:=mk_ A110
    clear A110
    replace H:=Option.bind_eq_some_iff.mp H
    obtain ⟨t685,A120,H⟩:=H
    replace H : ((laws_toByteSS.f k l1).bind fun t686 => ((laws_toIntS.f k l2).bind fun t689 => ((laws_toIntS.f k l3).bind fun t692 => ((impl_LinkRounds.f a0 t686 t689 t692).bind fun t695 => (if t695 = t685 then ((laws_toByteSS.f k l1).bind fun t696 => ((laws_eqByteSS.f k t686 t696).bind fun t699 => (if t699 = true then ((laws_toIntS.f k l2).bind fun t700 => ((laws_eqIntS.f k t689 t700).bind fun t703 => (if t703 = true then ((laws_toIntS.f k l3).bind fun t704 => ((laws_eqIntS.f k t692 t704).bind fun t707 => (if t707 = true then (some true) else (some false)))) else (some false)))) else (some false)))) else (some false)))))) = some r:=H
    have A12:=mk_ A120
    clear A120
    replace H:=Option.bind_eq_some_iff.mp H
    obtain ⟨t686,A130,H⟩:=H
    replace H : ((laws_toIntS.f k l2).bind fun t689 => ((laws_toIntS.f k l3).bind fun t692 => ((impl_LinkRounds.f a0 t686 t689 t692).bind fun t695 => (if t695 = t685 then ((laws_toByteSS.f k l1).bind fun t696 => ((laws_eqByteSS.f k t686 t696).bind fun t699 => (if t699 = true then ((laws_toIntS.f k l2).bind fun t700 => ((laws_eqIntS.f k t689 t700).bind fun t703 => (if t703 = true then ((laws_toIntS.f k l3).bind fun t704 => ((laws_eqIntS.f k t692 t704).bind fun t707 => (if t707 = true then (some true) else (some false)))) else (some false)))) else (some false)))) else (some false))))) = some r:=H
    have A13:=mk_ A130
    clear A130
    replace H:=Option.bind_eq_some_iff.mp H
    obtain ⟨t689,A140,H⟩:=H
    replace H : ((laws_toIntS.f k l3).bind fun t692 => ((impl_LinkRounds.f a0 t686 t689 t692).bind fun t695 => (if t695 = t685 then ((laws_toByteSS.f k l1).bind fun t696 => ((laws_eqByteSS.f k t686 t696).bind fun t699 => (if t699 = true then ((laws_toIntS.f k l2).bind fun t700 => ((laws_eqIntS.f k t689 t700).bind fun t703 => (if t703 = true then ((laws_toIntS.f k l3).bind fun t704 => ((laws_eqIntS.f k t692 t704).bind fun t707 => (if t707 = true then (some true) else (some false)))) else (some false)))) else (some false)))) else (some false)))) = some r:=H
    have A14:=mk_ A140
    clear A140
    replace H:=Option.bind_eq_some_iff.mp H
    obtain ⟨t692,A150,H⟩:=H
    replace H : ((impl_LinkRounds.f a0 t686 t689 t692).bind fun t695 => (if t695 = t685 then ((laws_toByteSS.f k l1).bind fun t696 => ((laws_eqByteSS.f k t686 t696).bind fun t699 => (if t699 = true then ((laws_toIntS.f k l2).bind fun t700 => ((laws_eqIntS.f k t689 t700).bind fun t703 => (if t703 = true then ((laws_toIntS.f k l3).bind fun t704 => ((laws_eqIntS.f k t692 t704).bind fun t707 => (if t707 = true then (some true) else (some false)))) else (some false)))) else (some false)))) else (some false))) = some r:=H
    have A15:=mk_ A150
    clear A150
    replace H:=Option.bind_eq_some_iff.mp H
    obtain ⟨t695,A160,H⟩:=H
    replace H : (if t695 = t685 then ((laws_toByteSS.f k l1).bind fun t696 => ((laws_eqByteSS.f k t686 t696).bind fun t699 => (if t699 = true then ((laws_toIntS.f k l2).bind fun t700 => ((laws_eqIntS.f k t689 t700).bind fun t703 => (if t703 = true then ((laws_toIntS.f k l3).bind fun t704 => ((laws_eqIntS.f k t692 t704).bind fun t707 => (if t707 = true then (some true) else (some false)))) else (some false)))) else (some false)))) else (some false)) = some r:=H
    have A16:=mk_ A160
    clear A160
    by_cases c17 : t695 = t685
    ·rw [if_pos c17] at H
     have c17b0 : (t695 == t685) = true:=beq_iff_eq.mpr c17
     have c17b1 : (t695 != t685) = false:=bne_eq_false_iff_eq.mpr c17
     clear c17
     replace H:=Option.bind_eq_some_iff.mp H
     obtain ⟨t696,A180,H⟩:=H
     replace H : ((laws_eqByteSS.f k t686 t696).bind fun t699 => (if t699 = true then ((laws_toIntS.f k l2).bind fun t700 => ((laws_eqIntS.f k t689 t700).bind fun t703 => (if t703 = true then ((laws_toIntS.f k l3).bind fun t704 => ((laws_eqIntS.f k t692 t704).bind fun t707 => (if t707 = true then (some true) else (some false)))) else (some false)))) else (some false))) = some r:=H
     have A18:=mk_ A180
     clear A180
     replace H:=Option.bind_eq_some_iff.mp H
     obtain ⟨t699,A190,H⟩:=H
     replace H : (if t699 = true then ((laws_toIntS.f k l2).bind fun t700 => ((laws_eqIntS.f k t689 t700).bind fun t703 => (if t703 = true then ((laws_toIntS.f k l3).bind fun t704 => ((laws_eqIntS.f k t692 t704).bind fun t707 => (if t707 = true then (some true) else (some false)))) else (some false)))) else (some false)) = some r:=H
     have A19:=mk_ A190
     clear A190
     by_cases c20 : t699 = true
     ·subst c20
      have H1 : ((laws_toIntS.f k l2).bind fun t700 => ((laws_eqIntS.f k t689 t700).bind fun t703 => (if t703 = true then ((laws_toIntS.f k l3).bind fun t704 => ((laws_eqIntS.f k t692 t704).bind fun t707 => (if t707 = true then (some true) else (some false)))) else (some false)))) = some r:=by rw [if_pos rfl] at H;exact H
      clear H
      have H:=H1
      clear H1
      replace H:=Option.bind_eq_some_iff.mp H
      obtain ⟨t700,A210,H⟩:=H
      replace H : ((laws_eqIntS.f k t689 t700).bind fun t703 => (if t703 = true then ((laws_toIntS.f k l3).bind fun t704 => ((laws_eqIntS.f k t692 t704).bind fun t707 => (if t707 = true then (some true) else (some false)))) else (some false))) = some r:=H
      have A21:=mk_ A210
      clear A210
      replace H:=Option.bind_eq_some_iff.mp H
      obtain ⟨t703,A220,H⟩:=H
      replace H : (if t703 = true then ((laws_toIntS.f k l3).bind fun t704 => ((laws_eqIntS.f k t692 t704).bind fun t707 => (if t707 = true then (some true) else (some false)))) else (some false)) = some r:=H
      have A22:=mk_ A220
      clear A220
      by_cases c23 : t703 = true
      ·subst c23
       have H1 : ((laws_toIntS.f k l3).bind fun t704 => ((laws_eqIntS.f k t692 t704).bind fun t707 => (if t707 = true then (some true) else (some false)))) = some r:=by rw [if_pos rfl] at H;exact H
       clear H
       have H:=H1
       clear H1
       replace H:=Option.bind_eq_some_iff.mp H
       obtain ⟨t704,A240,H⟩:=H
       replace H : ((laws_eqIntS.f k t692 t704).bind fun t707 => (if t707 = true then (some true) else (some false))) = some r:=H
       have A24:=mk_ A240
       clear A240
       replace H:=Option.bind_eq_some_iff.mp H
       obtain ⟨t707,A250,H⟩:=H
       replace H : (if t707 = true then (some true) else (some false)) = some r:=H
       have A25:=mk_ A250
       clear A250
       by_cases c26 : t707 = true
       ·subst c26
        have H1 : (some true) = some r:=by rw [if_pos rfl] at H;exact H
        clear H
        have H:=H1
        clear H1
        obtain rfl:=Option.some.inj H
        go_enter Try.func4,Try.ntmps4
        go_wp2_with (first|((with_reducible refine gate_callee (f:=12) rfl ?_);refine goesL_ (some 23) rfl rfl Try.func12 (by kernel_rfl) rfl #[.slice A1 l1.length c1,.int .i64 1048576] rfl qm_ ?_;(with_reducible refine (laws_szByteSS.calls k _ _ l1 1048576 t675 _ ?side1 ?side2 A7.out).mono ?_);(case side1 => repeat (first|exact HR1.out|(with_reducible refine ca_ ?_ _)|(with_reducible refine cn_ ?_ _)|(with_reducible refine cd_ ?_)));(case side2 => exact HC1.out);rintro e w' ⟨rfl,⟨nd,rfl⟩⟩;refine ⟨_,rfl,?_⟩)|((with_reducible refine gate_callee (f:=14) rfl ?_);refine goesL_ (some 28) rfl rfl Try.func14 (by kernel_rfl) rfl #[.slice A1 l1.length c1] rfl qm_ ?_;(with_reducible refine (laws_toByteSS.calls k _ _ l1 t676 _ ?side1 ?side2 A9.out).mono ?_);(case side1 => repeat (first|exact HR1.out|(with_reducible refine ca_ ?_ _)|(with_reducible refine cn_ ?_ _)|(with_reducible refine cd_ ?_)));(case side2 => exact HC1.out);rintro e w27 ⟨v677,rfl,ho0,hb⟩;refine ⟨_,rfl,?_⟩;have n0_:=mk_ (Kd.S_lower ho0 (bz_ (qb_ HB)));have n1_:=mk_ (st_ (qb_ HB) hb);clear HB;have HO678:=n0_;have HB:=n1_;clear n0_ n1_;(try clear hb);(try clear hb2);(try clear hk);(try clear hi);(try clear ho0))|((with_reducible refine gate_callee (f:=15) rfl ?_);refine goesL_ (some 30) rfl rfl Try.func15 (by kernel_rfl) rfl #[.slice A2 l2.length c2] rfl qm_ ?_;(with_reducible refine (laws_toIntS.calls k _ _ l2 t679 _ ?side1 ?side2 A10.out).mono ?_);(case side1 => exact qn_ HR2 HB);(case side2 => exact HC2.out);rintro e w28 ⟨v680,rfl,ho0,hb⟩;refine ⟨_,rfl,?_⟩;have n0_:=mk_ (Kd.S_below (by (with_reducible repeat (first|apply Kd.S_alloc|apply Kd.S_drewN|apply Kd.S_drew));exact HO678.out) hb);have n1_:=mk_ (Kd.R_lower ho0 (bz_ (qb_ HB)));have n2_:=mk_ (st_ (qb_ HB) hb);clear HO678 HB;have HO678:=n0_;have HO681:=n1_;have HB:=n2_;clear n0_ n1_ n2_;(try clear hb);(try clear hb2);(try clear hk);(try clear hi);(try clear ho0))|((with_reducible refine gate_callee (f:=15) rfl ?_);refine goesL_ (some 32) rfl rfl Try.func15 (by kernel_rfl) rfl #[.slice A3 l3.length c3] rfl qm_ ?_;(with_reducible refine (laws_toIntS.calls k _ _ l3 t682 _ ?side1 ?side2 A11.out).mono ?_);(case side1 => exact qn_ HR3 HB);(case side2 => exact HC3.out);rintro e w29 ⟨v683,rfl,ho0,hb⟩;refine ⟨_,rfl,?_⟩;have n0_:=mk_ (Kd.S_below (by (with_reducible repeat (first|apply Kd.S_alloc|apply Kd.S_drewN|apply Kd.S_drew));exact HO678.out) hb);have n1_:=mk_ (re_ (qr_ HO681) (Kd.R_base ho0) hb);have n2_:=mk_ (Kd.R_lower (Kd.R_new' ho0 (Kd.R_lt (qr_ HO681))) (bz_ (qb_ HB)));have n3_:=mk_ (st_ (qb_ HB) hb);clear HO678 HO681 HB;have HO678:=n0_;have HO681:=n1_;have HO684:=n2_;have HB:=n3_;clear n0_ n1_ n2_ n3_;(try clear hb);(try clear hb2);(try clear hk);(try clear hi);(try clear ho0);obtain ⟨Ao30,co30,eo30⟩:=Kd.S_slice HO678.out;subst eo30;obtain ⟨Ao31,co31,eo31⟩:=Kd.R_slice HO681.out;subst eo31;obtain ⟨Ao32,co32,eo32⟩:=Kd.R_slice HO684.out;subst eo32)|((with_reducible refine gate_callee (f:=13) rfl ?_);refine goesL_ (some 33) rfl rfl Try.func13 (by kernel_rfl) rfl #[.int .i64 a0,.slice Ao30 t676.length co30,.slice Ao31 t679.length co31,.slice Ao32 t682.length co32] rfl qm_ ?_;(with_reducible refine (spec_LinkRounds.calls k a0 _ _ t676 _ _ t679 _ _ t682 t685 _ ?side1 ?side2 ?side3 ?side4 ?side5 ?side6 A12.out).mono ?_);(case side1 => repeat (first|exact (Kd.S_reads' HO678.out).2.2|(with_reducible refine ca_ ?_ _)|(with_reducible refine cn_ ?_ _)|(with_reducible refine cd_ ?_)));(case side2 => exact (Kd.S_reads' HO678.out).2.1);(case side3 => repeat (first|exact (rr_ HO681.out).2.2|(with_reducible refine ca_ ?_ _)|(with_reducible refine cn_ ?_ _)|(with_reducible refine cd_ ?_)));(case side4 => exact (rr_ HO681.out).2.1);(case side5 => repeat (first|exact (rr_ HO684.out).2.2|(with_reducible refine ca_ ?_ _)|(with_reducible refine cn_ ?_ _)|(with_reducible refine cd_ ?_)));(case side6 => exact (rr_ HO684.out).2.1);rintro e w33 ⟨rfl,hb⟩;refine ⟨_,rfl,?_⟩;have n0_:=mk_ (Kd.S_below (by (with_reducible repeat (first|apply Kd.S_alloc|apply Kd.S_drewN|apply Kd.S_drew));exact HO678.out) hb);have n1_:=mk_ (rb_ (qr_ HO681) hb);have n2_:=mk_ (rb_ (qr_ HO684) hb);have n3_:=mk_ (st_ (qb_ HB) hb);clear HO678 HO681 HO684 HB;have HO678:=n0_;have HO681:=n1_;have HO684:=n2_;have HB:=n3_;clear n0_ n1_ n2_ n3_;(try clear hb);(try clear hb2);(try clear hk);(try clear hi))|((with_reducible refine gate_callee (f:=14) rfl ?_);refine goesL_ (some 35) rfl rfl Try.func14 (by kernel_rfl) rfl #[.slice A1 l1.length c1] rfl qm_ ?_;(with_reducible refine (laws_toByteSS.calls k _ _ l1 t686 _ ?side1 ?side2 A13.out).mono ?_);(case side1 => exact qn_ HR1 HB);(case side2 => exact HC1.out);rintro e w34 ⟨v687,rfl,ho0,hb⟩;refine ⟨_,rfl,?_⟩;have n0_:=mk_ (Kd.S_elder' (by (with_reducible repeat (first|apply Kd.S_alloc|apply Kd.S_drewN|apply Kd.S_drew));exact HO678.out) (Kd.S_base ho0) hb);have n1_:=mk_ (rb_ (qr_ HO681) hb);have n2_:=mk_ (rb_ (qr_ HO684) hb);have n3_:=mk_ (Kd.S_lower (Kd.S_new' ho0 (Kd.S_lt (by (with_reducible repeat (first|apply Kd.S_alloc|apply Kd.S_drewN|apply Kd.S_drew));exact HO678.out))) (bz_ (qb_ HB)));have n4_:=mk_ (st_ (qb_ HB) hb);clear HO678 HO681 HO684 HB;have HO678:=n0_;have HO681:=n1_;have HO684:=n2_;have HO688:=n3_;have HB:=n4_;clear n0_ n1_ n2_ n3_ n4_;(try clear hb);(try clear hb2);(try clear hk);(try clear hi);(try clear ho0))|((with_reducible refine gate_callee (f:=15) rfl ?_);refine goesL_ (some 37) rfl rfl Try.func15 (by kernel_rfl) rfl #[.slice A2 l2.length c2] rfl qm_ ?_;(with_reducible refine (laws_toIntS.calls k _ _ l2 t689 _ ?side1 ?side2 A14.out).mono ?_);(case side1 => exact qn_ HR2 HB);(case side2 => exact HC2.out);rintro e w35 ⟨v690,rfl,ho0,hb⟩;refine ⟨_,rfl,?_⟩;have n0_:=mk_ (Kd.S_below (by (with_reducible repeat (first|apply Kd.S_alloc|apply Kd.S_drewN|apply Kd.S_drew));exact HO678.out) hb);have n1_:=mk_ (re_ (qr_ HO681) (Kd.R_base ho0) hb);have n2_:=mk_ (re_ (qr_ HO684) (Kd.R_base ho0) hb);have n3_:=mk_ (Kd.S_below (by (with_reducible repeat (first|apply Kd.S_alloc|apply Kd.S_drewN|apply Kd.S_drew));exact HO688.out) hb);have n4_:=mk_ (Kd.R_lower (Kd.R_new' (Kd.R_new' ho0 (Kd.R_lt (qr_ HO681))) (Kd.R_lt (qr_ HO684))) (bz_ (qb_ HB)));have n5_:=mk_ (st_ (qb_ HB) hb);clear HO678 HO681 HO684 HO688 HB;have HO678:=n0_;have HO681:=n1_;have HO684:=n2_;have HO688:=n3_;have HO691:=n4_;have HB:=n5_;clear n0_ n1_ n2_ n3_ n4_ n5_;(try clear hb);(try clear hb2);(try clear hk);(try clear hi);(try clear ho0))|((with_reducible refine gate_callee (f:=15) rfl ?_);refine goesL_ (some 39) rfl rfl Try.func15 (by kernel_rfl) rfl #[.slice A3 l3.length c3] rfl qm_ ?_;(with_reducible refine (laws_toIntS.calls k _ _ l3 t692 _ ?side1 ?side2 A15.out).mono ?_);(case side1 => exact qn_ HR3 HB);(case side2 => exact HC3.out);rintro e w36 ⟨v693,rfl,ho0,hb⟩;refine ⟨_,rfl,?_⟩;have n0_:=mk_ (Kd.S_below (by (with_reducible repeat (first|apply Kd.S_alloc|apply Kd.S_drewN|apply Kd.S_drew));exact HO678.out) hb);have n1_:=mk_ (re_ (qr_ HO681) (Kd.R_base ho0) hb);have n2_:=mk_ (re_ (qr_ HO684) (Kd.R_base ho0) hb);have n3_:=mk_ (Kd.S_below (by (with_reducible repeat (first|apply Kd.S_alloc|apply Kd.S_drewN|apply Kd.S_drew));exact HO688.out) hb);have n4_:=mk_ (re_ (qr_ HO691) (Kd.R_base ho0) hb);have n5_:=mk_ (Kd.R_lower (Kd.R_new' (Kd.R_new' (Kd.R_new' ho0 (Kd.R_lt (qr_ HO681))) (Kd.R_lt (qr_ HO684))) (Kd.R_lt (qr_ HO691))) (bz_ (qb_ HB)));have n6_:=mk_ (st_ (qb_ HB) hb);clear HO678 HO681 HO684 HO688 HO691 HB;have HO678:=n0_;have HO681:=n1_;have HO684:=n2_;have HO688:=n3_;have HO691:=n4_;have HO694:=n5_;have HB:=n6_;clear n0_ n1_ n2_ n3_ n4_ n5_ n6_;(try clear hb);(try clear hb2);(try clear hk);(try clear hi);(try clear ho0);obtain ⟨Ao37,co37,eo37⟩:=Kd.S_slice HO688.out;subst eo37;obtain ⟨Ao38,co38,eo38⟩:=Kd.R_slice HO691.out;subst eo38;obtain ⟨Ao39,co39,eo39⟩:=Kd.R_slice HO694.out;subst eo39)|((with_reducible refine gate_callee (f:=16) rfl ?_);refine goesL_ (some 44) rfl rfl Try.func16 (by kernel_rfl) rfl #[.int .i64 a0,.slice Ao37 t686.length co37,.slice Ao38 t689.length co38,.slice Ao39 t692.length co39] rfl qm_ ?_;(with_reducible refine (impl_LinkRounds.calls a0 _ _ t686 _ _ t689 _ _ t692 t695 _ ?side1 ?side2 ?side3 ?side4 ?side5 ?side6 A16.out).mono ?_);(case side1 => repeat (first|exact (Kd.S_reads' HO688.out).2.2|(with_reducible refine ca_ ?_ _)|(with_reducible refine cn_ ?_ _)|(with_reducible refine cd_ ?_)));(case side2 => exact (Kd.S_reads' HO688.out).2.1);(case side3 => repeat (first|exact (rr_ HO691.out).2.2|(with_reducible refine ca_ ?_ _)|(with_reducible refine cn_ ?_ _)|(with_reducible refine cd_ ?_)));(case side4 => exact (rr_ HO691.out).2.1);(case side5 => repeat (first|exact (rr_ HO694.out).2.2|(with_reducible refine ca_ ?_ _)|(with_reducible refine cn_ ?_ _)|(with_reducible refine cd_ ?_)));(case side6 => exact (rr_ HO694.out).2.1);rintro e w40 ⟨rfl,hb⟩;refine ⟨_,rfl,?_⟩;have n0_:=mk_ (Kd.S_below (by (with_reducible repeat (first|apply Kd.S_alloc|apply Kd.S_drewN|apply Kd.S_drew));exact HO678.out) hb);have n1_:=mk_ (rb_ (qr_ HO681) hb);have n2_:=mk_ (rb_ (qr_ HO684) hb);have n3_:=mk_ (Kd.S_below (by (with_reducible repeat (first|apply Kd.S_alloc|apply Kd.S_drewN|apply Kd.S_drew));exact HO688.out) hb);have n4_:=mk_ (rb_ (qr_ HO691) hb);have n5_:=mk_ (rb_ (qr_ HO694) hb);have n6_:=mk_ (st_ (qb_ HB) hb);clear HO678 HO681 HO684 HO688 HO691 HO694 HB;have HO678:=n0_;have HO681:=n1_;have HO684:=n2_;have HO688:=n3_;have HO691:=n4_;have HO694:=n5_;have HB:=n6_;clear n0_ n1_ n2_ n3_ n4_ n5_ n6_;(try clear hb);(try clear hb2);(try clear hk);(try clear hi))|((with_reducible refine gate_callee (f:=14) rfl ?_);refine goesL_ (some 50) rfl rfl Try.func14 (by kernel_rfl) rfl #[.slice A1 l1.length c1] rfl qm_ ?_;(with_reducible refine (laws_toByteSS.calls k _ _ l1 t696 _ ?side1 ?side2 A18.out).mono ?_);(case side1 => exact qn_ HR1 HB);(case side2 => exact HC1.out);rintro e w41 ⟨v697,rfl,ho0,hb⟩;refine ⟨_,rfl,?_⟩;have n0_:=mk_ (Kd.S_elder' (by (with_reducible repeat (first|apply Kd.S_alloc|apply Kd.S_drewN|apply Kd.S_drew));exact HO678.out) (Kd.S_base ho0) hb);have n1_:=mk_ (rb_ (qr_ HO681) hb);have n2_:=mk_ (rb_ (qr_ HO684) hb);have n3_:=mk_ (Kd.S_elder' (by (with_reducible repeat (first|apply Kd.S_alloc|apply Kd.S_drewN|apply Kd.S_drew));exact HO688.out) (Kd.S_base ho0) hb);have n4_:=mk_ (rb_ (qr_ HO691) hb);have n5_:=mk_ (rb_ (qr_ HO694) hb);have n6_:=mk_ (Kd.S_lower (Kd.S_new' (Kd.S_new' ho0 (Kd.S_lt (by (with_reducible repeat (first|apply Kd.S_alloc|apply Kd.S_drewN|apply Kd.S_drew));exact HO678.out))) (Kd.S_lt (by (with_reducible repeat (first|apply Kd.S_alloc|apply Kd.S_drewN|apply Kd.S_drew));exact HO688.out))) (bz_ (qb_ HB)));have n7_:=mk_ (st_ (qb_ HB) hb);clear HO678 HO681 HO684 HO688 HO691 HO694 HB;have HO678:=n0_;have HO681:=n1_;have HO684:=n2_;have HO688:=n3_;have HO691:=n4_;have HO694:=n5_;have HO698:=n6_;have HB:=n7_;clear n0_ n1_ n2_ n3_ n4_ n5_ n6_ n7_;(try clear hb);(try clear hb2);(try clear hk);(try clear hi);(try clear ho0);obtain ⟨Ao42,co42,eo42⟩:=Kd.S_slice HO698.out;subst eo42)|((with_reducible refine gate_callee (f:=17) rfl ?_);refine goesL_ (some 51) rfl rfl Try.func17 (by kernel_rfl) rfl #[.slice Ao37 t686.length co37,.slice Ao42 t696.length co42] rfl qm_ ?_;(with_reducible refine (laws_eqByteSS.calls k _ _ t686 _ _ t696 true _ ?side1 ?side2 ?side3 ?side4 A19.out).mono ?_);(case side1 => repeat (first|exact (Kd.S_reads' HO688.out).2.2|(with_reducible refine ca_ ?_ _)|(with_reducible refine cn_ ?_ _)|(with_reducible refine cd_ ?_)));(case side2 => exact (Kd.S_reads' HO688.out).2.1);(case side3 => repeat (first|exact (Kd.S_reads' HO698.out).2.2|(with_reducible refine ca_ ?_ _)|(with_reducible refine cn_ ?_ _)|(with_reducible refine cd_ ?_)));(case side4 => exact (Kd.S_reads' HO698.out).2.1);rintro e w' ⟨rfl,⟨nd,rfl⟩⟩;refine ⟨_,rfl,?_⟩)|((with_reducible refine gate_callee (f:=15) rfl ?_);refine goesL_ (some 55) rfl rfl Try.func15 (by kernel_rfl) rfl #[.slice A2 l2.length c2] rfl qm_ ?_;(with_reducible refine (laws_toIntS.calls k _ _ l2 t700 _ ?side1 ?side2 A21.out).mono ?_);(case side1 => repeat (first|exact (cb_ HR2.out (qb_ HB))|(with_reducible refine ca_ ?_ _)|(with_reducible refine cn_ ?_ _)|(with_reducible refine cd_ ?_)));(case side2 => exact HC2.out);rintro e w43 ⟨v701,rfl,ho0,hb⟩;refine ⟨_,rfl,?_⟩;have n0_:=mk_ (Kd.S_below (by (with_reducible repeat (first|apply Kd.S_alloc|apply Kd.S_drewN|apply Kd.S_drew));exact HO678.out) hb);have n1_:=mk_ (re_ (qr_ HO681) (Kd.R_base ho0) hb);have n2_:=mk_ (re_ (qr_ HO684) (Kd.R_base ho0) hb);have n3_:=mk_ (Kd.S_below (by (with_reducible repeat (first|apply Kd.S_alloc|apply Kd.S_drewN|apply Kd.S_drew));exact HO688.out) hb);have n4_:=mk_ (re_ (qr_ HO691) (Kd.R_base ho0) hb);have n5_:=mk_ (re_ (qr_ HO694) (Kd.R_base ho0) hb);have n6_:=mk_ (Kd.S_below (by (with_reducible repeat (first|apply Kd.S_alloc|apply Kd.S_drewN|apply Kd.S_drew));exact HO698.out) hb);have n7_:=mk_ (Kd.R_lower (Kd.R_new' (Kd.R_new' (Kd.R_new' (Kd.R_new' ho0 (Kd.R_lt (qr_ HO681))) (Kd.R_lt (qr_ HO684))) (Kd.R_lt (qr_ HO691))) (Kd.R_lt (qr_ HO694))) (bz_ (qb_ HB)));have n8_:=mk_ (st_ (qb_ HB) hb);clear HO678 HO681 HO684 HO688 HO691 HO694 HO698 HB;have HO678:=n0_;have HO681:=n1_;have HO684:=n2_;have HO688:=n3_;have HO691:=n4_;have HO694:=n5_;have HO698:=n6_;have HO702:=n7_;have HB:=n8_;clear n0_ n1_ n2_ n3_ n4_ n5_ n6_ n7_ n8_;(try clear hb);(try clear hb2);(try clear hk);(try clear hi);(try clear ho0);obtain ⟨Ao44,co44,eo44⟩:=Kd.R_slice HO702.out;subst eo44)|((with_reducible refine gate_callee (f:=18) rfl ?_);refine goesL_ (some 56) rfl rfl Try.func18 (by kernel_rfl) rfl #[.slice Ao38 t689.length co38,.slice Ao44 t700.length co44] rfl qm_ ?_;(with_reducible refine (laws_eqIntS.calls k _ _ t689 _ _ t700 true _ ?side1 ?side2 ?side3 ?side4 A22.out).mono ?_);(case side1 => repeat (first|exact (rr_ HO691.out).2.2|(with_reducible refine ca_ ?_ _)|(with_reducible refine cn_ ?_ _)|(with_reducible refine cd_ ?_)));(case side2 => exact (rr_ HO691.out).2.1);(case side3 => repeat (first|exact (rr_ HO702.out).2.2|(with_reducible refine ca_ ?_ _)|(with_reducible refine cn_ ?_ _)|(with_reducible refine cd_ ?_)));(case side4 => exact (rr_ HO702.out).2.1);rintro e w' ⟨rfl,⟨nd,rfl⟩⟩;refine ⟨_,rfl,?_⟩)|((with_reducible refine gate_callee (f:=15) rfl ?_);refine goesL_ (some 60) rfl rfl Try.func15 (by kernel_rfl) rfl #[.slice A3 l3.length c3] rfl qm_ ?_;(with_reducible refine (laws_toIntS.calls k _ _ l3 t704 _ ?side1 ?side2 A24.out).mono ?_);(case side1 => repeat (first|exact (cb_ HR3.out (qb_ HB))|(with_reducible refine ca_ ?_ _)|(with_reducible refine cn_ ?_ _)|(with_reducible refine cd_ ?_)));(case side2 => exact HC3.out);rintro e w45 ⟨v705,rfl,ho0,hb⟩;refine ⟨_,rfl,?_⟩;have n0_:=mk_ (Kd.S_below (by (with_reducible repeat (first|apply Kd.S_alloc|apply Kd.S_drewN|apply Kd.S_drew));exact HO678.out) hb);have n1_:=mk_ (re_ (qr_ HO681) (Kd.R_base ho0) hb);have n2_:=mk_ (re_ (qr_ HO684) (Kd.R_base ho0) hb);have n3_:=mk_ (Kd.S_below (by (with_reducible repeat (first|apply Kd.S_alloc|apply Kd.S_drewN|apply Kd.S_drew));exact HO688.out) hb);have n4_:=mk_ (re_ (qr_ HO691) (Kd.R_base ho0) hb);have n5_:=mk_ (re_ (qr_ HO694) (Kd.R_base ho0) hb);have n6_:=mk_ (Kd.S_below (by (with_reducible repeat (first|apply Kd.S_alloc|apply Kd.S_drewN|apply Kd.S_drew));exact HO698.out) hb);have n7_:=mk_ (re_ (qr_ HO702) (Kd.R_base ho0) hb);have n8_:=mk_ (Kd.R_lower (Kd.R_new' (Kd.R_new' (Kd.R_new' (Kd.R_new' (Kd.R_new' ho0 (Kd.R_lt (qr_ HO681))) (Kd.R_lt (qr_ HO684))) (Kd.R_lt (qr_ HO691))) (Kd.R_lt (qr_ HO694))) (Kd.R_lt (qr_ HO702))) (bz_ (qb_ HB)));have n9_:=mk_ (st_ (qb_ HB) hb);clear HO678 HO681 HO684 HO688 HO691 HO694 HO698 HO702 HB;have HO678:=n0_;have HO681:=n1_;have HO684:=n2_;have HO688:=n3_;have HO691:=n4_;have HO694:=n5_;have HO698:=n6_;have HO702:=n7_;have HO706:=n8_;have HB:=n9_;clear n0_ n1_ n2_ n3_ n4_ n5_ n6_ n7_ n8_ n9_;(try clear hb);(try clear hb2);(try clear hk);(try clear hi);(try clear ho0);obtain ⟨Ao46,co46,eo46⟩:=Kd.R_slice HO706.out;subst eo46)|((with_reducible refine gate_callee (f:=18) rfl ?_);refine goesL_ (some 61) rfl rfl Try.func18 (by kernel_rfl) rfl #[.slice Ao39 t692.length co39,.slice Ao46 t704.length co46] rfl qm_ ?_;(with_reducible refine (laws_eqIntS.calls k _ _ t692 _ _ t704 true _ ?side1 ?side2 ?side3 ?side4 A25.out).mono ?_);(case side1 => repeat (first|exact (rr_ HO694.out).2.2|(with_reducible refine ca_ ?_ _)|(with_reducible refine cn_ ?_ _)|(with_reducible refine cd_ ?_)));(case side2 => exact (rr_ HO694.out).2.1);(case side3 => repeat (first|exact (rr_ HO706.out).2.2|(with_reducible refine ca_ ?_ _)|(with_reducible refine cn_ ?_ _)|(with_reducible refine cd_ ?_)));(case side4 => exact (rr_ HO706.out).2.1);rintro e w' ⟨rfl,⟨nd,rfl⟩⟩;refine ⟨_,rfl,?_⟩))
        go_ret
        exact ⟨qe_,u0_ HB⟩
       ·replace c26:=Bool.eq_false_iff.mpr c26
        subst c26
        have H1 : (some false) = some r:=by rw [if_neg (show ¬ (false = true) by decide)] at H;exact H
        clear H
        have H:=H1
        clear H1
        obtain rfl:=Option.some.inj H
        go_enter Try.func4,Try.ntmps4
        go_wp2_with (first|((with_reducible refine gate_callee (f:=12) rfl ?_);refine goesL_ (some 23) rfl rfl Try.func12 (by kernel_rfl) rfl #[.slice A1 l1.length c1,.int .i64 1048576] rfl qm_ ?_;(with_reducible refine (laws_szByteSS.calls k _ _ l1 1048576 t675 _ ?side1 ?side2 A7.out).mono ?_);(case side1 => repeat (first|exact HR1.out|(with_reducible refine ca_ ?_ _)|(with_reducible refine cn_ ?_ _)|(with_reducible refine cd_ ?_)));(case side2 => exact HC1.out);rintro e w' ⟨rfl,⟨nd,rfl⟩⟩;refine ⟨_,rfl,?_⟩)|((with_reducible refine gate_callee (f:=14) rfl ?_);refine goesL_ (some 28) rfl rfl Try.func14 (by kernel_rfl) rfl #[.slice A1 l1.length c1] rfl qm_ ?_;(with_reducible refine (laws_toByteSS.calls k _ _ l1 t676 _ ?side1 ?side2 A9.out).mono ?_);(case side1 => repeat (first|exact HR1.out|(with_reducible refine ca_ ?_ _)|(with_reducible refine cn_ ?_ _)|(with_reducible refine cd_ ?_)));(case side2 => exact HC1.out);rintro e w47 ⟨v677,rfl,ho0,hb⟩;refine ⟨_,rfl,?_⟩;have n0_:=mk_ (Kd.S_lower ho0 (bz_ (qb_ HB)));have n1_:=mk_ (st_ (qb_ HB) hb);clear HB;have HO678:=n0_;have HB:=n1_;clear n0_ n1_;(try clear hb);(try clear hb2);(try clear hk);(try clear hi);(try clear ho0))|((with_reducible refine gate_callee (f:=15) rfl ?_);refine goesL_ (some 30) rfl rfl Try.func15 (by kernel_rfl) rfl #[.slice A2 l2.length c2] rfl qm_ ?_;(with_reducible refine (laws_toIntS.calls k _ _ l2 t679 _ ?side1 ?side2 A10.out).mono ?_);(case side1 => exact qn_ HR2 HB);(case side2 => exact HC2.out);rintro e w48 ⟨v680,rfl,ho0,hb⟩;refine ⟨_,rfl,?_⟩;have n0_:=mk_ (Kd.S_below (by (with_reducible repeat (first|apply Kd.S_alloc|apply Kd.S_drewN|apply Kd.S_drew));exact HO678.out) hb);have n1_:=mk_ (Kd.R_lower ho0 (bz_ (qb_ HB)));have n2_:=mk_ (st_ (qb_ HB) hb);clear HO678 HB;have HO678:=n0_;have HO681:=n1_;have HB:=n2_;clear n0_ n1_ n2_;(try clear hb);(try clear hb2);(try clear hk);(try clear hi);(try clear ho0))|((with_reducible refine gate_callee (f:=15) rfl ?_);refine goesL_ (some 32) rfl rfl Try.func15 (by kernel_rfl) rfl #[.slice A3 l3.length c3] rfl qm_ ?_;(with_reducible refine (laws_toIntS.calls k _ _ l3 t682 _ ?side1 ?side2 A11.out).mono ?_);(case side1 => exact qn_ HR3 HB);(case side2 => exact HC3.out);rintro e w49 ⟨v683,rfl,ho0,hb⟩;refine ⟨_,rfl,?_⟩;have n0_:=mk_ (Kd.S_below (by (with_reducible repeat (first|apply Kd.S_alloc|apply Kd.S_drewN|apply Kd.S_drew));exact HO678.out) hb);have n1_:=mk_ (re_ (qr_ HO681) (Kd.R_base ho0) hb);have n2_:=mk_ (Kd.R_lower (Kd.R_new' ho0 (Kd.R_lt (qr_ HO681))) (bz_ (qb_ HB)));have n3_:=mk_ (st_ (qb_ HB) hb);clear HO678 HO681 HB;have HO678:=n0_;have HO681:=n1_;have HO684:=n2_;have HB:=n3_;clear n0_ n1_ n2_ n3_;(try clear hb);(try clear hb2);(try clear hk);(try clear hi);(try clear ho0);obtain ⟨Ao50,co50,eo50⟩:=Kd.S_slice HO678.out;subst eo50;obtain ⟨Ao51,co51,eo51⟩:=Kd.R_slice HO681.out;subst eo51;obtain ⟨Ao52,co52,eo52⟩:=Kd.R_slice HO684.out;subst eo52)|((with_reducible refine gate_callee (f:=13) rfl ?_);refine goesL_ (some 33) rfl rfl Try.func13 (by kernel_rfl) rfl #[.int .i64 a0,.slice Ao50 t676.length co50,.slice Ao51 t679.length co51,.slice Ao52 t682.length co52] rfl qm_ ?_;(with_reducible refine (spec_LinkRounds.calls k a0 _ _ t676 _ _ t679 _ _ t682 t685 _ ?side1 ?side2 ?side3 ?side4 ?side5 ?side6 A12.out).mono ?_);(case side1 => repeat (first|exact (Kd.S_reads' HO678.out).2.2|(with_reducible refine ca_ ?_ _)|(with_reducible refine cn_ ?_ _)|(with_reducible refine cd_ ?_)));(case side2 => exact (Kd.S_reads' HO678.out).2.1);(case side3 => repeat (first|exact (rr_ HO681.out).2.2|(with_reducible refine ca_ ?_ _)|(with_reducible refine cn_ ?_ _)|(with_reducible refine cd_ ?_)));(case side4 => exact (rr_ HO681.out).2.1);(case side5 => repeat (first|exact (rr_ HO684.out).2.2|(with_reducible refine ca_ ?_ _)|(with_reducible refine cn_ ?_ _)|(with_reducible refine cd_ ?_)));(case side6 => exact (rr_ HO684.out).2.1);rintro e w53 ⟨rfl,hb⟩;refine ⟨_,rfl,?_⟩;have n0_:=mk_ (Kd.S_below (by (with_reducible repeat (first|apply Kd.S_alloc|apply Kd.S_drewN|apply Kd.S_drew));exact HO678.out) hb);have n1_:=mk_ (rb_ (qr_ HO681) hb);have n2_:=mk_ (rb_ (qr_ HO684) hb);have n3_:=mk_ (st_ (qb_ HB) hb);clear HO678 HO681 HO684 HB;have HO678:=n0_;have HO681:=n1_;have HO684:=n2_;have HB:=n3_;clear n0_ n1_ n2_ n3_;(try clear hb);(try clear hb2);(try clear hk);(try clear hi))|((with_reducible refine gate_callee (f:=14) rfl ?_);refine goesL_ (some 35) rfl rfl Try.func14 (by kernel_rfl) rfl #[.slice A1 l1.length c1] rfl qm_ ?_;(with_reducible refine (laws_toByteSS.calls k _ _ l1 t686 _ ?side1 ?side2 A13.out).mono ?_);(case side1 => exact qn_ HR1 HB);(case side2 => exact HC1.out);rintro e w54 ⟨v687,rfl,ho0,hb⟩;refine ⟨_,rfl,?_⟩;have n0_:=mk_ (Kd.S_elder' (by (with_reducible repeat (first|apply Kd.S_alloc|apply Kd.S_drewN|apply Kd.S_drew));exact HO678.out) (Kd.S_base ho0) hb);have n1_:=mk_ (rb_ (qr_ HO681) hb);have n2_:=mk_ (rb_ (qr_ HO684) hb);have n3_:=mk_ (Kd.S_lower (Kd.S_new' ho0 (Kd.S_lt (by (with_reducible repeat (first|apply Kd.S_alloc|apply Kd.S_drewN|apply Kd.S_drew));exact HO678.out))) (bz_ (qb_ HB)));have n4_:=mk_ (st_ (qb_ HB) hb);clear HO678 HO681 HO684 HB;have HO678:=n0_;have HO681:=n1_;have HO684:=n2_;have HO688:=n3_;have HB:=n4_;clear n0_ n1_ n2_ n3_ n4_;(try clear hb);(try clear hb2);(try clear hk);(try clear hi);(try clear ho0))|((with_reducible refine gate_callee (f:=15) rfl ?_);refine goesL_ (some 37) rfl rfl Try.func15 (by kernel_rfl) rfl #[.slice A2 l2.length c2] rfl qm_ ?_;(with_reducible refine (laws_toIntS.calls k _ _ l2 t689 _ ?side1 ?side2 A14.out).mono ?_);(case side1 => exact qn_ HR2 HB);(case side2 => exact HC2.out);rintro e w55 ⟨v690,rfl,ho0,hb⟩;refine ⟨_,rfl,?_⟩;have n0_:=mk_ (Kd.S_below (by (with_reducible repeat (first|apply Kd.S_alloc|apply Kd.S_drewN|apply Kd.S_drew));exact HO678.out) hb);have n1_:=mk_ (re_ (qr_ HO681) (Kd.R_base ho0) hb);have n2_:=mk_ (re_ (qr_ HO684) (Kd.R_base ho0) hb);have n3_:=mk_ (Kd.S_below (by (with_reducible repeat (first|apply Kd.S_alloc|apply Kd.S_drewN|apply Kd.S_drew));exact HO688.out) hb);have n4_:=mk_ (Kd.R_lower (Kd.R_new' (Kd.R_new' ho0 (Kd.R_lt (qr_ HO681))) (Kd.R_lt (qr_ HO684))) (bz_ (qb_ HB)));have n5_:=mk_ (st_ (qb_ HB) hb);clear HO678 HO681 HO684 HO688 HB;have HO678:=n0_;have HO681:=n1_;have HO684:=n2_;have HO688:=n3_;have HO691:=n4_;have HB:=n5_;clear n0_ n1_ n2_ n3_ n4_ n5_;(try clear hb);(try clear hb2);(try clear hk);(try clear hi);(try clear ho0))|((with_reducible refine gate_callee (f:=15) rfl ?_);refine goesL_ (some 39) rfl rfl Try.func15 (by kernel_rfl) rfl #[.slice A3 l3.length c3] rfl qm_ ?_;(with_reducible refine (laws_toIntS.calls k _ _ l3 t692 _ ?side1 ?side2 A15.out).mono ?_);(case side1 => exact qn_ HR3 HB);(case side2 => exact HC3.out);rintro e w56 ⟨v693,rfl,ho0,hb⟩;refine ⟨_,rfl,?_⟩;have n0_:=mk_ (Kd.S_below (by (with_reducible repeat (first|apply Kd.S_alloc|apply Kd.S_drewN|apply Kd.S_drew));exact HO678.out) hb);have n1_:=mk_ (re_ (qr_ HO681) (Kd.R_base ho0) hb);have n2_:=mk_ (re_ (qr_ HO684) (Kd.R_base ho0) hb);have n3_:=mk_ (Kd.S_below (by (with_reducible repeat (first|apply Kd.S_alloc|apply Kd.S_drewN|apply Kd.S_drew));exact HO688.out) hb);have n4_:=mk_ (re_ (qr_ HO691) (Kd.R_base ho0) hb);have n5_:=mk_ (Kd.R_lower (Kd.R_new' (Kd.R_new' (Kd.R_new' ho0 (Kd.R_lt (qr_ HO681))) (Kd.R_lt (qr_ HO684))) (Kd.R_lt (qr_ HO691))) (bz_ (qb_ HB)));have n6_:=mk_ (st_ (qb_ HB) hb);clear HO678 HO681 HO684 HO688 HO691 HB;have HO678:=n0_;have HO681:=n1_;have HO684:=n2_;have HO688:=n3_;have HO691:=n4_;have HO694:=n5_;have HB:=n6_;clear n0_ n1_ n2_ n3_ n4_ n5_ n6_;(try clear hb);(try clear hb2);(try clear hk);(try clear hi);(try clear ho0);obtain ⟨Ao57,co57,eo57⟩:=Kd.S_slice HO688.out;subst eo57;obtain ⟨Ao58,co58,eo58⟩:=Kd.R_slice HO691.out;subst eo58;obtain ⟨Ao59,co59,eo59⟩:=Kd.R_slice HO694.out;subst eo59)|((with_reducible refine gate_callee (f:=16) rfl ?_);refine goesL_ (some 44) rfl rfl Try.func16 (by kernel_rfl) rfl #[.int .i64 a0,.slice Ao57 t686.length co57,.slice Ao58 t689.length co58,.slice Ao59 t692.length co59] rfl qm_ ?_;(with_reducible refine (impl_LinkRounds.calls a0 _ _ t686 _ _ t689 _ _ t692 t695 _ ?side1 ?side2 ?side3 ?side4 ?side5 ?side6 A16.out).mono ?_);(case side1 => repeat (first|exact (Kd.S_reads' HO688.out).2.2|(with_reducible refine ca_ ?_ _)|(with_reducible refine cn_ ?_ _)|(with_reducible refine cd_ ?_)));(case side2 => exact (Kd.S_reads' HO688.out).2.1);(case side3 => repeat (first|exact (rr_ HO691.out).2.2|(with_reducible refine ca_ ?_ _)|(with_reducible refine cn_ ?_ _)|(with_reducible refine cd_ ?_)));(case side4 => exact (rr_ HO691.out).2.1);(case side5 => repeat (first|exact (rr_ HO694.out).2.2|(with_reducible refine ca_ ?_ _)|(with_reducible refine cn_ ?_ _)|(with_reducible refine cd_ ?_)));(case side6 => exact (rr_ HO694.out).2.1);rintro e w60 ⟨rfl,hb⟩;refine ⟨_,rfl,?_⟩;have n0_:=mk_ (Kd.S_below (by (with_reducible repeat (first|apply Kd.S_alloc|apply Kd.S_drewN|apply Kd.S_drew));exact HO678.out) hb);have n1_:=mk_ (rb_ (qr_ HO681) hb);have n2_:=mk_ (rb_ (qr_ HO684) hb);have n3_:=mk_ (Kd.S_below (by (with_reducible repeat (first|apply Kd.S_alloc|apply Kd.S_drewN|apply Kd.S_drew));exact HO688.out) hb);have n4_:=mk_ (rb_ (qr_ HO691) hb);have n5_:=mk_ (rb_ (qr_ HO694) hb);have n6_:=mk_ (st_ (qb_ HB) hb);clear HO678 HO681 HO684 HO688 HO691 HO694 HB;have HO678:=n0_;have HO681:=n1_;have HO684:=n2_;have HO688:=n3_;have HO691:=n4_;have HO694:=n5_;have HB:=n6_;clear n0_ n1_ n2_ n3_ n4_ n5_ n6_;(try clear hb);(try clear hb2);(try clear hk);(try clear hi))|((with_reducible refine gate_callee (f:=14) rfl ?_);refine goesL_ (some 50) rfl rfl Try.func14 (by kernel_rfl) rfl #[.slice A1 l1.length c1] rfl qm_ ?_;(with_reducible refine (laws_toByteSS.calls k _ _ l1 t696 _ ?side1 ?side2 A18.out).mono ?_);(case side1 => exact qn_ HR1 HB);(case side2 => exact HC1.out);rintro e w61 ⟨v697,rfl,ho0,hb⟩;refine ⟨_,rfl,?_⟩;have n0_:=mk_ (Kd.S_elder' (by (with_reducible repeat (first|apply Kd.S_alloc|apply Kd.S_drewN|apply Kd.S_drew));exact HO678.out) (Kd.S_base ho0) hb);have n1_:=mk_ (rb_ (qr_ HO681) hb);have n2_:=mk_ (rb_ (qr_ HO684) hb);have n3_:=mk_ (Kd.S_elder' (by (with_reducible repeat (first|apply Kd.S_alloc|apply Kd.S_drewN|apply Kd.S_drew));exact HO688.out) (Kd.S_base ho0) hb);have n4_:=mk_ (rb_ (qr_ HO691) hb);have n5_:=mk_ (rb_ (qr_ HO694) hb);have n6_:=mk_ (Kd.S_lower (Kd.S_new' (Kd.S_new' ho0 (Kd.S_lt (by (with_reducible repeat (first|apply Kd.S_alloc|apply Kd.S_drewN|apply Kd.S_drew));exact HO678.out))) (Kd.S_lt (by (with_reducible repeat (first|apply Kd.S_alloc|apply Kd.S_drewN|apply Kd.S_drew));exact HO688.out))) (bz_ (qb_ HB)));have n7_:=mk_ (st_ (qb_ HB) hb);clear HO678 HO681 HO684 HO688 HO691 HO694 HB;have HO678:=n0_;have HO681:=n1_;have HO684:=n2_;have HO688:=n3_;have HO691:=n4_;have HO694:=n5_;have HO698:=n6_;have HB:=n7_;clear n0_ n1_ n2_ n3_ n4_ n5_ n6_ n7_;(try clear hb);(try clear hb2);(try clear hk);(try clear hi);(try clear ho0);obtain ⟨Ao62,co62,eo62⟩:=Kd.S_slice HO698.out;subst eo62)|((with_reducible refine gate_callee (f:=17) rfl ?_);refine goesL_ (some 51) rfl rfl Try.func17 (by kernel_rfl) rfl #[.slice Ao57 t686.length co57,.slice Ao62 t696.length co62] rfl qm_ ?_;(with_reducible refine (laws_eqByteSS.calls k _ _ t686 _ _ t696 true _ ?side1 ?side2 ?side3 ?side4 A19.out).mono ?_);(case side1 => repeat (first|exact (Kd.S_reads' HO688.out).2.2|(with_reducible refine ca_ ?_ _)|(with_reducible refine cn_ ?_ _)|(with_reducible refine cd_ ?_)));(case side2 => exact (Kd.S_reads' HO688.out).2.1);(case side3 => repeat (first|exact (Kd.S_reads' HO698.out).2.2|(with_reducible refine ca_ ?_ _)|(with_reducible refine cn_ ?_ _)|(with_reducible refine cd_ ?_)));(case side4 => exact (Kd.S_reads' HO698.out).2.1);rintro e w' ⟨rfl,⟨nd,rfl⟩⟩;refine ⟨_,rfl,?_⟩)|((with_reducible refine gate_callee (f:=15) rfl ?_);refine goesL_ (some 55) rfl rfl Try.func15 (by kernel_rfl) rfl #[.slice A2 l2.length c2] rfl qm_ ?_;(with_reducible refine (laws_toIntS.calls k _ _ l2 t700 _ ?side1 ?side2 A21.out).mono ?_);(case side1 => repeat (first|exact (cb_ HR2.out (qb_ HB))|(with_reducible refine ca_ ?_ _)|(with_reducible refine cn_ ?_ _)|(with_reducible refine cd_ ?_)));(case side2 => exact HC2.out);rintro e w63 ⟨v701,rfl,ho0,hb⟩;refine ⟨_,rfl,?_⟩;have n0_:=mk_ (Kd.S_below (by (with_reducible repeat (first|apply Kd.S_alloc|apply Kd.S_drewN|apply Kd.S_drew));exact HO678.out) hb);have n1_:=mk_ (re_ (qr_ HO681) (Kd.R_base ho0) hb);have n2_:=mk_ (re_ (qr_ HO684) (Kd.R_base ho0) hb);have n3_:=mk_ (Kd.S_below (by (with_reducible repeat (first|apply Kd.S_alloc|apply Kd.S_drewN|apply Kd.S_drew));exact HO688.out) hb);have n4_:=mk_ (re_ (qr_ HO691) (Kd.R_base ho0) hb);have n5_:=mk_ (re_ (qr_ HO694) (Kd.R_base ho0) hb);have n6_:=mk_ (Kd.S_below (by (with_reducible repeat (first|apply Kd.S_alloc|apply Kd.S_drewN|apply Kd.S_drew));exact HO698.out) hb);have n7_:=mk_ (Kd.R_lower (Kd.R_new' (Kd.R_new' (Kd.R_new' (Kd.R_new' ho0 (Kd.R_lt (qr_ HO681))) (Kd.R_lt (qr_ HO684))) (Kd.R_lt (qr_ HO691))) (Kd.R_lt (qr_ HO694))) (bz_ (qb_ HB)));have n8_:=mk_ (st_ (qb_ HB) hb);clear HO678 HO681 HO684 HO688 HO691 HO694 HO698 HB;have HO678:=n0_;have HO681:=n1_;have HO684:=n2_;have HO688:=n3_;have HO691:=n4_;have HO694:=n5_;have HO698:=n6_;have HO702:=n7_;have HB:=n8_;clear n0_ n1_ n2_ n3_ n4_ n5_ n6_ n7_ n8_;(try clear hb);(try clear hb2);(try clear hk);(try clear hi);(try clear ho0);obtain ⟨Ao64,co64,eo64⟩:=Kd.R_slice HO702.out;subst eo64)|((with_reducible refine gate_callee (f:=18) rfl ?_);refine goesL_ (some 56) rfl rfl Try.func18 (by kernel_rfl) rfl #[.slice Ao58 t689.length co58,.slice Ao64 t700.length co64] rfl qm_ ?_;(with_reducible refine (laws_eqIntS.calls k _ _ t689 _ _ t700 true _ ?side1 ?side2 ?side3 ?side4 A22.out).mono ?_);(case side1 => repeat (first|exact (rr_ HO691.out).2.2|(with_reducible refine ca_ ?_ _)|(with_reducible refine cn_ ?_ _)|(with_reducible refine cd_ ?_)));(case side2 => exact (rr_ HO691.out).2.1);(case side3 => repeat (first|exact (rr_ HO702.out).2.2|(with_reducible refine ca_ ?_ _)|(with_reducible refine cn_ ?_ _)|(with_reducible refine cd_ ?_)));(case side4 => exact (rr_ HO702.out).2.1);rintro e w' ⟨rfl,⟨nd,rfl⟩⟩;refine ⟨_,rfl,?_⟩)|((with_reducible refine gate_callee (f:=15) rfl ?_);refine goesL_ (some 60) rfl rfl Try.func15 (by kernel_rfl) rfl #[.slice A3 l3.length c3] rfl qm_ ?_;(with_reducible refine (laws_toIntS.calls k _ _ l3 t704 _ ?side1 ?side2 A24.out).mono ?_);(case side1 => repeat (first|exact (cb_ HR3.out (qb_ HB))|(with_reducible refine ca_ ?_ _)|(with_reducible refine cn_ ?_ _)|(with_reducible refine cd_ ?_)));(case side2 => exact HC3.out);rintro e w65 ⟨v705,rfl,ho0,hb⟩;refine ⟨_,rfl,?_⟩;have n0_:=mk_ (Kd.S_below (by (with_reducible repeat (first|apply Kd.S_alloc|apply Kd.S_drewN|apply Kd.S_drew));exact HO678.out) hb);have n1_:=mk_ (re_ (qr_ HO681) (Kd.R_base ho0) hb);have n2_:=mk_ (re_ (qr_ HO684) (Kd.R_base ho0) hb);have n3_:=mk_ (Kd.S_below (by (with_reducible repeat (first|apply Kd.S_alloc|apply Kd.S_drewN|apply Kd.S_drew));exact HO688.out) hb);have n4_:=mk_ (re_ (qr_ HO691) (Kd.R_base ho0) hb);have n5_:=mk_ (re_ (qr_ HO694) (Kd.R_base ho0) hb);have n6_:=mk_ (Kd.S_below (by (with_reducible repeat (first|apply Kd.S_alloc|apply Kd.S_drewN|apply Kd.S_drew));exact HO698.out) hb);have n7_:=mk_ (re_ (qr_ HO702) (Kd.R_base ho0) hb);have n8_:=mk_ (Kd.R_lower (Kd.R_new' (Kd.R_new' (Kd.R_new' (Kd.R_new' (Kd.R_new' ho0 (Kd.R_lt (qr_ HO681))) (Kd.R_lt (qr_ HO684))) (Kd.R_lt (qr_ HO691))) (Kd.R_lt (qr_ HO694))) (Kd.R_lt (qr_ HO702))) (bz_ (qb_ HB)));have n9_:=mk_ (st_ (qb_ HB) hb);clear HO678 HO681 HO684 HO688 HO691 HO694 HO698 HO702 HB;have HO678:=n0_;have HO681:=n1_;have HO684:=n2_;have HO688:=n3_;have HO691:=n4_;have HO694:=n5_;have HO698:=n6_;have HO702:=n7_;have HO706:=n8_;have HB:=n9_;clear n0_ n1_ n2_ n3_ n4_ n5_ n6_ n7_ n8_ n9_;(try clear hb);(try clear hb2);(try clear hk);(try clear hi);(try clear ho0);obtain ⟨Ao66,co66,eo66⟩:=Kd.R_slice HO706.out;subst eo66)|((with_reducible refine gate_callee (f:=18) rfl ?_);refine goesL_ (some 61) rfl rfl Try.func18 (by kernel_rfl) rfl #[.slice Ao59 t692.length co59,.slice Ao66 t704.length co66] rfl qm_ ?_;(with_reducible refine (laws_eqIntS.calls k _ _ t692 _ _ t704 false _ ?side1 ?side2 ?side3 ?side4 A25.out).mono ?_);(case side1 => repeat (first|exact (rr_ HO694.out).2.2|(with_reducible refine ca_ ?_ _)|(with_reducible refine cn_ ?_ _)|(with_reducible refine cd_ ?_)));(case side2 => exact (rr_ HO694.out).2.1);(case side3 => repeat (first|exact (rr_ HO706.out).2.2|(with_reducible refine ca_ ?_ _)|(with_reducible refine cn_ ?_ _)|(with_reducible refine cd_ ?_)));(case side4 => exact (rr_ HO706.out).2.1);rintro e w' ⟨rfl,⟨nd,rfl⟩⟩;refine ⟨_,rfl,?_⟩))
        go_ret
        exact ⟨qe_,u0_ HB⟩
      ·replace c23:=Bool.eq_false_iff.mpr c23
       subst c23
       have H1 : (some false) = some r:=by rw [if_neg (show ¬ (false = true) by decide)] at H;exact H
       clear H
       have H:=H1
       clear H1
       obtain rfl:=Option.some.inj H
       go_enter Try.func4,Try.ntmps4
       go_wp2_with (first|((with_reducible refine gate_callee (f:=12) rfl ?_);refine goesL_ (some 23) rfl rfl Try.func12 (by kernel_rfl) rfl #[.slice A1 l1.length c1,.int .i64 1048576] rfl qm_ ?_;(with_reducible refine (laws_szByteSS.calls k _ _ l1 1048576 t675 _ ?side1 ?side2 A7.out).mono ?_);(case side1 => repeat (first|exact HR1.out|(with_reducible refine ca_ ?_ _)|(with_reducible refine cn_ ?_ _)|(with_reducible refine cd_ ?_)));(case side2 => exact HC1.out);rintro e w' ⟨rfl,⟨nd,rfl⟩⟩;refine ⟨_,rfl,?_⟩)|((with_reducible refine gate_callee (f:=14) rfl ?_);refine goesL_ (some 28) rfl rfl Try.func14 (by kernel_rfl) rfl #[.slice A1 l1.length c1] rfl qm_ ?_;(with_reducible refine (laws_toByteSS.calls k _ _ l1 t676 _ ?side1 ?side2 A9.out).mono ?_);(case side1 => repeat (first|exact HR1.out|(with_reducible refine ca_ ?_ _)|(with_reducible refine cn_ ?_ _)|(with_reducible refine cd_ ?_)));(case side2 => exact HC1.out);rintro e w67 ⟨v677,rfl,ho0,hb⟩;refine ⟨_,rfl,?_⟩;have n0_:=mk_ (Kd.S_lower ho0 (bz_ (qb_ HB)));have n1_:=mk_ (st_ (qb_ HB) hb);clear HB;have HO678:=n0_;have HB:=n1_;clear n0_ n1_;(try clear hb);(try clear hb2);(try clear hk);(try clear hi);(try clear ho0))|((with_reducible refine gate_callee (f:=15) rfl ?_);refine goesL_ (some 30) rfl rfl Try.func15 (by kernel_rfl) rfl #[.slice A2 l2.length c2] rfl qm_ ?_;(with_reducible refine (laws_toIntS.calls k _ _ l2 t679 _ ?side1 ?side2 A10.out).mono ?_);(case side1 => exact qn_ HR2 HB);(case side2 => exact HC2.out);rintro e w68 ⟨v680,rfl,ho0,hb⟩;refine ⟨_,rfl,?_⟩;have n0_:=mk_ (Kd.S_below (by (with_reducible repeat (first|apply Kd.S_alloc|apply Kd.S_drewN|apply Kd.S_drew));exact HO678.out) hb);have n1_:=mk_ (Kd.R_lower ho0 (bz_ (qb_ HB)));have n2_:=mk_ (st_ (qb_ HB) hb);clear HO678 HB;have HO678:=n0_;have HO681:=n1_;have HB:=n2_;clear n0_ n1_ n2_;(try clear hb);(try clear hb2);(try clear hk);(try clear hi);(try clear ho0))|((with_reducible refine gate_callee (f:=15) rfl ?_);refine goesL_ (some 32) rfl rfl Try.func15 (by kernel_rfl) rfl #[.slice A3 l3.length c3] rfl qm_ ?_;(with_reducible refine (laws_toIntS.calls k _ _ l3 t682 _ ?side1 ?side2 A11.out).mono ?_);(case side1 => exact qn_ HR3 HB);(case side2 => exact HC3.out);rintro e w69 ⟨v683,rfl,ho0,hb⟩;refine ⟨_,rfl,?_⟩;have n0_:=mk_ (Kd.S_below (by (with_reducible repeat (first|apply Kd.S_alloc|apply Kd.S_drewN|apply Kd.S_drew));exact HO678.out) hb);have n1_:=mk_ (re_ (qr_ HO681) (Kd.R_base ho0) hb);have n2_:=mk_ (Kd.R_lower (Kd.R_new' ho0 (Kd.R_lt (qr_ HO681))) (bz_ (qb_ HB)));have n3_:=mk_ (st_ (qb_ HB) hb);clear HO678 HO681 HB;have HO678:=n0_;have HO681:=n1_;have HO684:=n2_;have HB:=n3_;clear n0_ n1_ n2_ n3_;(try clear hb);(try clear hb2);(try clear hk);(try clear hi);(try clear ho0);obtain ⟨Ao70,co70,eo70⟩:=Kd.S_slice HO678.out;subst eo70;obtain ⟨Ao71,co71,eo71⟩:=Kd.R_slice HO681.out;subst eo71;obtain ⟨Ao72,co72,eo72⟩:=Kd.R_slice HO684.out;subst eo72)|((with_reducible refine gate_callee (f:=13) rfl ?_);refine goesL_ (some 33) rfl rfl Try.func13 (by kernel_rfl) rfl #[.int .i64 a0,.slice Ao70 t676.length co70,.slice Ao71 t679.length co71,.slice Ao72 t682.length co72] rfl qm_ ?_;(with_reducible refine (spec_LinkRounds.calls k a0 _ _ t676 _ _ t679 _ _ t682 t685 _ ?side1 ?side2 ?side3 ?side4 ?side5 ?side6 A12.out).mono ?_);(case side1 => repeat (first|exact (Kd.S_reads' HO678.out).2.2|(with_reducible refine ca_ ?_ _)|(with_reducible refine cn_ ?_ _)|(with_reducible refine cd_ ?_)));(case side2 => exact (Kd.S_reads' HO678.out).2.1);(case side3 => repeat (first|exact (rr_ HO681.out).2.2|(with_reducible refine ca_ ?_ _)|(with_reducible refine cn_ ?_ _)|(with_reducible refine cd_ ?_)));(case side4 => exact (rr_ HO681.out).2.1);(case side5 => repeat (first|exact (rr_ HO684.out).2.2|(with_reducible refine ca_ ?_ _)|(with_reducible refine cn_ ?_ _)|(with_reducible refine cd_ ?_)));(case side6 => exact (rr_ HO684.out).2.1);rintro e w73 ⟨rfl,hb⟩;refine ⟨_,rfl,?_⟩;have n0_:=mk_ (Kd.S_below (by (with_reducible repeat (first|apply Kd.S_alloc|apply Kd.S_drewN|apply Kd.S_drew));exact HO678.out) hb);have n1_:=mk_ (rb_ (qr_ HO681) hb);have n2_:=mk_ (rb_ (qr_ HO684) hb);have n3_:=mk_ (st_ (qb_ HB) hb);clear HO678 HO681 HO684 HB;have HO678:=n0_;have HO681:=n1_;have HO684:=n2_;have HB:=n3_;clear n0_ n1_ n2_ n3_;(try clear hb);(try clear hb2);(try clear hk);(try clear hi))|((with_reducible refine gate_callee (f:=14) rfl ?_);refine goesL_ (some 35) rfl rfl Try.func14 (by kernel_rfl) rfl #[.slice A1 l1.length c1] rfl qm_ ?_;(with_reducible refine (laws_toByteSS.calls k _ _ l1 t686 _ ?side1 ?side2 A13.out).mono ?_);(case side1 => exact qn_ HR1 HB);(case side2 => exact HC1.out);rintro e w74 ⟨v687,rfl,ho0,hb⟩;refine ⟨_,rfl,?_⟩;have n0_:=mk_ (Kd.S_elder' (by (with_reducible repeat (first|apply Kd.S_alloc|apply Kd.S_drewN|apply Kd.S_drew));exact HO678.out) (Kd.S_base ho0) hb);have n1_:=mk_ (rb_ (qr_ HO681) hb);have n2_:=mk_ (rb_ (qr_ HO684) hb);have n3_:=mk_ (Kd.S_lower (Kd.S_new' ho0 (Kd.S_lt (by (with_reducible repeat (first|apply Kd.S_alloc|apply Kd.S_drewN|apply Kd.S_drew));exact HO678.out))) (bz_ (qb_ HB)));have n4_:=mk_ (st_ (qb_ HB) hb);clear HO678 HO681 HO684 HB;have HO678:=n0_;have HO681:=n1_;have HO684:=n2_;have HO688:=n3_;have HB:=n4_;clear n0_ n1_ n2_ n3_ n4_;(try clear hb);(try clear hb2);(try clear hk);(try clear hi);(try clear ho0))|((with_reducible refine gate_callee (f:=15) rfl ?_);refine goesL_ (some 37) rfl rfl Try.func15 (by kernel_rfl) rfl #[.slice A2 l2.length c2] rfl qm_ ?_;(with_reducible refine (laws_toIntS.calls k _ _ l2 t689 _ ?side1 ?side2 A14.out).mono ?_);(case side1 => exact qn_ HR2 HB);(case side2 => exact HC2.out);rintro e w75 ⟨v690,rfl,ho0,hb⟩;refine ⟨_,rfl,?_⟩;have n0_:=mk_ (Kd.S_below (by (with_reducible repeat (first|apply Kd.S_alloc|apply Kd.S_drewN|apply Kd.S_drew));exact HO678.out) hb);have n1_:=mk_ (re_ (qr_ HO681) (Kd.R_base ho0) hb);have n2_:=mk_ (re_ (qr_ HO684) (Kd.R_base ho0) hb);have n3_:=mk_ (Kd.S_below (by (with_reducible repeat (first|apply Kd.S_alloc|apply Kd.S_drewN|apply Kd.S_drew));exact HO688.out) hb);have n4_:=mk_ (Kd.R_lower (Kd.R_new' (Kd.R_new' ho0 (Kd.R_lt (qr_ HO681))) (Kd.R_lt (qr_ HO684))) (bz_ (qb_ HB)));have n5_:=mk_ (st_ (qb_ HB) hb);clear HO678 HO681 HO684 HO688 HB;have HO678:=n0_;have HO681:=n1_;have HO684:=n2_;have HO688:=n3_;have HO691:=n4_;have HB:=n5_;clear n0_ n1_ n2_ n3_ n4_ n5_;(try clear hb);(try clear hb2);(try clear hk);(try clear hi);(try clear ho0))|((with_reducible refine gate_callee (f:=15) rfl ?_);refine goesL_ (some 39) rfl rfl Try.func15 (by kernel_rfl) rfl #[.slice A3 l3.length c3] rfl qm_ ?_;(with_reducible refine (laws_toIntS.calls k _ _ l3 t692 _ ?side1 ?side2 A15.out).mono ?_);(case side1 => exact qn_ HR3 HB);(case side2 => exact HC3.out);rintro e w76 ⟨v693,rfl,ho0,hb⟩;refine ⟨_,rfl,?_⟩;have n0_:=mk_ (Kd.S_below (by (with_reducible repeat (first|apply Kd.S_alloc|apply Kd.S_drewN|apply Kd.S_drew));exact HO678.out) hb);have n1_:=mk_ (re_ (qr_ HO681) (Kd.R_base ho0) hb);have n2_:=mk_ (re_ (qr_ HO684) (Kd.R_base ho0) hb);have n3_:=mk_ (Kd.S_below (by (with_reducible repeat (first|apply Kd.S_alloc|apply Kd.S_drewN|apply Kd.S_drew));exact HO688.out) hb);have n4_:=mk_ (re_ (qr_ HO691) (Kd.R_base ho0) hb);have n5_:=mk_ (Kd.R_lower (Kd.R_new' (Kd.R_new' (Kd.R_new' ho0 (Kd.R_lt (qr_ HO681))) (Kd.R_lt (qr_ HO684))) (Kd.R_lt (qr_ HO691))) (bz_ (qb_ HB)));have n6_:=mk_ (st_ (qb_ HB) hb);clear HO678 HO681 HO684 HO688 HO691 HB;have HO678:=n0_;have HO681:=n1_;have HO684:=n2_;have HO688:=n3_;have HO691:=n4_;have HO694:=n5_;have HB:=n6_;clear n0_ n1_ n2_ n3_ n4_ n5_ n6_;(try clear hb);(try clear hb2);(try clear hk);(try clear hi);(try clear ho0);obtain ⟨Ao77,co77,eo77⟩:=Kd.S_slice HO688.out;subst eo77;obtain ⟨Ao78,co78,eo78⟩:=Kd.R_slice HO691.out;subst eo78;obtain ⟨Ao79,co79,eo79⟩:=Kd.R_slice HO694.out;subst eo79)|((with_reducible refine gate_callee (f:=16) rfl ?_);refine goesL_ (some 44) rfl rfl Try.func16 (by kernel_rfl) rfl #[.int .i64 a0,.slice Ao77 t686.length co77,.slice Ao78 t689.length co78,.slice Ao79 t692.length co79] rfl qm_ ?_;(with_reducible refine (impl_LinkRounds.calls a0 _ _ t686 _ _ t689 _ _ t692 t695 _ ?side1 ?side2 ?side3 ?side4 ?side5 ?side6 A16.out).mono ?_);(case side1 => repeat (first|exact (Kd.S_reads' HO688.out).2.2|(with_reducible refine ca_ ?_ _)|(with_reducible refine cn_ ?_ _)|(with_reducible refine cd_ ?_)));(case side2 => exact (Kd.S_reads' HO688.out).2.1);(case side3 => repeat (first|exact (rr_ HO691.out).2.2|(with_reducible refine ca_ ?_ _)|(with_reducible refine cn_ ?_ _)|(with_reducible refine cd_ ?_)));(case side4 => exact (rr_ HO691.out).2.1);(case side5 => repeat (first|exact (rr_ HO694.out).2.2|(with_reducible refine ca_ ?_ _)|(with_reducible refine cn_ ?_ _)|(with_reducible refine cd_ ?_)));(case side6 => exact (rr_ HO694.out).2.1);rintro e w80 ⟨rfl,hb⟩;refine ⟨_,rfl,?_⟩;have n0_:=mk_ (Kd.S_below (by (with_reducible repeat (first|apply Kd.S_alloc|apply Kd.S_drewN|apply Kd.S_drew));exact HO678.out) hb);have n1_:=mk_ (rb_ (qr_ HO681) hb);have n2_:=mk_ (rb_ (qr_ HO684) hb);have n3_:=mk_ (Kd.S_below (by (with_reducible repeat (first|apply Kd.S_alloc|apply Kd.S_drewN|apply Kd.S_drew));exact HO688.out) hb);have n4_:=mk_ (rb_ (qr_ HO691) hb);have n5_:=mk_ (rb_ (qr_ HO694) hb);have n6_:=mk_ (st_ (qb_ HB) hb);clear HO678 HO681 HO684 HO688 HO691 HO694 HB;have HO678:=n0_;have HO681:=n1_;have HO684:=n2_;have HO688:=n3_;have HO691:=n4_;have HO694:=n5_;have HB:=n6_;clear n0_ n1_ n2_ n3_ n4_ n5_ n6_;(try clear hb);(try clear hb2);(try clear hk);(try clear hi))|((with_reducible refine gate_callee (f:=14) rfl ?_);refine goesL_ (some 50) rfl rfl Try.func14 (by kernel_rfl) rfl #[.slice A1 l1.length c1] rfl qm_ ?_;(with_reducible refine (laws_toByteSS.calls k _ _ l1 t696 _ ?side1 ?side2 A18.out).mono ?_);(case side1 => exact qn_ HR1 HB);(case side2 => exact HC1.out);rintro e w81 ⟨v697,rfl,ho0,hb⟩;refine ⟨_,rfl,?_⟩;have n0_:=mk_ (Kd.S_elder' (by (with_reducible repeat (first|apply Kd.S_alloc|apply Kd.S_drewN|apply Kd.S_drew));exact HO678.out) (Kd.S_base ho0) hb);have n1_:=mk_ (rb_ (qr_ HO681) hb);have n2_:=mk_ (rb_ (qr_ HO684) hb);have n3_:=mk_ (Kd.S_elder' (by (with_reducible repeat (first|apply Kd.S_alloc|apply Kd.S_drewN|apply Kd.S_drew));exact HO688.out) (Kd.S_base ho0) hb);have n4_:=mk_ (rb_ (qr_ HO691) hb);have n5_:=mk_ (rb_ (qr_ HO694) hb);have n6_:=mk_ (Kd.S_lower (Kd.S_new' (Kd.S_new' ho0 (Kd.S_lt (by (with_reducible repeat (first|apply Kd.S_alloc|apply Kd.S_drewN|apply Kd.S_drew));exact HO678.out))) (Kd.S_lt (by (with_reducible repeat (first|apply Kd.S_alloc|apply Kd.S_drewN|apply Kd.S_drew));exact HO688.out))) (bz_ (qb_ HB)));have n7_:=mk_ (st_ (qb_ HB) hb);clear HO678 HO681 HO684 HO688 HO691 HO694 HB;have HO678:=n0_;have HO681:=n1_;have HO684:=n2_;have HO688:=n3_;have HO691:=n4_;have HO694:=n5_;have HO698:=n6_;have HB:=n7_;clear n0_ n1_ n2_ n3_ n4_ n5_ n6_ n7_;(try clear hb);(try clear hb2);(try clear hk);(try clear hi);(try clear ho0);obtain ⟨Ao82,co82,eo82⟩:=Kd.S_slice HO698.out;subst eo82)|((with_reducible refine gate_callee (f:=17) rfl ?_);refine goesL_ (some 51) rfl rfl Try.func17 (by kernel_rfl) rfl #[.slice Ao77 t686.length co77,.slice Ao82 t696.length co82] rfl qm_ ?_;(with_reducible refine (laws_eqByteSS.calls k _ _ t686 _ _ t696 true _ ?side1 ?side2 ?side3 ?side4 A19.out).mono ?_);(case side1 => repeat (first|exact (Kd.S_reads' HO688.out).2.2|(with_reducible refine ca_ ?_ _)|(with_reducible refine cn_ ?_ _)|(with_reducible refine cd_ ?_)));(case side2 => exact (Kd.S_reads' HO688.out).2.1);(case side3 => repeat (first|exact (Kd.S_reads' HO698.out).2.2|(with_reducible refine ca_ ?_ _)|(with_reducible refine cn_ ?_ _)|(with_reducible refine cd_ ?_)));(case side4 => exact (Kd.S_reads' HO698.out).2.1);rintro e w' ⟨rfl,⟨nd,rfl⟩⟩;refine ⟨_,rfl,?_⟩)|((with_reducible refine gate_callee (f:=15) rfl ?_);refine goesL_ (some 55) rfl rfl Try.func15 (by kernel_rfl) rfl #[.slice A2 l2.length c2] rfl qm_ ?_;(with_reducible refine (laws_toIntS.calls k _ _ l2 t700 _ ?side1 ?side2 A21.out).mono ?_);(case side1 => repeat (first|exact (cb_ HR2.out (qb_ HB))|(with_reducible refine ca_ ?_ _)|(with_reducible refine cn_ ?_ _)|(with_reducible refine cd_ ?_)));(case side2 => exact HC2.out);rintro e w83 ⟨v701,rfl,ho0,hb⟩;refine ⟨_,rfl,?_⟩;have n0_:=mk_ (Kd.S_below (by (with_reducible repeat (first|apply Kd.S_alloc|apply Kd.S_drewN|apply Kd.S_drew));exact HO678.out) hb);have n1_:=mk_ (re_ (qr_ HO681) (Kd.R_base ho0) hb);have n2_:=mk_ (re_ (qr_ HO684) (Kd.R_base ho0) hb);have n3_:=mk_ (Kd.S_below (by (with_reducible repeat (first|apply Kd.S_alloc|apply Kd.S_drewN|apply Kd.S_drew));exact HO688.out) hb);have n4_:=mk_ (re_ (qr_ HO691) (Kd.R_base ho0) hb);have n5_:=mk_ (re_ (qr_ HO694) (Kd.R_base ho0) hb);have n6_:=mk_ (Kd.S_below (by (with_reducible repeat (first|apply Kd.S_alloc|apply Kd.S_drewN|apply Kd.S_drew));exact HO698.out) hb);have n7_:=mk_ (Kd.R_lower (Kd.R_new' (Kd.R_new' (Kd.R_new' (Kd.R_new' ho0 (Kd.R_lt (qr_ HO681))) (Kd.R_lt (qr_ HO684))) (Kd.R_lt (qr_ HO691))) (Kd.R_lt (qr_ HO694))) (bz_ (qb_ HB)));have n8_:=mk_ (st_ (qb_ HB) hb);clear HO678 HO681 HO684 HO688 HO691 HO694 HO698 HB;have HO678:=n0_;have HO681:=n1_;have HO684:=n2_;have HO688:=n3_;have HO691:=n4_;have HO694:=n5_;have HO698:=n6_;have HO702:=n7_;have HB:=n8_;clear n0_ n1_ n2_ n3_ n4_ n5_ n6_ n7_ n8_;(try clear hb);(try clear hb2);(try clear hk);(try clear hi);(try clear ho0);obtain ⟨Ao84,co84,eo84⟩:=Kd.R_slice HO702.out;subst eo84)|((with_reducible refine gate_callee (f:=18) rfl ?_);refine goesL_ (some 56) rfl rfl Try.func18 (by kernel_rfl) rfl #[.slice Ao78 t689.length co78,.slice Ao84 t700.length co84] rfl qm_ ?_;(with_reducible refine (laws_eqIntS.calls k _ _ t689 _ _ t700 false _ ?side1 ?side2 ?side3 ?side4 A22.out).mono ?_);(case side1 => repeat (first|exact (rr_ HO691.out).2.2|(with_reducible refine ca_ ?_ _)|(with_reducible refine cn_ ?_ _)|(with_reducible refine cd_ ?_)));(case side2 => exact (rr_ HO691.out).2.1);(case side3 => repeat (first|exact (rr_ HO702.out).2.2|(with_reducible refine ca_ ?_ _)|(with_reducible refine cn_ ?_ _)|(with_reducible refine cd_ ?_)));(case side4 => exact (rr_ HO702.out).2.1);rintro e w' ⟨rfl,⟨nd,rfl⟩⟩;refine ⟨_,rfl,?_⟩))
       go_ret
       exact ⟨qe_,u0_ HB⟩
     ·replace c20:=Bool.eq_false_iff.mpr c20
      subst c20
      have H1 : (some false) = some r:=by rw [if_neg (show ¬ (false = true) by decide)] at H;exact H
      clear H
      have H:=H1
      clear H1
      obtain rfl:=Option.some.inj H
      go_enter Try.func4,Try.ntmps4
      go_wp2_with (first|((with_reducible refine gate_callee (f:=12) rfl ?_);refine goesL_ (some 23) rfl rfl Try.func12 (by kernel_rfl) rfl #[.slice A1 l1.length c1,.int .i64 1048576] rfl qm_ ?_;(with_reducible refine (laws_szByteSS.calls k _ _ l1 1048576 t675 _ ?side1 ?side2 A7.out).mono ?_);(case side1 => repeat (first|exact HR1.out|(with_reducible refine ca_ ?_ _)|(with_reducible refine cn_ ?_ _)|(with_reducible refine cd_ ?_)));(case side2 => exact HC1.out);rintro e w' ⟨rfl,⟨nd,rfl⟩⟩;refine ⟨_,rfl,?_⟩)|((with_reducible refine gate_callee (f:=14) rfl ?_);refine goesL_ (some 28) rfl rfl Try.func14 (by kernel_rfl) rfl #[.slice A1 l1.length c1] rfl qm_ ?_;(with_reducible refine (laws_toByteSS.calls k _ _ l1 t676 _ ?side1 ?side2 A9.out).mono ?_);(case side1 => repeat (first|exact HR1.out|(with_reducible refine ca_ ?_ _)|(with_reducible refine cn_ ?_ _)|(with_reducible refine cd_ ?_)));(case side2 => exact HC1.out);rintro e w85 ⟨v677,rfl,ho0,hb⟩;refine ⟨_,rfl,?_⟩;have n0_:=mk_ (Kd.S_lower ho0 (bz_ (qb_ HB)));have n1_:=mk_ (st_ (qb_ HB) hb);clear HB;have HO678:=n0_;have HB:=n1_;clear n0_ n1_;(try clear hb);(try clear hb2);(try clear hk);(try clear hi);(try clear ho0))|((with_reducible refine gate_callee (f:=15) rfl ?_);refine goesL_ (some 30) rfl rfl Try.func15 (by kernel_rfl) rfl #[.slice A2 l2.length c2] rfl qm_ ?_;(with_reducible refine (laws_toIntS.calls k _ _ l2 t679 _ ?side1 ?side2 A10.out).mono ?_);(case side1 => exact qn_ HR2 HB);(case side2 => exact HC2.out);rintro e w86 ⟨v680,rfl,ho0,hb⟩;refine ⟨_,rfl,?_⟩;have n0_:=mk_ (Kd.S_below (by (with_reducible repeat (first|apply Kd.S_alloc|apply Kd.S_drewN|apply Kd.S_drew));exact HO678.out) hb);have n1_:=mk_ (Kd.R_lower ho0 (bz_ (qb_ HB)));have n2_:=mk_ (st_ (qb_ HB) hb);clear HO678 HB;have HO678:=n0_;have HO681:=n1_;have HB:=n2_;clear n0_ n1_ n2_;(try clear hb);(try clear hb2);(try clear hk);(try clear hi);(try clear ho0))|((with_reducible refine gate_callee (f:=15) rfl ?_);refine goesL_ (some 32) rfl rfl Try.func15 (by kernel_rfl) rfl #[.slice A3 l3.length c3] rfl qm_ ?_;(with_reducible refine (laws_toIntS.calls k _ _ l3 t682 _ ?side1 ?side2 A11.out).mono ?_);(case side1 => exact qn_ HR3 HB);(case side2 => exact HC3.out);rintro e w87 ⟨v683,rfl,ho0,hb⟩;refine ⟨_,rfl,?_⟩;have n0_:=mk_ (Kd.S_below (by (with_reducible repeat (first|apply Kd.S_alloc|apply Kd.S_drewN|apply Kd.S_drew));exact HO678.out) hb);have n1_:=mk_ (re_ (qr_ HO681) (Kd.R_base ho0) hb);have n2_:=mk_ (Kd.R_lower (Kd.R_new' ho0 (Kd.R_lt (qr_ HO681))) (bz_ (qb_ HB)));have n3_:=mk_ (st_ (qb_ HB) hb);clear HO678 HO681 HB;have HO678:=n0_;have HO681:=n1_;have HO684:=n2_;have HB:=n3_;clear n0_ n1_ n2_ n3_;(try clear hb);(try clear hb2);(try clear hk);(try clear hi);(try clear ho0);obtain ⟨Ao88,co88,eo88⟩:=Kd.S_slice HO678.out;subst eo88;obtain ⟨Ao89,co89,eo89⟩:=Kd.R_slice HO681.out;subst eo89;obtain ⟨Ao90,co90,eo90⟩:=Kd.R_slice HO684.out;subst eo90)|((with_reducible refine gate_callee (f:=13) rfl ?_);refine goesL_ (some 33) rfl rfl Try.func13 (by kernel_rfl) rfl #[.int .i64 a0,.slice Ao88 t676.length co88,.slice Ao89 t679.length co89,.slice Ao90 t682.length co90] rfl qm_ ?_;(with_reducible refine (spec_LinkRounds.calls k a0 _ _ t676 _ _ t679 _ _ t682 t685 _ ?side1 ?side2 ?side3 ?side4 ?side5 ?side6 A12.out).mono ?_);(case side1 => repeat (first|exact (Kd.S_reads' HO678.out).2.2|(with_reducible refine ca_ ?_ _)|(with_reducible refine cn_ ?_ _)|(with_reducible refine cd_ ?_)));(case side2 => exact (Kd.S_reads' HO678.out).2.1);(case side3 => repeat (first|exact (rr_ HO681.out).2.2|(with_reducible refine ca_ ?_ _)|(with_reducible refine cn_ ?_ _)|(with_reducible refine cd_ ?_)));(case side4 => exact (rr_ HO681.out).2.1);(case side5 => repeat (first|exact (rr_ HO684.out).2.2|(with_reducible refine ca_ ?_ _)|(with_reducible refine cn_ ?_ _)|(with_reducible refine cd_ ?_)));(case side6 => exact (rr_ HO684.out).2.1);rintro e w91 ⟨rfl,hb⟩;refine ⟨_,rfl,?_⟩;have n0_:=mk_ (Kd.S_below (by (with_reducible repeat (first|apply Kd.S_alloc|apply Kd.S_drewN|apply Kd.S_drew));exact HO678.out) hb);have n1_:=mk_ (rb_ (qr_ HO681) hb);have n2_:=mk_ (rb_ (qr_ HO684) hb);have n3_:=mk_ (st_ (qb_ HB) hb);clear HO678 HO681 HO684 HB;have HO678:=n0_;have HO681:=n1_;have HO684:=n2_;have HB:=n3_;clear n0_ n1_ n2_ n3_;(try clear hb);(try clear hb2);(try clear hk);(try clear hi))|((with_reducible refine gate_callee (f:=14) rfl ?_);refine goesL_ (some 35) rfl rfl Try.func14 (by kernel_rfl) rfl #[.slice A1 l1.length c1] rfl qm_ ?_;(with_reducible refine (laws_toByteSS.calls k _ _ l1 t686 _ ?side1 ?side2 A13.out).mono ?_);(case side1 => exact qn_ HR1 HB);(case side2 => exact HC1.out);rintro e w92 ⟨v687,rfl,ho0,hb⟩;refine ⟨_,rfl,?_⟩;have n0_:=mk_ (Kd.S_elder' (by (with_reducible repeat (first|apply Kd.S_alloc|apply Kd.S_drewN|apply Kd.S_drew));exact HO678.out) (Kd.S_base ho0) hb);have n1_:=mk_ (rb_ (qr_ HO681) hb);have n2_:=mk_ (rb_ (qr_ HO684) hb);have n3_:=mk_ (Kd.S_lower (Kd.S_new' ho0 (Kd.S_lt (by (with_reducible repeat (first|apply Kd.S_alloc|apply Kd.S_drewN|apply Kd.S_drew));exact HO678.out))) (bz_ (qb_ HB)));have n4_:=mk_ (st_ (qb_ HB) hb);clear HO678 HO681 HO684 HB;have HO678:=n0_;have HO681:=n1_;have HO684:=n2_;have HO688:=n3_;have HB:=n4_;clear n0_ n1_ n2_ n3_ n4_;(try clear hb);(try clear hb2);(try clear hk);(try clear hi);(try clear ho0))|((with_reducible refine gate_callee (f:=15) rfl ?_);refine goesL_ (some 37) rfl rfl Try.func15 (by kernel_rfl) rfl #[.slice A2 l2.length c2] rfl qm_ ?_;(with_reducible refine (laws_toIntS.calls k _ _ l2 t689 _ ?side1 ?side2 A14.out).mono ?_);(case side1 => exact qn_ HR2 HB);(case side2 => exact HC2.out);rintro e w93 ⟨v690,rfl,ho0,hb⟩;refine ⟨_,rfl,?_⟩;have n0_:=mk_ (Kd.S_below (by (with_reducible repeat (first|apply Kd.S_alloc|apply Kd.S_drewN|apply Kd.S_drew));exact HO678.out) hb);have n1_:=mk_ (re_ (qr_ HO681) (Kd.R_base ho0) hb);have n2_:=mk_ (re_ (qr_ HO684) (Kd.R_base ho0) hb);have n3_:=mk_ (Kd.S_below (by (with_reducible repeat (first|apply Kd.S_alloc|apply Kd.S_drewN|apply Kd.S_drew));exact HO688.out) hb);have n4_:=mk_ (Kd.R_lower (Kd.R_new' (Kd.R_new' ho0 (Kd.R_lt (qr_ HO681))) (Kd.R_lt (qr_ HO684))) (bz_ (qb_ HB)));have n5_:=mk_ (st_ (qb_ HB) hb);clear HO678 HO681 HO684 HO688 HB;have HO678:=n0_;have HO681:=n1_;have HO684:=n2_;have HO688:=n3_;have HO691:=n4_;have HB:=n5_;clear n0_ n1_ n2_ n3_ n4_ n5_;(try clear hb);(try clear hb2);(try clear hk);(try clear hi);(try clear ho0))|((with_reducible refine gate_callee (f:=15) rfl ?_);refine goesL_ (some 39) rfl rfl Try.func15 (by kernel_rfl) rfl #[.slice A3 l3.length c3] rfl qm_ ?_;(with_reducible refine (laws_toIntS.calls k _ _ l3 t692 _ ?side1 ?side2 A15.out).mono ?_);(case side1 => exact qn_ HR3 HB);(case side2 => exact HC3.out);rintro e w94 ⟨v693,rfl,ho0,hb⟩;refine ⟨_,rfl,?_⟩;have n0_:=mk_ (Kd.S_below (by (with_reducible repeat (first|apply Kd.S_alloc|apply Kd.S_drewN|apply Kd.S_drew));exact HO678.out) hb);have n1_:=mk_ (re_ (qr_ HO681) (Kd.R_base ho0) hb);have n2_:=mk_ (re_ (qr_ HO684) (Kd.R_base ho0) hb);have n3_:=mk_ (Kd.S_below (by (with_reducible repeat (first|apply Kd.S_alloc|apply Kd.S_drewN|apply Kd.S_drew));exact HO688.out) hb);have n4_:=mk_ (re_ (qr_ HO691) (Kd.R_base ho0) hb);have n5_:=mk_ (Kd.R_lower (Kd.R_new' (Kd.R_new' (Kd.R_new' ho0 (Kd.R_lt (qr_ HO681))) (Kd.R_lt (qr_ HO684))) (Kd.R_lt (qr_ HO691))) (bz_ (qb_ HB)));have n6_:=mk_ (st_ (qb_ HB) hb);clear HO678 HO681 HO684 HO688 HO691 HB;have HO678:=n0_;have HO681:=n1_;have HO684:=n2_;have HO688:=n3_;have HO691:=n4_;have HO694:=n5_;have HB:=n6_;clear n0_ n1_ n2_ n3_ n4_ n5_ n6_;(try clear hb);(try clear hb2);(try clear hk);(try clear hi);(try clear ho0);obtain ⟨Ao95,co95,eo95⟩:=Kd.S_slice HO688.out;subst eo95;obtain ⟨Ao96,co96,eo96⟩:=Kd.R_slice HO691.out;subst eo96;obtain ⟨Ao97,co97,eo97⟩:=Kd.R_slice HO694.out;subst eo97)|((with_reducible refine gate_callee (f:=16) rfl ?_);refine goesL_ (some 44) rfl rfl Try.func16 (by kernel_rfl) rfl #[.int .i64 a0,.slice Ao95 t686.length co95,.slice Ao96 t689.length co96,.slice Ao97 t692.length co97] rfl qm_ ?_;(with_reducible refine (impl_LinkRounds.calls a0 _ _ t686 _ _ t689 _ _ t692 t695 _ ?side1 ?side2 ?side3 ?side4 ?side5 ?side6 A16.out).mono ?_);(case side1 => repeat (first|exact (Kd.S_reads' HO688.out).2.2|(with_reducible refine ca_ ?_ _)|(with_reducible refine cn_ ?_ _)|(with_reducible refine cd_ ?_)));(case side2 => exact (Kd.S_reads' HO688.out).2.1);(case side3 => repeat (first|exact (rr_ HO691.out).2.2|(with_reducible refine ca_ ?_ _)|(with_reducible refine cn_ ?_ _)|(with_reducible refine cd_ ?_)));(case side4 => exact (rr_ HO691.out).2.1);(case side5 => repeat (first|exact (rr_ HO694.out).2.2|(with_reducible refine ca_ ?_ _)|(with_reducible refine cn_ ?_ _)|(with_reducible refine cd_ ?_)));(case side6 => exact (rr_ HO694.out).2.1);rintro e w98 ⟨rfl,hb⟩;refine ⟨_,rfl,?_⟩;have n0_:=mk_ (Kd.S_below (by (with_reducible repeat (first|apply Kd.S_alloc|apply Kd.S_drewN|apply Kd.S_drew));exact HO678.out) hb);have n1_:=mk_ (rb_ (qr_ HO681) hb);have n2_:=mk_ (rb_ (qr_ HO684) hb);have n3_:=mk_ (Kd.S_below (by (with_reducible repeat (first|apply Kd.S_alloc|apply Kd.S_drewN|apply Kd.S_drew));exact HO688.out) hb);have n4_:=mk_ (rb_ (qr_ HO691) hb);have n5_:=mk_ (rb_ (qr_ HO694) hb);have n6_:=mk_ (st_ (qb_ HB) hb);clear HO678 HO681 HO684 HO688 HO691 HO694 HB;have HO678:=n0_;have HO681:=n1_;have HO684:=n2_;have HO688:=n3_;have HO691:=n4_;have HO694:=n5_;have HB:=n6_;clear n0_ n1_ n2_ n3_ n4_ n5_ n6_;(try clear hb);(try clear hb2);(try clear hk);(try clear hi))|((with_reducible refine gate_callee (f:=14) rfl ?_);refine goesL_ (some 50) rfl rfl Try.func14 (by kernel_rfl) rfl #[.slice A1 l1.length c1] rfl qm_ ?_;(with_reducible refine (laws_toByteSS.calls k _ _ l1 t696 _ ?side1 ?side2 A18.out).mono ?_);(case side1 => exact qn_ HR1 HB);(case side2 => exact HC1.out);rintro e w99 ⟨v697,rfl,ho0,hb⟩;refine ⟨_,rfl,?_⟩;have n0_:=mk_ (Kd.S_elder' (by (with_reducible repeat (first|apply Kd.S_alloc|apply Kd.S_drewN|apply Kd.S_drew));exact HO678.out) (Kd.S_base ho0) hb);have n1_:=mk_ (rb_ (qr_ HO681) hb);have n2_:=mk_ (rb_ (qr_ HO684) hb);have n3_:=mk_ (Kd.S_elder' (by (with_reducible repeat (first|apply Kd.S_alloc|apply Kd.S_drewN|apply Kd.S_drew));exact HO688.out) (Kd.S_base ho0) hb);have n4_:=mk_ (rb_ (qr_ HO691) hb);have n5_:=mk_ (rb_ (qr_ HO694) hb);have n6_:=mk_ (Kd.S_lower (Kd.S_new' (Kd.S_new' ho0 (Kd.S_lt (by (with_reducible repeat (first|apply Kd.S_alloc|apply Kd.S_drewN|apply Kd.S_drew));exact HO678.out))) (Kd.S_lt (by (with_reducible repeat (first|apply Kd.S_alloc|apply Kd.S_drewN|apply Kd.S_drew));exact HO688.out))) (bz_ (qb_ HB)));have n7_:=mk_ (st_ (qb_ HB) hb);clear HO678 HO681 HO684 HO688 HO691 HO694 HB;have HO678:=n0_;have HO681:=n1_;have HO684:=n2_;have HO688:=n3_;have HO691:=n4_;have HO694:=n5_;have HO698:=n6_;have HB:=n7_;clear n0_ n1_ n2_ n3_ n4_ n5_ n6_ n7_;(try clear hb);(try clear hb2);(try clear hk);(try clear hi);(try clear ho0);obtain ⟨Ao100,co100,eo100⟩:=Kd.S_slice HO698.out;subst eo100)|((with_reducible refine gate_callee (f:=17) rfl ?_);refine goesL_ (some 51) rfl rfl Try.func17 (by kernel_rfl) rfl #[.slice Ao95 t686.length co95,.slice Ao100 t696.length co100] rfl qm_ ?_;(with_reducible refine (laws_eqByteSS.calls k _ _ t686 _ _ t696 false _ ?side1 ?side2 ?side3 ?side4 A19.out).mono ?_);(case side1 => repeat (first|exact (Kd.S_reads' HO688.out).2.2|(with_reducible refine ca_ ?_ _)|(with_reducible refine cn_ ?_ _)|(with_reducible refine cd_ ?_)));(case side2 => exact (Kd.S_reads' HO688.out).2.1);(case side3 => repeat (first|exact (Kd.S_reads' HO698.out).2.2|(with_reducible refine ca_ ?_ _)|(with_reducible refine cn_ ?_ _)|(with_reducible refine cd_ ?_)));(case side4 => exact (Kd.S_reads' HO698.out).2.1);rintro e w' ⟨rfl,⟨nd,rfl⟩⟩;refine ⟨_,rfl,?_⟩))
      go_ret
      exact ⟨qe_,u0_ HB⟩
    ·rw [if_neg c17] at H
     have c17b0 : (t695 == t685) = false:=beq_eq_false_iff_ne.mpr c17
     have c17b1 : (t695 != t685) = true:=bne_iff_ne.mpr c17
     obtain rfl:=Option.some.inj H
     go_enter Try.func4,Try.ntmps4
     go_wp2_with (first|((with_reducible refine gate_callee (f:=12) rfl ?_);refine goesL_ (some 23) rfl rfl Try.func12 (by kernel_rfl) rfl #[.slice A1 l1.length c1,.int .i64 1048576] rfl qm_ ?_;(with_reducible refine (laws_szByteSS.calls k _ _ l1 1048576 t675 _ ?side1 ?side2 A7.out).mono ?_);(case side1 => repeat (first|exact HR1.out|(with_reducible refine ca_ ?_ _)|(with_reducible refine cn_ ?_ _)|(with_reducible refine cd_ ?_)));(case side2 => exact HC1.out);rintro e w' ⟨rfl,⟨nd,rfl⟩⟩;refine ⟨_,rfl,?_⟩)|((with_reducible refine gate_callee (f:=14) rfl ?_);refine goesL_ (some 28) rfl rfl Try.func14 (by kernel_rfl) rfl #[.slice A1 l1.length c1] rfl qm_ ?_;(with_reducible refine (laws_toByteSS.calls k _ _ l1 t676 _ ?side1 ?side2 A9.out).mono ?_);(case side1 => repeat (first|exact HR1.out|(with_reducible refine ca_ ?_ _)|(with_reducible refine cn_ ?_ _)|(with_reducible refine cd_ ?_)));(case side2 => exact HC1.out);rintro e w101 ⟨v677,rfl,ho0,hb⟩;refine ⟨_,rfl,?_⟩;have n0_:=mk_ (Kd.S_lower ho0 (bz_ (qb_ HB)));have n1_:=mk_ (st_ (qb_ HB) hb);clear HB;have HO678:=n0_;have HB:=n1_;clear n0_ n1_;(try clear hb);(try clear hb2);(try clear hk);(try clear hi);(try clear ho0))|((with_reducible refine gate_callee (f:=15) rfl ?_);refine goesL_ (some 30) rfl rfl Try.func15 (by kernel_rfl) rfl #[.slice A2 l2.length c2] rfl qm_ ?_;(with_reducible refine (laws_toIntS.calls k _ _ l2 t679 _ ?side1 ?side2 A10.out).mono ?_);(case side1 => exact qn_ HR2 HB);(case side2 => exact HC2.out);rintro e w102 ⟨v680,rfl,ho0,hb⟩;refine ⟨_,rfl,?_⟩;have n0_:=mk_ (Kd.S_below (by (with_reducible repeat (first|apply Kd.S_alloc|apply Kd.S_drewN|apply Kd.S_drew));exact HO678.out) hb);have n1_:=mk_ (Kd.R_lower ho0 (bz_ (qb_ HB)));have n2_:=mk_ (st_ (qb_ HB) hb);clear HO678 HB;have HO678:=n0_;have HO681:=n1_;have HB:=n2_;clear n0_ n1_ n2_;(try clear hb);(try clear hb2);(try clear hk);(try clear hi);(try clear ho0))|((with_reducible refine gate_callee (f:=15) rfl ?_);refine goesL_ (some 32) rfl rfl Try.func15 (by kernel_rfl) rfl #[.slice A3 l3.length c3] rfl qm_ ?_;(with_reducible refine (laws_toIntS.calls k _ _ l3 t682 _ ?side1 ?side2 A11.out).mono ?_);(case side1 => exact qn_ HR3 HB);(case side2 => exact HC3.out);rintro e w103 ⟨v683,rfl,ho0,hb⟩;refine ⟨_,rfl,?_⟩;have n0_:=mk_ (Kd.S_below (by (with_reducible repeat (first|apply Kd.S_alloc|apply Kd.S_drewN|apply Kd.S_drew));exact HO678.out) hb);have n1_:=mk_ (re_ (qr_ HO681) (Kd.R_base ho0) hb);have n2_:=mk_ (Kd.R_lower (Kd.R_new' ho0 (Kd.R_lt (qr_ HO681))) (bz_ (qb_ HB)));have n3_:=mk_ (st_ (qb_ HB) hb);clear HO678 HO681 HB;have HO678:=n0_;have HO681:=n1_;have HO684:=n2_;have HB:=n3_;clear n0_ n1_ n2_ n3_;(try clear hb);(try clear hb2);(try clear hk);(try clear hi);(try clear ho0);obtain ⟨Ao104,co104,eo104⟩:=Kd.S_slice HO678.out;subst eo104;obtain ⟨Ao105,co105,eo105⟩:=Kd.R_slice HO681.out;subst eo105;obtain ⟨Ao106,co106,eo106⟩:=Kd.R_slice HO684.out;subst eo106)|((with_reducible refine gate_callee (f:=13) rfl ?_);refine goesL_ (some 33) rfl rfl Try.func13 (by kernel_rfl) rfl #[.int .i64 a0,.slice Ao104 t676.length co104,.slice Ao105 t679.length co105,.slice Ao106 t682.length co106] rfl qm_ ?_;(with_reducible refine (spec_LinkRounds.calls k a0 _ _ t676 _ _ t679 _ _ t682 t685 _ ?side1 ?side2 ?side3 ?side4 ?side5 ?side6 A12.out).mono ?_);(case side1 => repeat (first|exact (Kd.S_reads' HO678.out).2.2|(with_reducible refine ca_ ?_ _)|(with_reducible refine cn_ ?_ _)|(with_reducible refine cd_ ?_)));(case side2 => exact (Kd.S_reads' HO678.out).2.1);(case side3 => repeat (first|exact (rr_ HO681.out).2.2|(with_reducible refine ca_ ?_ _)|(with_reducible refine cn_ ?_ _)|(with_reducible refine cd_ ?_)));(case side4 => exact (rr_ HO681.out).2.1);(case side5 => repeat (first|exact (rr_ HO684.out).2.2|(with_reducible refine ca_ ?_ _)|(with_reducible refine cn_ ?_ _)|(with_reducible refine cd_ ?_)));(case side6 => exact (rr_ HO684.out).2.1);rintro e w107 ⟨rfl,hb⟩;refine ⟨_,rfl,?_⟩;have n0_:=mk_ (Kd.S_below (by (with_reducible repeat (first|apply Kd.S_alloc|apply Kd.S_drewN|apply Kd.S_drew));exact HO678.out) hb);have n1_:=mk_ (rb_ (qr_ HO681) hb);have n2_:=mk_ (rb_ (qr_ HO684) hb);have n3_:=mk_ (st_ (qb_ HB) hb);clear HO678 HO681 HO684 HB;have HO678:=n0_;have HO681:=n1_;have HO684:=n2_;have HB:=n3_;clear n0_ n1_ n2_ n3_;(try clear hb);(try clear hb2);(try clear hk);(try clear hi))|((with_reducible refine gate_callee (f:=14) rfl ?_);refine goesL_ (some 35) rfl rfl Try.func14 (by kernel_rfl) rfl #[.slice A1 l1.length c1] rfl qm_ ?_;(with_reducible refine (laws_toByteSS.calls k _ _ l1 t686 _ ?side1 ?side2 A13.out).mono ?_);(case side1 => exact qn_ HR1 HB);(case side2 => exact HC1.out);rintro e w108 ⟨v687,rfl,ho0,hb⟩;refine ⟨_,rfl,?_⟩;have n0_:=mk_ (Kd.S_elder' (by (with_reducible repeat (first|apply Kd.S_alloc|apply Kd.S_drewN|apply Kd.S_drew));exact HO678.out) (Kd.S_base ho0) hb);have n1_:=mk_ (rb_ (qr_ HO681) hb);have n2_:=mk_ (rb_ (qr_ HO684) hb);have n3_:=mk_ (Kd.S_lower (Kd.S_new' ho0 (Kd.S_lt (by (with_reducible repeat (first|apply Kd.S_alloc|apply Kd.S_drewN|apply Kd.S_drew));exact HO678.out))) (bz_ (qb_ HB)));have n4_:=mk_ (st_ (qb_ HB) hb);clear HO678 HO681 HO684 HB;have HO678:=n0_;have HO681:=n1_;have HO684:=n2_;have HO688:=n3_;have HB:=n4_;clear n0_ n1_ n2_ n3_ n4_;(try clear hb);(try clear hb2);(try clear hk);(try clear hi);(try clear ho0))|((with_reducible refine gate_callee (f:=15) rfl ?_);refine goesL_ (some 37) rfl rfl Try.func15 (by kernel_rfl) rfl #[.slice A2 l2.length c2] rfl qm_ ?_;(with_reducible refine (laws_toIntS.calls k _ _ l2 t689 _ ?side1 ?side2 A14.out).mono ?_);(case side1 => exact qn_ HR2 HB);(case side2 => exact HC2.out);rintro e w109 ⟨v690,rfl,ho0,hb⟩;refine ⟨_,rfl,?_⟩;have n0_:=mk_ (Kd.S_below (by (with_reducible repeat (first|apply Kd.S_alloc|apply Kd.S_drewN|apply Kd.S_drew));exact HO678.out) hb);have n1_:=mk_ (re_ (qr_ HO681) (Kd.R_base ho0) hb);have n2_:=mk_ (re_ (qr_ HO684) (Kd.R_base ho0) hb);have n3_:=mk_ (Kd.S_below (by (with_reducible repeat (first|apply Kd.S_alloc|apply Kd.S_drewN|apply Kd.S_drew));exact HO688.out) hb);have n4_:=mk_ (Kd.R_lower (Kd.R_new' (Kd.R_new' ho0 (Kd.R_lt (qr_ HO681))) (Kd.R_lt (qr_ HO684))) (bz_ (qb_ HB)));have n5_:=mk_ (st_ (qb_ HB) hb);clear HO678 HO681 HO684 HO688 HB;have HO678:=n0_;have HO681:=n1_;have HO684:=n2_;have HO688:=n3_;have HO691:=n4_;have HB:=n5_;clear n0_ n1_ n2_ n3_ n4_ n5_;(try clear hb);(try clear hb2);(try clear hk);(try clear hi);(try clear ho0))|((with_reducible refine gate_callee (f:=15) rfl ?_);refine goesL_ (some 39) rfl rfl Try.func15 (by kernel_rfl) rfl #[.slice A3 l3.length c3] rfl qm_ ?_;(with_reducible refine (laws_toIntS.calls k _ _ l3 t692 _ ?side1 ?side2 A15.out).mono ?_);(case side1 => exact qn_ HR3 HB);(case side2 => exact HC3.out);rintro e w110 ⟨v693,rfl,ho0,hb⟩;refine ⟨_,rfl,?_⟩;have n0_:=mk_ (Kd.S_below (by (with_reducible repeat (first|apply Kd.S_alloc|apply Kd.S_drewN|apply Kd.S_drew));exact HO678.out) hb);have n1_:=mk_ (re_ (qr_ HO681) (Kd.R_base ho0) hb);have n2_:=mk_ (re_ (qr_ HO684) (Kd.R_base ho0) hb);have n3_:=mk_ (Kd.S_below (by (with_reducible repeat (first|apply Kd.S_alloc|apply Kd.S_drewN|apply Kd.S_drew));exact HO688.out) hb);have n4_:=mk_ (re_ (qr_ HO691) (Kd.R_base ho0) hb);have n5_:=mk_ (Kd.R_lower (Kd.R_new' (Kd.R_new' (Kd.R_new' ho0 (Kd.R_lt (qr_ HO681))) (Kd.R_lt (qr_ HO684))) (Kd.R_lt (qr_ HO691))) (bz_ (qb_ HB)));have n6_:=mk_ (st_ (qb_ HB) hb);clear HO678 HO681 HO684 HO688 HO691 HB;have HO678:=n0_;have HO681:=n1_;have HO684:=n2_;have HO688:=n3_;have HO691:=n4_;have HO694:=n5_;have HB:=n6_;clear n0_ n1_ n2_ n3_ n4_ n5_ n6_;(try clear hb);(try clear hb2);(try clear hk);(try clear hi);(try clear ho0);obtain ⟨Ao111,co111,eo111⟩:=Kd.S_slice HO688.out;subst eo111;obtain ⟨Ao112,co112,eo112⟩:=Kd.R_slice HO691.out;subst eo112;obtain ⟨Ao113,co113,eo113⟩:=Kd.R_slice HO694.out;subst eo113)|((with_reducible refine gate_callee (f:=16) rfl ?_);refine goesL_ (some 44) rfl rfl Try.func16 (by kernel_rfl) rfl #[.int .i64 a0,.slice Ao111 t686.length co111,.slice Ao112 t689.length co112,.slice Ao113 t692.length co113] rfl qm_ ?_;(with_reducible refine (impl_LinkRounds.calls a0 _ _ t686 _ _ t689 _ _ t692 t695 _ ?side1 ?side2 ?side3 ?side4 ?side5 ?side6 A16.out).mono ?_);(case side1 => repeat (first|exact (Kd.S_reads' HO688.out).2.2|(with_reducible refine ca_ ?_ _)|(with_reducible refine cn_ ?_ _)|(with_reducible refine cd_ ?_)));(case side2 => exact (Kd.S_reads' HO688.out).2.1);(case side3 => repeat (first|exact (rr_ HO691.out).2.2|(with_reducible refine ca_ ?_ _)|(with_reducible refine cn_ ?_ _)|(with_reducible refine cd_ ?_)));(case side4 => exact (rr_ HO691.out).2.1);(case side5 => repeat (first|exact (rr_ HO694.out).2.2|(with_reducible refine ca_ ?_ _)|(with_reducible refine cn_ ?_ _)|(with_reducible refine cd_ ?_)));(case side6 => exact (rr_ HO694.out).2.1);rintro e w114 ⟨rfl,hb⟩;refine ⟨_,rfl,?_⟩;have n0_:=mk_ (Kd.S_below (by (with_reducible repeat (first|apply Kd.S_alloc|apply Kd.S_drewN|apply Kd.S_drew));exact HO678.out) hb);have n1_:=mk_ (rb_ (qr_ HO681) hb);have n2_:=mk_ (rb_ (qr_ HO684) hb);have n3_:=mk_ (Kd.S_below (by (with_reducible repeat (first|apply Kd.S_alloc|apply Kd.S_drewN|apply Kd.S_drew));exact HO688.out) hb);have n4_:=mk_ (rb_ (qr_ HO691) hb);have n5_:=mk_ (rb_ (qr_ HO694) hb);have n6_:=mk_ (st_ (qb_ HB) hb);clear HO678 HO681 HO684 HO688 HO691 HO694 HB;have HO678:=n0_;have HO681:=n1_;have HO684:=n2_;have HO688:=n3_;have HO691:=n4_;have HO694:=n5_;have HB:=n6_;clear n0_ n1_ n2_ n3_ n4_ n5_ n6_;(try clear hb);(try clear hb2);(try clear hk);(try clear hi)))
     go_ret
     exact ⟨qe_,u0_ HB⟩

/-- The pure statement of laws_FnExactLinkRounds. -/
def laws_FnExactLinkRounds.Pure : Prop:=∀ (a0 : Int) (l1 : List (List Int)) (l2 : List Int) (l3 : List Int),(Lit.int .i64 a0).wf = true → (l1.length ≤ maxLen ∧ ∀ y0 ∈ l1,(y0.length ≤ maxLen ∧ ∀ y1 ∈ y0,(Lit.int .u8 y1).wf = true)) → l2.length ≤ maxLen → l2.length * 8 ≤ 140737488351232 → (∀ x ∈ l2,(Lit.int .i64 x).wf = true) → l3.length ≤ maxLen → l3.length * 8 ≤ 140737488351232 → (∀ x ∈ l3,(Lit.int .i64 x).wf = true) → ∃ k,laws_FnExactLinkRounds.f k a0 l1 l2 l3 = some true
theorem laws_FnExactLinkRounds.walk (P : laws_FnExactLinkRounds.Pure) (a0 : Int) (A1 : Option Addr) (c1 : Nat) (l1 : List (List Int)) (a2 : Option Addr) (len2 cap2 : Nat) (z2 : List Int) (a3 : Option Addr) (len3 cap3 : Nat) (z3 : List Int) (w : World) (w0 : (Lit.int .i64 a0).wf = true) (hr1 : Kd.C (Kd.slice 5 (Kd.int .u8)) w A1 l1.length l1) (hc1 : l1.length ≤ c1) (hm1 : (l1.length ≤ maxLen ∧ ∀ y0 ∈ l1,(y0.length ≤ maxLen ∧ ∀ y1 ∈ y0,(Lit.int .u8 y1).wf = true))) (w2 : (a2 = none ∧ len2 = 0 ∧ cap2 = 0 ∧ z2 = []) ∨ ∃ x,a2 = some x ∧ len2 ≤ cap2 ∧ cap2 ≤ maxLen ∧ z2.length = cap2 ∧ (∀ i,i < z2.length → w.cell? (x.add i) = some (.int .i64 (z2.getD i 0))) ∧ ∀ n ∈ z2,(Lit.int .i64 n).wf = true) (y2 : len2 * 8 ≤ 140737488351232) (w3 : (a3 = none ∧ len3 = 0 ∧ cap3 = 0 ∧ z3 = []) ∨ ∃ x,a3 = some x ∧ len3 ≤ cap3 ∧ cap3 ≤ maxLen ∧ z3.length = cap3 ∧ (∀ i,i < z3.length → w.cell? (x.add i) = some (.int .i64 (z3.getD i 0))) ∧ ∀ n ∈ z3,(Lit.int .i64 n).wf = true) (y3 : len3 * 8 ≤ 140737488351232) :
  Calls Try.prog 4 #[.int .i64 a0,.slice A1 l1.length c1,.slice a2 len2 cap2,.slice a3 len3 cap3] w fun e w' => e = .returned (.bool true) ∧ Below w.heap.size w w':=by
 obtain ⟨l2,rfl,hr2,hm2,hw2,hc2⟩:=ReadsInt.ofRowC w2
 obtain ⟨l3,rfl,hr3,hm3,hw3,hc3⟩:=ReadsInt.ofRowC w3
 obtain ⟨k,h⟩:=P a0 l1 l2 l3 w0 hm1 hm2 y2 hw2 hm3 y3 hw3
 refine (laws_FnExactLinkRounds.calls k a0 _ _ l1 _ _ l2 _ _ l3 true _ hr1 hc1 (Kd.C_of_reads (d:=(0 : Int)) (h1:=fun _ => rfl) hr2) hc2 (Kd.C_of_reads (d:=(0 : Int)) (h1:=fun _ => rfl) hr3) hc3 h).mono ?_
 rintro e w' ⟨rfl,hd⟩
 exact ⟨rfl,hd⟩

-- LIB pints
/-- A copy of a list of numbers is that list. -/
theorem toIntS_at (l : List Int) (hl : l.length ≤ 1048576) (d : Nat) : ∀ (k i : Nat) (x : List Int),i + d = l.length → x.length = l.length → x.take i = l.take i → d < k → laws_toIntS.l0 k l x (i : Int) = some l:=by
  induction d with
  | zero =>
    intro k i x h1 h2 h3 hk
    obtain ⟨k,rfl⟩ : ∃ m,k = m + 1:=⟨k - 1,by omega⟩
    simp only [laws_toIntS.l0]
    rw [if_neg (by omega)]
    have e1 : x.take i = x:=List.take_of_length_le (by omega)
    have e2 : l.take i = l:=List.take_of_length_le (by omega)
    rw [← e1,h3,e2]
  | succ d ih =>
    intro k i x h1 h2 h3 hk
    obtain ⟨k,rfl⟩ : ∃ m,k = m + 1:=⟨k - 1,by omega⟩
    simp only [laws_toIntS.l0]
    rw [if_pos (by omega),if_pos (by omega),if_pos (by omega),wrap_succ (show i < l.length by omega) (by omega),rd_get l i (by omega),Int.toNat_natCast]
    refine ih k (i + 1) (x.set i l[i]) (by omega) (by rw [List.length_set];exact h2) ?_ (by omega)
    rw [List.take_add_one,List.take_add_one,List.take_set,List.getElem?_set_self (by omega),List.getElem?_eq_getElem (by omega),List.set_eq_of_length_le (by rw [List.length_take];omega),h3]
theorem toIntS_eq (l : List Int) (hl : l.length ≤ 1048576) (k : Nat) (hk : l.length < k) : laws_toIntS.f k l = some l:=by
  unfold laws_toIntS.f
  rw [if_pos (by omega),if_pos (by omega)]
  exact toIntS_at l hl l.length k 0 _ (by omega) (by simp) (by simp) hk
theorem eqIntS_at (l : List Int) (hl : l.length ≤ 9223372036854775807) (d : Nat) : ∀ (k i : Nat),i + d = l.length → d < k → laws_eqIntS.l0 k l l (i : Int) = some true:=by
  induction d with
  | zero =>
    intro k i h1 hk
    obtain ⟨k,rfl⟩ : ∃ m,k = m + 1:=⟨k - 1,by omega⟩
    simp only [laws_eqIntS.l0]
    rw [if_neg (by omega)]
  | succ d ih =>
    intro k i h1 hk
    obtain ⟨k,rfl⟩ : ∃ m,k = m + 1:=⟨k - 1,by omega⟩
    simp only [laws_eqIntS.l0]
    rw [if_pos (by omega),if_pos (by omega),if_pos (by omega),if_pos trivial,wrap_succ (show i < l.length by omega) (by omega)]
    exact ih k (i + 1) (by omega) (by omega)
theorem eqIntS_eq (l : List Int) (hl : l.length ≤ 9223372036854775807) (k : Nat) (hk : l.length < k) : laws_eqIntS.f k l l = some true:=by
  unfold laws_eqIntS.f
  rw [if_pos rfl]
  exact eqIntS_at l hl l.length k 0 (by omega) hk

-- LIB pbytess
theorem tbS_at (l : List Int) (hl : l.length ≤ 1048576) (d : Nat) : ∀ (i : Nat) (x : List Int),i + d = l.length → x.length = l.length → x.take i = l.take i → ∀ k,d < k → laws_toByteS.l0 k l x (i : Int) = some l:=by
  induction d with
  | zero =>
    intro i x hi hx he k hk
    obtain ⟨k,rfl⟩ : ∃ m,k = m + 1:=⟨k - 1,by omega⟩
    simp only [laws_toByteS.l0]
    rw [if_neg (by omega)]
    rw [List.take_of_length_le (by omega),List.take_of_length_le (by omega)] at he
    rw [he]
  | succ d ih =>
    intro i x hi hx he k hk
    obtain ⟨k,rfl⟩ : ∃ m,k = m + 1:=⟨k - 1,by omega⟩
    have hi2 : i < l.length:=by omega
    have hi3 : i < x.length:=by omega
    simp only [laws_toByteS.l0]
    rw [if_pos (by omega),if_pos (by omega),if_pos (by omega),Int.toNat_natCast,wrap_eq (by omega) (by omega),rd_get l i hi2]
    refine ih (i + 1) _ (by omega) (by rw [List.length_set];exact hx) ?_ k (by omega)
    rw [List.take_succ_eq_append_getElem hi2,List.take_succ_eq_append_getElem (by rw [List.length_set];exact hi3),List.take_set_of_le (Nat.le_refl i),he,List.getElem_set_self]
theorem tbS_eq (l : List Int) (hl : l.length ≤ 1048576) (k : Nat) (hk : l.length < k) : laws_toByteS.f k l = some l:=by
  unfold laws_toByteS.f
  rw [if_pos (by omega),Int.toNat_natCast,if_pos (by omega)]
  exact tbS_at l hl l.length 0 (List.replicate l.length 0) (by omega) (by simp) (by simp) k hk
theorem tbSS_at (l : List (List Int)) (hl : l.length ≤ 1048576) (hb : ∀ y ∈ l,y.length ≤ 1048576) (d : Nat) : ∀ (i : Nat) (x : List (List Int)),i + d = l.length → x.length = l.length → x.take i = l.take i → ∀ k,1048576 + d < k → laws_toByteSS.l0 k l x (i : Int) = some l:=by
  induction d with
  | zero =>
    intro i x hi hx he k hk
    obtain ⟨k,rfl⟩ : ∃ m,k = m + 1:=⟨k - 1,by omega⟩
    simp only [laws_toByteSS.l0]
    rw [if_neg (by omega)]
    rw [List.take_of_length_le (by omega),List.take_of_length_le (by omega)] at he
    rw [he]
  | succ d ih =>
    intro i x hi hx he k hk
    obtain ⟨k,rfl⟩ : ∃ m,k = m + 1:=⟨k - 1,by omega⟩
    have hi2 : i < l.length:=by omega
    have hi3 : i < x.length:=by omega
    have hr : rd_L4 l (i : Int) = l[i]:=by simp [rd_L4,List.getD_eq_getElem?_getD,hi2]
    have hy:=hb _ (List.getElem_mem hi2)
    simp only [laws_toByteSS.l0]
    rw [if_pos (by omega),if_pos (by omega),hr,tbS_eq _ hy k (by omega),Option.bind_some,if_pos (by omega),Int.toNat_natCast,wrap_eq (by omega) (by omega)]
    refine ih (i + 1) _ (by omega) (by rw [List.length_set];exact hx) ?_ k (by omega)
    rw [List.take_succ_eq_append_getElem hi2,List.take_succ_eq_append_getElem (by rw [List.length_set];exact hi3),List.take_set_of_le (Nat.le_refl i),he,List.getElem_set_self]
theorem tbSS_eq (l : List (List Int)) (hl : l.length ≤ 1048576) (hb : ∀ y ∈ l,y.length ≤ 1048576) (k : Nat) (hk : 3000000 < k) : laws_toByteSS.f k l = some l:=by
  unfold laws_toByteSS.f
  rw [if_pos (by omega),Int.toNat_natCast,if_pos (by omega)]
  exact tbSS_at l hl hb l.length 0 (List.replicate l.length []) (by omega) (by simp) (by simp) k (by omega)
theorem eqS_at (l : List Int) (hl : l.length ≤ 1048576) (d : Nat) : ∀ i : Nat,i + d = l.length → ∀ k,d < k → laws_eqByteS.l0 k l l (i : Int) = some true:=by
  induction d with
  | zero =>
    intro i hi k hk
    obtain ⟨k,rfl⟩ : ∃ m,k = m + 1:=⟨k - 1,by omega⟩
    simp only [laws_eqByteS.l0]
    rw [if_neg (by omega)]
  | succ d ih =>
    intro i hi k hk
    obtain ⟨k,rfl⟩ : ∃ m,k = m + 1:=⟨k - 1,by omega⟩
    simp only [laws_eqByteS.l0]
    rw [if_pos (by omega),if_pos (by omega),if_pos (by omega),if_pos trivial,wrap_eq (by omega) (by omega)]
    exact ih (i + 1) (by omega) k (by omega)
theorem eqS_eq (l : List Int) (hl : l.length ≤ 1048576) (k : Nat) (hk : l.length < k) : laws_eqByteS.f k l l = some true:=by
  unfold laws_eqByteS.f
  rw [if_pos rfl]
  exact eqS_at l hl l.length 0 (by omega) k hk
theorem eqSS_at (l : List (List Int)) (hl : l.length ≤ 1048576) (hb : ∀ y ∈ l,y.length ≤ 1048576) (d : Nat) : ∀ i : Nat,i + d = l.length → ∀ k,1048576 + d < k → laws_eqByteSS.l0 k l l (i : Int) = some true:=by
  induction d with
  | zero =>
    intro i hi k hk
    obtain ⟨k,rfl⟩ : ∃ m,k = m + 1:=⟨k - 1,by omega⟩
    simp only [laws_eqByteSS.l0]
    rw [if_neg (by omega)]
  | succ d ih =>
    intro i hi k hk
    obtain ⟨k,rfl⟩ : ∃ m,k = m + 1:=⟨k - 1,by omega⟩
    have hi2 : i < l.length:=by omega
    have hr : rd_L4 l (i : Int) = l[i]:=by simp [rd_L4,List.getD_eq_getElem?_getD,hi2]
    have hy:=hb _ (List.getElem_mem hi2)
    simp only [laws_eqByteSS.l0]
    rw [if_pos (by omega),if_pos (by omega),if_pos (by omega),hr,eqS_eq _ hy k (by omega),Option.bind_some,if_pos rfl,wrap_eq (by omega) (by omega)]
    exact ih (i + 1) (by omega) k (by omega)
theorem eqSS_eq (l : List (List Int)) (hl : l.length ≤ 1048576) (hb : ∀ y ∈ l,y.length ≤ 1048576) (k : Nat) (hk : 3000000 < k) : laws_eqByteSS.f k l l = some true:=by
  unfold laws_eqByteSS.f
  rw [if_pos rfl]
  exact eqSS_at l hl hb l.length 0 (by omega) k (by omega)
theorem szSS_at (l : List (List Int)) (hm : ∀ y ∈ l,y.length ≤ maxLen) (hl : l.length ≤ 1048576) (d : Nat) : ∀ (i : Nat) (left : Int),i + d = l.length → 0 ≤ left → left ≤ 1048576 → ∃ t,(∀ k,d < k → laws_szByteSS.l0 k l left (i : Int) = some t) ∧ (0 ≤ t → ∀ y ∈ l.drop i,y.length ≤ 1048576):=by
  induction d with
  | zero =>
    intro i left hi h0 h1
    refine ⟨left,fun k hk => ?_,fun _ y hy => ?_⟩
    · obtain ⟨k,rfl⟩ : ∃ m,k = m + 1:=⟨k - 1,by omega⟩
      simp only [laws_szByteSS.l0]
      rw [if_neg (by omega)]
    · rw [List.drop_eq_nil_of_le (by omega)] at hy;simp at hy
  | succ d ih =>
    intro i left hi h0 h1
    have hi2 : i < l.length:=by omega
    have hr : rd_L4 l (i : Int) = l[i]:=by simp [rd_L4,List.getD_eq_getElem?_getD,hi2]
    have hy:=hm _ (List.getElem_mem hi2)
    unfold maxLen at hy
    have hw : wrap64 (left - (l[i].length : Int)) = left - (l[i].length : Int):=wrap_eq (by omega) (by omega)
    by_cases c : left - (l[i].length : Int) < 0
    · refine ⟨-1,fun k hk => ?_,fun h => by omega⟩
      obtain ⟨k,rfl⟩ : ∃ m,k = m + 1:=⟨k - 1,by omega⟩
      simp only [laws_szByteSS.l0]
      unfold laws_szByteS.f
      rw [if_pos (by omega),if_pos (by omega),hr,hw,if_pos c,Option.bind_some,if_pos (by omega)]
    · obtain ⟨t,ht,hq⟩:=ih (i + 1) (left - (l[i].length : Int)) (by omega) (by omega) (by omega)
      refine ⟨t,fun k hk => ?_,fun h y hy2 => ?_⟩
      · obtain ⟨k,rfl⟩ : ∃ m,k = m + 1:=⟨k - 1,by omega⟩
        simp only [laws_szByteSS.l0]
        unfold laws_szByteS.f
        rw [if_pos (by omega),if_pos (by omega),hr,hw,if_neg c,Option.bind_some,if_neg c,wrap_eq (x:=(i : Int) + 1) (by omega) (by omega)]
        exact ht k (by omega)
      · rw [List.drop_eq_getElem_cons hi2] at hy2
        rcases List.mem_cons.1 hy2 with rfl | hy2
        · omega
        · exact hq h y hy2
theorem szSS_eq (l : List (List Int)) (hl : l.length ≤ maxLen) (hm : ∀ y ∈ l,y.length ≤ maxLen) : ∃ t,(∀ k,2000000 < k → laws_szByteSS.f k l 1048576 = some t) ∧ (¬ t < 0 → l.length ≤ 1048576 ∧ ∀ y ∈ l,y.length ≤ 1048576):=by
  unfold maxLen at hl
  have hw : wrap64 (1048576 - (l.length : Int)) = 1048576 - (l.length : Int):=wrap_eq (by omega) (by omega)
  by_cases c : 1048576 - (l.length : Int) < 0
  · refine ⟨-1,fun k hk => ?_,fun h => by omega⟩
    unfold laws_szByteSS.f
    rw [hw,if_pos c]
  · obtain ⟨t,ht,hq⟩:=szSS_at l hm (by omega) l.length 0 (1048576 - (l.length : Int)) (by omega) (by omega) (by omega)
    refine ⟨t,fun k hk => ?_,fun h => ⟨by omega,fun y hy => hq (by omega) y (by simpa using hy)⟩⟩
    unfold laws_szByteSS.f
    rw [hw,if_neg c]
    exact ht k (by omega)
theorem byteWf {l : List (List Int)} (h : ∀ y ∈ l,∀ x ∈ y,(Lit.int .u8 x).wf = true) : ∀ y ∈ l,∀ x ∈ y,0 ≤ x ∧ x < 256:=by
  intro y hy x hx
  have h':=h y hy x hx
  simp [Lit.wf,IntKind.min,IntKind.max,IntKind.signed,IntKind.bits] at h'
  omega

end Go.Proofs.Ytdpnloibbimblaa.PAll
