/- Proved here: contracts of functions of the given program, or lemmas on them, for the laws of this seat. Written by xprint.py, a program of this session, on the ground of the kit's print; parts by hand: wip/x/ext. -/
import Derived.Test.YtblcnbnphjnhdaaPAllx0
import Derived.Test.YtblcnbnphjnhdaaPAllx1
import Derived.Test.YtblcnbnphjnhdaaPAllx6
import Derived.Test.YtblcnbnphjnhdaaPAllx7
import Derived.Test.YtblcnbnphjnhdaaPAllx10
import Derived.Test.YtblcnbnphjnhdaaPAllx12
import Derived.Test.YtblcnbnphjnhdaaPAllx13
namespace Go.Proofs.Ytblcnbnphjnhdaa.PAll
open Go.RowKit Go.Proofs.YtblcnbnphjnhdaaW.PrintWords Go.Proofs.YtblcnbnphjnhdaaW.PrintLast Go.Proofs.YtblcnbnphjnhdaaW.PrintMore
attribute [local go_sem] max2_int min2_int max_two min_two max_three min_three max_four min_four   -- for this text's walks alone
set_option linter.unusedVariables false
set_option linter.unusedSimpArgs false

-- LIB lawonce
def onceAt (k : Nat) (n : Int) (cs : List S83) (hs vs : List Int) (x0 x1 : Int) (row : List Int) : Prop :=
 ∃ m,impl_MatesOf.f k n cs hs vs x0 = some m ∧ ((x1 = 15 ∧ laws_wnInts.f k row m = some true) ∨ (x1 ≠ 15 ∧ ((laws_wnHas.f k m x1 = some true ∧ laws_wnInts.f k row [x1] = some true) ∨ (laws_wnHas.f k m x1 = some false ∧ row = []))))

-- LIB lawonce
theorem once_ok {n : Int} {cs : List S83} {hs vs : List Int} {x0 x1 : Int} {tk ov : List Int} (h : MeetOK n cs hs vs x0 x1 tk ov) (k : Nat) (hk : 2000 < k) : onceAt k n cs hs vs x0 x1 tk:=by
 have hx:=matesX_len n cs hs vs x0
 have htl:=h.t_len
 refine ⟨_,imates_eq n cs hs vs _ k (by omega),?_⟩
 rw [wnInts_eq _ _ (by omega) k (by omega),wnHas_eq _ _ (by omega) k (by omega),wnInts_eq _ _ (by omega) k (by omega)]
 by_cases c : x1 = 15
 ·exact Or.inl ⟨c,by rw [decide_eq_true (h.t_all c)]⟩
 ·refine Or.inr ⟨c,?_⟩
  by_cases c2 : x1 ∈ matesX n cs hs vs x0
  ·exact Or.inl ⟨by rw [has_mates.2 c2],by rw [decide_eq_true (h.t_one c2)]⟩
  ·exact Or.inr ⟨by rw [Bool.eq_false_iff.2 (fun e => c2 (has_mates.1 e))],h.t_no c c2⟩

-- LIB lawonce
theorem run_once (n : Int) (cs : List S83) (hs vs : List Int) (l : List S37) : ∃ (tk ov : List (List Int)) (g : Bool), impl_RunNet.f n cs hs vs l = some (tk, ov, g) ∧ spec_RunNet.f n cs hs vs l = some (tk, ov, g) ∧ laws_wnPairs.f 4001 tk tk = some true ∧ laws_wnPairs.f 4001 ov ov = some true ∧
  (g = true → tk.length = l.length ∧ ov.length = l.length ∧ l.length ≤ 1000 ∧ ∀ i (hi : i < l.length),onceAt 4001 n cs hs vs l[i].f0 l[i].f1 (tk.getD i [])):=by
 obtain ⟨tk,ov,g,h1,h2,h3,h4,h5⟩:=run_both n cs hs vs l
 refine ⟨tk,ov,g,h1,h2,h3,h4,fun hg => ?_⟩
 obtain ⟨a1,a2,a3,a4⟩:=h5 hg
 exact ⟨a1,a2,a3,fun i hi => once_ok (a4 i hi).2.1 _ (by omega)⟩

/-! ### laws_FnNetOnce: function 3 (by hand) -/
def laws_FnNetOnce.f (k : Nat) (l0 : List Int) : Option (Bool) :=
 if l0.all (fun x => (Lit.int .u8 x).wf) = true then some true else none
set_option maxHeartbeats 4000000 in
set_option maxRecDepth 100000 in
theorem laws_FnNetOnce.calls (k : Nat) (A0 : Option Addr) (c0 : Nat) (l0 : List Int) (r : Bool) (w : World) (hr0 : Kd.C (Kd.int .u8) w A0 l0.length l0) (hc0 : l0.length ≤ c0) (h : laws_FnNetOnce.f k l0 = some r) :
  Calls Try.prog 3 #[.slice A0 l0.length c0] w fun e w' => e = .returned (.bool r) ∧ Below w.heap.size w w':=by
 unfold laws_FnNetOnce.f at h
 by_cases hw : l0.all (fun x => (Lit.int .u8 x).wf) = true
 ·rw [if_pos hw] at h
  obtain rfl:=Option.some.inj h
  have hu1:=Try.underlying26
  have hu2:=Try.underlying32
  have hu3:=Try.underlying37
  have hlen:=Kd.C_max hr0
  have HD:=mk_ (x_draw A0 c0 l0 w hr0 hc0 (List.all_eq_true.1 hw))
  by_cases cg : (l0.length : Int) > 1048576
  ·have p1 : (1048576 < (l0.length : Int)) = True:=eq_true cg
   clear h hr0 hc0 cg HD hw
   go_enter Try.func3,Try.ntmps3
   go_wp2
   go_ret
   exact ⟨rfl,Below.refl _ _⟩
  have p1 : (1048576 < (l0.length : Int)) = False:=eq_false cg
  clear h hr0 hc0 cg hw
  go_enter Try.func3,Try.ntmps3
  go_wp2_with fail
  refine HD.out.mono ?_
  rintro e w1 ⟨n,cs,hs,vs,l,v1,v2,v3,v4,rfl,h1,h2,h3,h4,hb1⟩
  obtain ⟨tk,ov,g,hA,hS,hP1,hP2,hL⟩:=run_once n cs hs vs l
  have HI:=mk_ (fun B1 d1 B2 d2 B3 d3 B4 d4 W g1 q1 g2 q2 g3_ q3 g4 q4 => impl_RunNet.calls n B1 d1 cs B2 d2 hs B3 d3 vs B4 d4 l tk ov g W g1 q1 g2 q2 g3_ q3 g4 q4 hA)
  have HS:=mk_ (fun B1 d1 B2 d2 B3 d3 B4 d4 W g1 q1 g2 q2 g3_ q3 g4 q4 => spec_RunNet.calls n B1 d1 cs B2 d2 hs B3 d3 vs B4 d4 l tk ov g W g1 q1 g2 q2 g3_ q3 g4 q4 hS)
  have HP1:=mk_ (fun B1 d1 B2 d2 W g1 q1 g2 q2 => laws_wnPairs.calls 4001 B1 d1 tk B2 d2 tk true W g1 q1 g2 q2 hP1)
  have HP2:=mk_ (fun B1 d1 B2 d2 W g1 q1 g2 q2 => laws_wnPairs.calls 4001 B1 d1 ov B2 d2 ov true W g1 q1 g2 q2 hP2)
  have HL:=mk_ hL
  clear hA hS hP1 hP2 hL
  obtain ⟨X1,x1,rfl⟩:=Kd.R_slice h1
  obtain ⟨X2,x2,rfl⟩:=Kd.R_slice h2
  obtain ⟨X3,x3,rfl⟩ : ∃ A c,v3 = .slice A vs.length c:=by
   obtain ⟨_,_,ho,_⟩:=h3
   obtain ⟨A',c',he,_⟩:=q_slice ho
   exact ⟨A',c',he⟩
  obtain ⟨X4,x4,rfl⟩:=Kd.R_slice h4
  have hba:=ba_ (Below.refl _ w1) (.cells #[.int .i64 n,.slice X1 cs.length x1,.slice X2 hs.length x2,.slice X3 vs.length x3] 26)
  have HN:=mk_ (blk_new w1 (.cells #[.int .i64 n,.slice X1 cs.length x1,.slice X2 hs.length x2,.slice X3 vs.length x3] 26))
  have HB:=mk_ (st_ hb1 hba)
  have H1:=mk_ (And.intro (rr_ h1).2.1 (cb_ (rr_ h1).2.2 hba))
  have H2:=mk_ (And.intro (rr_ h2).2.1 (cb_ (rr_ h2).2.2 hba))
  have H3:=mk_ (And.intro (Kd.Q_reads' h3).2.1 (cb_ (Kd.Q_reads' h3).2.2 hba))
  have H4:=mk_ (And.intro (rr_ h4).2.1 (cb_ (rr_ h4).2.2 hba))
  clear h1 h2 h3 h4 hb1 hba HD
  obtain ⟨n0,n1,n2,n3⟩:=nbox4 HN.out
  go_wp2_with fail
  refine (HI.out _ _ _ _ _ _ _ _ _ H1.out.2 H1.out.1 H2.out.2 H2.out.1 H3.out.2 H3.out.1 H4.out.2 H4.out.1).mono ?_
  generalize w1.heap.size = b3 at HN n0 n1 n2 n3 ⊢
  rintro e w2 ⟨v1,v2,rfl,h5,h6,hb2⟩
  obtain ⟨T1,t1,rfl⟩:=Kd.S_slice h5
  obtain ⟨O1,o1,rfl⟩:=Kd.S_slice h6
  have hba:=ba_ (Below.refl _ w2) (.cells #[.slice T1 tk.length t1,.slice O1 ov.length o1] 32)
  have HS5:=mk_ (blk_new w2 (.cells #[.slice T1 tk.length t1,.slice O1 ov.length o1] 32))
  have H5:=mk_ (And.intro (Kd.S_reads' h5).2.1 (cb_ (Kd.S_reads' h5).2.2 hba))
  have H6:=mk_ (And.intro (Kd.S_reads' h6).2.1 (cb_ (Kd.S_reads' h6).2.2 hba))
  have hb:=st_ hb2 hba
  replace HN:=mk_ (blk_below HN.out hb)
  replace HB:=mk_ (st_ HB.out hb)
  replace H1:=mk_ (And.intro H1.out.1 (cb_ H1.out.2 hb))
  replace H2:=mk_ (And.intro H2.out.1 (cb_ H2.out.2 hb))
  replace H3:=mk_ (And.intro H3.out.1 (cb_ H3.out.2 hb))
  replace H4:=mk_ (And.intro H4.out.1 (cb_ H4.out.2 hb))
  clear h5 h6 hb hb2 hba HI n0 n1 n2 n3
  obtain ⟨n0,n1,n2,n3⟩:=nbox4 HN.out
  go_wp2_with fail
  refine (HS.out _ _ _ _ _ _ _ _ _ H1.out.2 H1.out.1 H2.out.2 H2.out.1 H3.out.2 H3.out.1 H4.out.2 H4.out.1).mono ?_
  generalize w2.heap.size = b5 at HS5 ⊢
  rintro e w3 ⟨v1,v2,rfl,h5,h6,hb2⟩
  obtain ⟨T2,t2,rfl⟩:=Kd.S_slice h5
  obtain ⟨O2,o2,rfl⟩:=Kd.S_slice h6
  have hba:=ba_ (Below.refl _ w3) (.cells #[.slice T2 tk.length t2,.slice O2 ov.length o2] 32)
  have HS7:=mk_ (blk_new w3 (.cells #[.slice T2 tk.length t2,.slice O2 ov.length o2] 32))
  have H7:=mk_ (And.intro (Kd.S_reads' h5).2.1 (cb_ (Kd.S_reads' h5).2.2 hba))
  have H8:=mk_ (And.intro (Kd.S_reads' h6).2.1 (cb_ (Kd.S_reads' h6).2.2 hba))
  have hb:=st_ hb2 hba
  replace HN:=mk_ (blk_below HN.out hb)
  replace HS5:=mk_ (blk_below HS5.out hb)
  replace HB:=mk_ (st_ HB.out hb)
  replace H1:=mk_ (And.intro H1.out.1 (cb_ H1.out.2 hb))
  replace H2:=mk_ (And.intro H2.out.1 (cb_ H2.out.2 hb))
  replace H3:=mk_ (And.intro H3.out.1 (cb_ H3.out.2 hb))
  replace H4:=mk_ (And.intro H4.out.1 (cb_ H4.out.2 hb))
  replace H5:=mk_ (And.intro H5.out.1 (cb_ H5.out.2 hb))
  replace H6:=mk_ (And.intro H6.out.1 (cb_ H6.out.2 hb))
  clear h5 h6 hb hb2 hba HS n0 n1 n2 n3
  obtain ⟨s0,s1⟩:=nbox2 HS5.out
  obtain ⟨z0,z1⟩:=nbox2 HS7.out
  have HV:=mk_ (Below.refl (w3.alloc (.cells #[.slice T2 tk.length t2,.slice O2 ov.length o2] 32)).heap.size (w3.alloc (.cells #[.slice T2 tk.length t2,.slice O2 ov.length o2] 32)))
  cases g with
  | false =>
   go_wp2_with fail
   refine (HP1.out _ _ _ _ _ (cb_ H5.out.2 HV.out) H5.out.1 (cb_ H7.out.2 HV.out) H7.out.1).mono ?_
   rintro e wf0 ⟨rfl,hdf0⟩
   replace HV:=mk_ (st_ HV.out hdf0.below)
   generalize w3.alloc (.cells #[.slice T2 tk.length t2,.slice O2 ov.length o2] 32) = V at HN HS5 HS7 HB H1 H2 H3 H4 H5 H6 H7 H8 HV hdf0
   generalize w3.heap.size = b7 at HS7 ⊢
   clear hdf0 s0 s1 z0 z1
   obtain ⟨s0,s1⟩:=nbox2 (blk_below HS5.out HV.out)
   obtain ⟨z0,z1⟩:=nbox2 (blk_below HS7.out HV.out)
   go_wp2_with fail
   refine (HP2.out _ _ _ _ _ (cb_ H6.out.2 HV.out) H6.out.1 (cb_ H8.out.2 HV.out) H8.out.1).mono ?_
   rintro e wf1 ⟨rfl,hdf1⟩
   replace HV:=mk_ (st_ HV.out hdf1.below)
   clear hdf1 s0 s1 z0 z1
   obtain ⟨s0,s1⟩:=nbox2 (blk_below HS5.out HV.out)
   obtain ⟨z0,z1⟩:=nbox2 (blk_below HS7.out HV.out)
   go_wp2_with fail
   refine (HP1.out _ _ _ _ _ (cb_ H5.out.2 HV.out) H5.out.1 (cb_ H7.out.2 HV.out) H7.out.1).mono ?_
   rintro e wh0 ⟨rfl,hdh0⟩
   replace HV:=mk_ (st_ HV.out hdh0.below)
   clear hdh0 s0 s1 z0 z1
   obtain ⟨s0,s1⟩:=nbox2 (blk_below HS5.out HV.out)
   obtain ⟨z0,z1⟩:=nbox2 (blk_below HS7.out HV.out)
   go_wp2_with fail
   refine (HP2.out _ _ _ _ _ (cb_ H6.out.2 HV.out) H6.out.1 (cb_ H8.out.2 HV.out) H8.out.1).mono ?_
   rintro e wh1 ⟨rfl,hdh1⟩
   replace HV:=mk_ (st_ HV.out hdh1.below)
   clear hdh1 s0 s1 z0 z1
   obtain ⟨s0,s1⟩:=nbox2 (blk_below HS5.out HV.out)
   obtain ⟨z0,z1⟩:=nbox2 (blk_below HS7.out HV.out)
   go_wp2
   go_ret
   exact ⟨by first|rfl|simp,st_ HB.out HV.out⟩
  | true =>
   obtain ⟨hl1,hl2,hl3,hL⟩:=HL.out rfl
   have HLL:=mk_ (And.intro hl1 hl2)
   replace HL:=mk_ hL
   clear hl1 hl2 hL
   go_wp2_with fail
   refine (HP1.out _ _ _ _ _ (cb_ H5.out.2 HV.out) H5.out.1 (cb_ H7.out.2 HV.out) H7.out.1).mono ?_
   rintro e wt0 ⟨rfl,hdt0⟩
   replace HV:=mk_ (st_ HV.out hdt0.below)
   generalize w3.alloc (.cells #[.slice T2 tk.length t2,.slice O2 ov.length o2] 32) = V at HN HS5 HS7 HB H1 H2 H3 H4 H5 H6 H7 H8 HV hdt0
   generalize w3.heap.size = b7 at HS7 ⊢
   clear hdt0 s0 s1 z0 z1
   obtain ⟨s0,s1⟩:=nbox2 (blk_below HS5.out HV.out)
   obtain ⟨z0,z1⟩:=nbox2 (blk_below HS7.out HV.out)
   go_wp2_with fail
   refine (HP2.out _ _ _ _ _ (cb_ H6.out.2 HV.out) H6.out.1 (cb_ H8.out.2 HV.out) H8.out.1).mono ?_
   rintro e wt1 ⟨rfl,hdt1⟩
   replace HV:=mk_ (st_ HV.out hdt1.below)
   clear hdt1 s0 s1 z0 z1
   obtain ⟨s0,s1⟩:=nbox2 (blk_below HS5.out HV.out)
   obtain ⟨z0,z1⟩:=nbox2 (blk_below HS7.out HV.out)
   clear s0 s1 z0 z1 HS7 H7 H8 HP1 HP2
   go_wp2_with fail
   go_loopg [74] l.length (fun gg sx_ wr => ∃ (kk : Nat),kk ≤ l.length ∧ l.length - kk ≤ gg ∧ sx_ = .int .i64 (kk : Int) ∧ Aside0 (Below V.heap.size V wr))
   case atStart => exact ⟨0,Nat.zero_le _,by omega,rfl,HV⟩
   case round =>
    clear HV
    obtain ⟨kk,hkk,hgg,rfl,HV⟩:=hrel
    by_cases hlt : kk < l.length
    ·obtain ⟨ad,ea,hx0,hx1,hx2⟩:=at_T37 (cb_ H4.out.2 HV.out) (kk : Int) (by omega) (by omega)
     rw [Int.toNat_natCast,hop_at l kk hlt] at hx0 hx1 hx2
     subst ea
     have hask:=HL.out kk hlt
     obtain ⟨y0,hy0⟩ : ∃ x,l[kk].f0 = x:=⟨_,rfl⟩
     obtain ⟨y1,hy1⟩ : ∃ x,l[kk].f1 = x:=⟨_,rfl⟩
     obtain ⟨y2,hy2⟩ : ∃ x,l[kk].f2 = x:=⟨_,rfl⟩
     rw [hy0] at hx0 hask
     rw [hy1] at hx1 hask
     rw [hy2] at hx2
     clear hy0 hy1 hy2
     have p2 : ((kk : Int) < (l.length : Int)) = True:=eq_true (by omega)
     have p3 : (kk < l.length) = True:=eq_true hlt
     obtain ⟨m,hm,hcase⟩:=hask
     have HM:=mk_ (fun B1 d1 B2 d2 B3 d3 W g1 q1 g2 q2 g3_ q3 => impl_MatesOf.calls 4001 n B1 d1 cs B2 d2 hs B3 d3 vs y0 m W g1 q1 g2 q2 g3_ q3 hm)
     clear hm
     have hba:=ba_ (Below.refl _ wr) (.cells #[.int .i64 y0,.int .i64 y1,.int .i64 y2] 37)
     have HH:=mk_ (blk_new wr (.cells #[.int .i64 y0,.int .i64 y1,.int .i64 y2] 37))
     have HVU:=mk_ (st_ HV.out hba)
     obtain ⟨n0,n1,n2,n3⟩:=nbox4 (blk_below HN.out HVU.out)
     obtain ⟨h0,h1,_⟩:=nbox3 HH.out
     clear hba HV
     go_wp2_with fail
     refine (HM.out _ _ _ _ _ _ _ (cb_ H1.out.2 HVU.out) H1.out.1 (cb_ H2.out.2 HVU.out) H2.out.1 (cb_ H3.out.2 HVU.out) H3.out.1).mono ?_
     rintro e wa ⟨va,rfl,ha,hba⟩
     obtain ⟨F,fc,rfl⟩:=Kd.R_slice ha
     have HMA:=mk_ (rr_ ha).2
     have HVa:=mk_ (st_ HVU.out hba)
     replace HH:=mk_ (blk_below HH.out hba)
     clear ha hba n0 n1 n2 n3 h0 h1 hx0 hx1 hx2 p2 p3
     generalize wr.heap.size = bh at HH ⊢
     obtain ⟨h0,h1,_⟩:=nbox3 HH.out
     obtain ⟨ar,Ar,cr,ea2,hrow,hrl,hrc⟩:=at_L4 H5.out.2 (kk : Int) (by omega) (by have:=HLL.out.1;omega)
     rw [Int.toNat_natCast,row_at] at hrow
     rw [row_at] at hrl hrc
     subst ea2
     generalize tk.getD kk [] = rw_ at hrow hrl hrc hcase
     have HROW:=mk_ hrow
     have HRW:=mk_ (And.intro hrl hrc)
     have p4 : ((kk : Int) < (tk.length : Int)) = True:=eq_true (by have:=HLL.out.1;omega)
     have p5 : (kk < tk.length) = True:=eq_true (by have:=HLL.out.1;omega)
     clear hrow hrl hrc
     have s0:=(nbox2 (blk_below HS5.out HVa.out)).1
     have s1:=(HVa.out.cell (p:=ar.add kk) (wl_ V (ar.add kk) HROW.out)).trans HROW.out
     rcases hcase with ⟨h15,hj⟩|⟨h15,⟨hh,hj⟩|⟨hh,hro⟩⟩
     ·have r1 : (y1 = 15) = True:=eq_true h15
      have r2 : (y1 == 15) = true:=beq_iff_eq.mpr h15
      clear h15
      go_wp2_with fail
      refine (laws_wnInts.calls 4001 Ar cr rw_ F fc m true wa (cb_ HRW.out.2 HVa.out) HRW.out.1 HMA.out.2 HMA.out.1 hj).mono ?_
      rintro e wb ⟨rfl,hb_⟩
      have HVb:=mk_ (st_ HVa.out hb_.below)
      clear hb_ r1 r2
      go_wp2
      go_roundg (l.length - (kk + 1))
      case measure => omega
      case rel => exact ⟨kk + 1,by omega,by omega,by first|rfl|simp [wrap_eq (x:=(kk : Int) + 1) (by omega) (by omega)]|(rw [wrap_eq (by omega) (by omega)];rfl),HVb⟩
     ·have r1 : (y1 = 15) = False:=eq_false h15
      have r2 : (y1 == 15) = false:=beq_eq_false_iff_ne.mpr h15
      clear h15
      go_wp2_with fail
      refine (laws_wnHas.calls 4001 F fc m y1 true wa HMA.out.2 HMA.out.1 hh).mono ?_
      rintro e wb ⟨rfl,hb_⟩
      have HVb:=mk_ (st_ HVa.out hb_.below)
      have HHb:=mk_ (blk_below HH.out hb_.below)
      clear hb_ r1 r2 s0 s1 hh h0 h1
      have z0:=(nbox2 (blk_below HS5.out HVb.out)).1
      have z1:=(HVb.out.cell (p:=ar.add kk) (wl_ V (ar.add kk) HROW.out)).trans HROW.out
      have z2:=(nbox3 HHb.out).2.1
      go_upto_region 16 with (fail)
      refine start_ (n:=10) (S:=fun w' => w'.cell? ⟨b5,0,none⟩ = some (.slice (some ar) tk.length t1) ∧ w'.cell? (ar.add kk) = some (.slice Ar rw_.length cr) ∧ w'.cell? ⟨bh,1,none⟩ = some (.int .i64 y1)) (ds:=[]) #[false,false,false,false,false,false,false,false,false,false] (by kernel_rfl) rfl rfl ⟨z0,z1,z2⟩ (fun hHeld => ?_)
      refine pu_ (i:=0) (N:=some 100) 10 1 ?_
      refine pu_ (i:=2) (N:=some 102) 10 5 ?_
      refine pu_ (i:=5) (N:=some 105) 10 37 ?_
      refine ta3_ (i:=1) (N:=some 101) 10 39 hHeld ?_
      refine pu_ (i:=3) (N:=some 103) 10 47 ?_
      refine ta3_ (i:=4) (N:=some 104) 10 63 hHeld ?_
      refine ta3_ (i:=6) (N:=some 106) 10 127 hHeld ?_
      refine on_ (i:=7) (N:=some 107) 10 255 (fun K hK => ?_)
      refine value_ (w1:=?_) (v:=?_) (by rfl) rfl ?_ ?_
      rotate_left 2
      ·go_simp
       constructor
       ·rfl
       ·rfl
      have HLC:=mk_ (C_ints (W:=wb.alloc (.cells #[.int .i64 y1] 3)) (b:=wb.heap.size) (t:=3) [y1] (blk_new wb (.cells #[.int .i64 y1] 3)) (by simp))
      have HVc:=mk_ (st_ HVb.out (ba_ (Below.refl _ wb) (.cells #[.int .i64 y1] 3)))
      have HJ : Aside0 (Calls Try.prog 13 #[.slice Ar rw_.length cr,.slice (some ⟨wb.heap.size,0,none⟩) 1 1] (wb.alloc (.cells #[.int .i64 y1] 3)).drew fun e w' => e = .returned (.bool true) ∧ Drawn0 (wb.alloc (.cells #[.int .i64 y1] 3)).drew w'):=⟨laws_wnInts.calls 4001 Ar cr rw_ (some ⟨wb.heap.size,0,none⟩) 1 [y1] true _ (cd_ (cb_ HRW.out.2 HVc.out)) HRW.out.1 (cd_ HLC.out) (Nat.le_refl _) hj⟩
      have c0 : (wb.alloc (.cells #[.int .i64 y1] 3)).cell? ⟨b5,0,none⟩ = some (.slice (some ar) tk.length t1):=(nbox2 (blk_below HS5.out HVc.out)).1
      have c1 : (wb.alloc (.cells #[.int .i64 y1] 3)).cell? (ar.add kk) = some (.slice Ar rw_.length cr):=(HVc.out.cell (p:=ar.add kk) (wl_ V (ar.add kk) HROW.out)).trans HROW.out
      have c2 : (wb.alloc (.cells #[.int .i64 y1] 3)).cell? ⟨bh,1,none⟩ = some (.int .i64 y1):=(nbox3 (ka_ HHb.out _)).2.1
      refine hK.out _ _ ⟨c0,c1,c2⟩ (fun hHeld => ?_)
      clear hK K
      refine norm_ (a':=?_) ?_ ?_
      rotate_left
      ·show Act.put _ (some 107) _ = _
       simp only [Act.put,sx_,sy_,sz_,i64_w,i32_w]
       rfl
      refine on_ (i:=8) (N:=some 108) 10 511 (fun K hK => ?_)
      refine goes_ Try.func13 (by kernel_rfl) rfl #[.slice Ar rw_.length cr,.slice (some ⟨wb.heap.size,0,none⟩) 1 1] (by rfl) rfl rfl (by simp only [List.map_toArray,List.map_cons,List.map_nil];rfl) ?_
      with_reducible refine (HJ.out).mono ?_
      rintro e wd ⟨rfl,hd⟩
      refine ⟨_,rfl,?_⟩
      have HVd:=mk_ (st_ (bd_ HVc.out) hd.below)
      have d0:=(nbox2 (blk_below HS5.out HVd.out)).1
      have d1:=(HVd.out.cell (p:=ar.add kk) (wl_ V (ar.add kk) HROW.out)).trans HROW.out
      have d2:=(nbox3 (blk_below (kd_ (ka_ HHb.out (.cells #[.int .i64 y1] 3))) hd.below)).2.1
      clear hd
      refine hK.out _ _ ⟨d0,d1,d2⟩ (fun hHeld => ?_)
      clear hK K
      refine norm_ (a':=?_) ?_ ?_
      rotate_left
      ·show Act.put _ (some 108) _ = _
       simp only [Act.put,sx_,sy_,sz_,i64_w,i32_w]
       rfl
      refine pu_ (i:=9) (N:=some 109) 10 1023 ?_
      refine done_ (by kernel_rfl) ?_

      go_wp2
      go_roundg (l.length - (kk + 1))
      case measure => omega
      case rel => exact ⟨kk + 1,by omega,by omega,by first|rfl|simp [wrap_eq (x:=(kk : Int) + 1) (by omega) (by omega)]|(rw [wrap_eq (by omega) (by omega)];rfl),HVd⟩
     ·have r1 : (y1 = 15) = False:=eq_false h15
      have r2 : (y1 == 15) = false:=beq_eq_false_iff_ne.mpr h15
      clear h15
      subst hro
      go_wp2_with fail
      refine (laws_wnHas.calls 4001 F fc m y1 false wa HMA.out.2 HMA.out.1 hh).mono ?_
      rintro e wb ⟨rfl,hb_⟩
      have HVb:=mk_ (st_ HVa.out hb_.below)
      clear hb_ r1 r2 s0 s1 hh
      have s0:=(nbox2 (blk_below HS5.out HVb.out)).1
      have s1:=(HVb.out.cell (p:=ar.add kk) (wl_ V (ar.add kk) HROW.out)).trans HROW.out
      go_wp2
      go_roundg (l.length - (kk + 1))
      case measure => omega
      case rel => exact ⟨kk + 1,by omega,by omega,by first|rfl|simp [wrap_eq (x:=(kk : Int) + 1) (by omega) (by omega)]|(rw [wrap_eq (by omega) (by omega)];rfl),HVb⟩
    ·have hkl : kk = l.length:=by omega
     subst hkl
     have p2 : ((l.length : Int) < (l.length : Int)) = False:=eq_false (by omega)
     have s0:=(nbox2 (blk_below HS5.out HV.out)).1
     have hq:=HLL.out.1
     have hq2 : ((tk.length : Int) == (l.length : Int)) = true:=by rw [hq];simp
     clear hq
     go_wp2
     go_ret
     exact ⟨by first|rfl|simp [hq2]|(rw [hq2]),st_ HB.out HV.out⟩
 ·rw [if_neg hw] at h
  cases h

/-- The pure statement of laws_FnNetOnce. -/
def laws_FnNetOnce.Pure : Prop:=∀ (l0 : List Int),l0.length ≤ maxLen → l0.length * 1 ≤ 140737488351232 → (∀ x ∈ l0,(Lit.int .u8 x).wf = true) → ∃ k,laws_FnNetOnce.f k l0 = some true
theorem laws_FnNetOnce.walk (P : laws_FnNetOnce.Pure) (a0 : Option Addr) (len0 cap0 : Nat) (z0 : List Int) (w : World) (w0 : (a0 = none ∧ len0 = 0 ∧ cap0 = 0 ∧ z0 = []) ∨ ∃ x,a0 = some x ∧ len0 ≤ cap0 ∧ cap0 ≤ maxLen ∧ z0.length = cap0 ∧ (∀ i,i < z0.length → w.cell? (x.add i) = some (.int .u8 (z0.getD i 0))) ∧ ∀ n ∈ z0,(Lit.int .u8 n).wf = true) (y0 : len0 * 1 ≤ 140737488351232) :
  Calls Try.prog 3 #[.slice a0 len0 cap0] w fun e w' => e = .returned (.bool true) ∧ Below w.heap.size w w':=by
 obtain ⟨l0,rfl,hr0,hm0,hw0,hc0⟩:=ReadsInt.ofRowC w0
 obtain ⟨k,h⟩:=P l0 hm0 y0 hw0
 refine (laws_FnNetOnce.calls k _ _ l0 true _ (Kd.C_of_reads (d:=(0 : Int)) (h1:=fun _ => rfl) hr0) hc0 h).mono ?_
 rintro e w' ⟨rfl,hd⟩
 exact ⟨rfl,hd⟩

end Go.Proofs.Ytblcnbnphjnhdaa.PAll
