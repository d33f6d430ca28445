/- Proved here: contracts of functions of the given program, or lemmas on them, for the laws of this seat. Written by xprint.py, a program of this session, on the ground of the kit's print; parts by hand: wip/x/ext. -/
import Derived.Test.YtdpnloibbimblaaPAllx0
import Derived.Test.YtdpnloibbimblaaPAllx1
import Derived.Test.YtdpnloibbimblaaPAllx2
import Derived.Test.YtdpnloibbimblaaPAllx3
namespace Go.Proofs.Ytdpnloibbimblaa.PAll
open Go.RowKit Go.Proofs.YtdpnloibbimblaaW.PrintWords Go.Proofs.YtdpnloibbimblaaW.PrintLast Go.Proofs.YtdpnloibbimblaaW.PrintMore
attribute [local go_sem] max2_int min2_int max_two min_two max_three min_three max_four min_four   -- for this text's walks alone
set_option linter.unusedVariables false
set_option linter.unusedSimpArgs false

-- LIB runlink
set_option maxHeartbeats 16000000 in
set_option maxRecDepth 1000000 in
theorem x_RunLink (win rounds : Nat) (A1 : Option Addr) (c1 : Nat) (l1 : List (List Int)) (A2 : Option Addr) (c2 : Nat) (l2 : List Int) (A3 : Option Addr) (c3 : Nat) (l3 : List Int) (w : World) (hok : linkB win l1 l2 l3 rounds = true) (hby : ∀ b ∈ l1, BytesL b)
    (hr1 : Kd.C (Kd.slice 5 (Kd.int .u8)) w A1 l1.length l1) (hc1 : l1.length ≤ c1) (hr2 : Kd.C (Kd.int .i64) w A2 l2.length l2) (hc2 : l2.length ≤ c2) (hr3 : Kd.C (Kd.int .i64) w A3 l3.length l3) (hc3 : l3.length ≤ c3) :
    Calls Try.prog 10 #[.int .i64 win,.slice A1 l1.length c1,.slice A2 l2.length c2,.slice A3 l3.length c3,.int .i64 rounds] w fun e w' => ∃ v : Value,
      e = .returned (.tuple #[.agg #[v,.int .i64 (runL win l1 l2 l3 rounds startL).rounds,.int .i64 (((runL win l1 l2 l3 rounds startL).so : Int) + (runL win l1 l2 l3 rounds startL).si),.bool (decide (l1.length ≤ (runL win l1 l2 l3 rounds startL).known))],.bool true]) ∧
      Kd.S (Kd.slice 5 (Kd.int .u8)) 22 w' w.heap.size (fun _ => True) v (runL win l1 l2 l3 rounds startL).got ∧ Below w.heap.size w w':=by
  have hu:=Try.underlying28
  have hu2:=Try.underlying52
  have hb0 : Below w.heap.size w (w.alloc (.cells #[.slice none 0 0,.int .i64 0,.int .i64 0,.bool false] 28)):=below_alloc (Below.refl _ w) _
  have hn0:=blk_new w (.cells #[.slice none 0 0,.int .i64 0,.int .i64 0,.bool false] 28)
  have hlk:=fun W (hW : Below w.heap.size w W) => impl_linkOk.calls win A1 c1 l1 A2 c2 l2 A3 c3 l3 rounds true W (Kd.C_below hr1 hW) hc1 (Kd.C_below hr2 hW) hc2 (Kd.C_below hr3 hW) hc3 (by show some _ = some _;rw [hok])
  have hb:=hok
  unfold linkB at hb
  simp only [Bool.and_eq_true,decide_eq_true_eq,List.all_eq_true] at hb
  obtain ⟨⟨hw1,hw2⟩,hn,hll,hf2,hf3,hro0,hro⟩:=hb
  have HR1:=Aside0.mk hr1
  have HR2:=Aside0.mk hr2
  have HR3:=Aside0.mk hr3
  have HC2:=Aside0.mk hc2
  have HC3:=Aside0.mk hc3
  have HLL:=Aside0.mk hll
  have HBY:=Aside0.mk hby
  have HF2:=Aside0.mk hf2
  have HF3:=Aside0.mk hf3
  have HB0:=Aside0.mk hb0
  have HN0:=Aside0.mk hn0
  have HLK:=Aside0.mk hlk
  obtain ⟨fin,hfin⟩ : ∃ fin,fin = runL win l1 l2 l3 rounds startL:=⟨_,rfl⟩
  rw [← hfin]
  have HFIN:=Aside0.mk hfin
  clear hr1 hr2 hr3 hc1 hc2 hc3 hll hby hf2 hf3 hb0 hn0 hlk hok hfin
  go_enter Try.func10,Try.ntmps10
  go_wp2_with fail
  refine (HLK.out _ HB0.out).mono ?_
  rintro e w1 ⟨rfl,hb1⟩
  have HB1:=Aside0.mk (below_step HB0.out hb1)
  have HN1:=Aside0.mk (blk_below HN0.out hb1)
  have HS1 : Aside0 (w.heap.size + 1 ≤ w1.heap.size):=⟨by have:=hb1.size;simp at this;omega⟩
  clear hb1 HB0 HN0 HLK
  go_wp2_with fail
  have hba:=below_alloc (below_alloc (below_alloc HB1.out (.cells #[.slice none 0 0,.int .i64 0,.int .i64 0,.bool false] 28)) (.cells #[.slice A2 l2.length c2,.int .i64 0] 52)) (.cells #[.slice A3 l3.length c3,.int .i64 0] 52)
  have hz1 : (w1.alloc (.cells #[.slice none 0 0,.int .i64 0,.int .i64 0,.bool false] 28)).heap.size = w1.heap.size + 1:=by simp
  have hz2 : ((w1.alloc (.cells #[.slice none 0 0,.int .i64 0,.int .i64 0,.bool false] 28)).alloc (.cells #[.slice A2 l2.length c2,.int .i64 0] 52)).heap.size = w1.heap.size + 1 + 1:=by simp
  have hnr:=blk_alloc (blk_alloc (blk_new w1 (.cells #[.slice none 0 0,.int .i64 0,.int .i64 0,.bool false] 28)) (.cells #[.slice A2 l2.length c2,.int .i64 0] 52)) (.cells #[.slice A3 l3.length c3,.int .i64 0] 52)
  have hno:=blk_alloc (blk_new (w1.alloc (.cells #[.slice none 0 0,.int .i64 0,.int .i64 0,.bool false] 28)) (.cells #[.slice A2 l2.length c2,.int .i64 0] 52)) (.cells #[.slice A3 l3.length c3,.int .i64 0] 52)
  have hni:=blk_new ((w1.alloc (.cells #[.slice none 0 0,.int .i64 0,.int .i64 0,.bool false] 28)).alloc (.cells #[.slice A2 l2.length c2,.int .i64 0] 52)) (.cells #[.slice A3 l3.length c3,.int .i64 0] 52)
  have hne:=blk_alloc (blk_alloc (blk_alloc HN1.out (.cells #[.slice none 0 0,.int .i64 0,.int .i64 0,.bool false] 28)) (.cells #[.slice A2 l2.length c2,.int .i64 0] 52)) (.cells #[.slice A3 l3.length c3,.int .i64 0] 52)
  rw [hz1] at hno
  rw [hz2] at hni
  clear hz1 hz2 HN1 HB1
  generalize ((w1.alloc (.cells #[.slice none 0 0,.int .i64 0,.int .i64 0,.bool false] 28)).alloc (.cells #[.slice A2 l2.length c2,.int .i64 0] 52)).alloc (.cells #[.slice A3 l3.length c3,.int .i64 0] 52) = W0 at hba hnr hno hni hne ⊢
  generalize hgr : w1.heap.size = gr at hnr hno hni HS1 ⊢
  clear hgr
  have HBA:=Aside0.mk hba
  have HNR:=Aside0.mk hnr
  have HNO:=Aside0.mk hno
  have HNI:=Aside0.mk hni
  have HNE:=Aside0.mk hne
  clear hba hnr hno hni hne
  go_loopg [15] rounds (fun gg s15 wr => ∃ (s : LS) (gv : Value),s.rounds ≤ rounds ∧ rounds - s.rounds ≤ gg ∧ s15 = .int .i64 (s.known : Int) ∧ s.known ≤ 77 ∧ s.so ≤ 8 * s.rounds ∧ Aside0 (s.si = s.rounds) ∧ s.got.length ≤ 16 * s.rounds ∧
    Aside0 (fin = runL win l1 l2 l3 (rounds - s.rounds) s) ∧ Aside0 (Kd.S (Kd.slice 5 (Kd.int .u8)) 22 wr w.heap.size (fun _ => True) gv s.got) ∧
    Aside0 (wr.heap[gr]? = some (.cells #[gv,.int .i64 s.rounds,.int .i64 0,.bool false] 28 (0,0))) ∧ Aside0 (wr.heap[gr + 1]? = some (.cells #[.slice A2 l2.length c2,.int .i64 s.so] 52 (0,0))) ∧
    Aside0 (wr.heap[gr + 1 + 1]? = some (.cells #[.slice A3 l3.length c3,.int .i64 s.si] 52 (0,0))) ∧ Aside0 (wr.heap[w.heap.size]? = some (.cells #[.slice none 0 0,.int .i64 0,.int .i64 0,.bool false] 28 (0,0))) ∧ Aside0 (Below w.heap.size w wr))
  case atStart => exact ⟨startL,.slice none 0 0,Nat.zero_le _,Nat.le_refl _,rfl,by simp [startL],Nat.zero_le _,⟨rfl⟩,Nat.zero_le _,HFIN,⟨Kd.S_nil _ _ _ _ _⟩,HNR,HNO,HNI,HNE,HBA⟩
  case round =>
    clear HFIN HNR HNO HNI HNE HBA
    obtain ⟨s,gv,hr1,hgg,rfl,hkn,hso,HSI,hgl,HF,HO,HNR,HNO,HNI,HNE,BW⟩:=hrel
    have hsi1 : s.si ≤ 100000:=by have:=HSI.out;omega
    by_cases hgo : s.known < l1.length ∧ s.rounds < rounds
    · obtain ⟨hk,hr⟩:=hgo
      obtain ⟨m,hm⟩ : ∃ m,m = manyL l1 win s.known:=⟨_,rfl⟩
      have hm1 : s.known + m = min l1.length (s.known + win):=by rw [hm];unfold manyL;omega
      have hm8 : m ≤ 8:=by omega
      have HM:=Aside0.mk hm
      clear hm
      have k0 : wr.cell? ⟨gr,0,none⟩ = some gv:=(blk_cell HNR.out 0).trans rfl
      have k1 : wr.cell? ⟨gr,1,none⟩ = some (.int .i64 s.rounds):=(blk_cell HNR.out 1).trans rfl
      have f1:=blk_frozen HNR.out 1
      have p1 : ((s.known : Int) < (l1.length : Int)) = True:=eq_true (by omega)
      have p2 : ((s.rounds : Int) < (rounds : Int)) = True:=eq_true (by omega)
      go_wp2_with fail
      have hgg1 : w.heap.size ≤ gr:=by have:=HS1.out;omega
      have HNR1:=Aside0.mk (blk_setl HNR.out 1 (.int .i64 ((s.rounds : Int) + 1)))
      have HNO1:=Aside0.mk (blk_seto HNO.out (show gr + 1 ≠ gr by omega) 1 (.int .i64 ((s.rounds : Int) + 1)))
      have HNI1:=Aside0.mk (blk_seto HNI.out (show gr + 1 + 1 ≠ gr by omega) 1 (.int .i64 ((s.rounds : Int) + 1)))
      have HNE1:=Aside0.mk (blk_seto HNE.out (show w.heap.size ≠ gr by have:=HS1.out;omega) 1 (.int .i64 ((s.rounds : Int) + 1)))
      have HO1:=Aside0.mk (S_other HO.out HNR.out (by decide) 1 (.int .i64 ((s.rounds : Int) + 1)))
      have BW1:=Aside0.mk (BW.out.setCell (p:=⟨gr,1,none⟩) hgg1 (.int .i64 ((s.rounds : Int) + 1)))
      clear k0 k1 f1 p1 p2 HNR HNO HNI HNE HO BW hgg1
      generalize wr.setCell ⟨gr,1,none⟩ (.int .i64 ((s.rounds : Int) + 1)) = W1 at HNR1 HNO1 HNI1 HNE1 HO1 BW1 ⊢
      obtain ⟨wo,HO9,HB9⟩ : ∃ wo : World,Aside0 (wo = W1) ∧ Aside0 (wo = W1):=⟨W1,⟨rfl⟩,⟨rfl⟩⟩
      clear HO9 HB9
      go_loopg [16,17] m (fun gg s16 s17 wr => ∃ (jj : Nat) (v : Value),jj ≤ m ∧ m - jj ≤ gg ∧ v = s16 ∧ s17 = .int .i64 ((s.known + jj : Nat) : Int) ∧ Aside0 (Kd.S (Kd.slice 5 (Kd.int .u8)) 22 wr W1.heap.size (fun _ => True) v (pkL crcI l1 s.known jj)) ∧ Aside0 (Below W1.heap.size W1 wr))
      case atStart => exact ⟨0,_,Nat.zero_le _,Nat.le_refl _,rfl,by simp,⟨Kd.S_nil _ _ _ _ _⟩,⟨Below.refl _ _⟩⟩
      case round =>
        obtain ⟨jj,v,hjj,hg2,rfl,rfl,HP,BP⟩:=hrel
        have pmin : (if (s.known : Int) + (win : Int) < (l1.length : Int) then (s.known : Int) + (win : Int) else (l1.length : Int)) = (s.known : Int) + (m : Int):=by split <;> omega
        by_cases hlt : jj < m
        · have p1 : ((jj : Int) < (m : Int)) = True:=eq_true (by omega)
          have p2 : (jj < m) = True:=eq_true hlt
          have p3 : ((s.known : Int) + (jj : Int) < (s.known : Int) + (m : Int)) = True:=eq_true (by omega)
          have hj : s.known + jj < l1.length:=by omega
          obtain ⟨ad,A',c',e,hx,hlc,hC⟩:=at_L2 (Kd.C_below HR1.out (below_step BW1.out BP.out)) ((s.known : Int) + (jj : Int)) (by omega) (by omega)
          cases e
          have hge : rd_L2 l1 ((s.known : Int) + (jj : Int)) = l1.getD (s.known + jj) []:=by rw [show (s.known : Int) + (jj : Int) = ((s.known + jj : Nat) : Int) from by omega];rfl
          rw [hge,show ((s.known : Int) + (jj : Int)).toNat = s.known + jj from by omega] at hx
          rw [hge] at hlc hC
          have hmem : l1.getD (s.known + jj) [] ∈ l1:=by simp [List.getD_eq_getElem?_getD,hj]
          have q1 : (0 ≤ (s.known : Int) + (jj : Int)) = True:=eq_true (by omega)
          have q2 : ((s.known : Int) + (jj : Int) < (l1.length : Int)) = True:=eq_true (by omega)
          have hpk:=impl_PackLink.calls 1001 1 (((s.known + jj) % 16 : Nat) : Int) A' c' (l1.getD (s.known + jj) []) _ true wr hC hlc (packI 1 (((s.known + jj) % 16 : Nat) : Int) (l1.getD (s.known + jj) []) (by omega) (by omega) (by omega) (by omega) (HBY.out _ hmem) (HLL.out _ hmem) (by omega) 1001 (by omega))
          have HPS : Aside0 (pkL crcI l1 s.known (jj + 1) = pkL crcI l1 s.known jj ++ [pkt crcI 1 (((s.known + jj) % 16 : Nat) : Int) (l1.getD (s.known + jj) [])]):=⟨pkL_succ _ _ _ _⟩
          have HPL:=Aside0.mk (pkL_len crcI l1 s.known jj)
          have e16 : (((s.known + jj) % 16 : Nat) : Int) = ((s.known : Int) + (jj : Int)) % 16:=by omega
          generalize pkt crcI 1 (((s.known + jj) % 16 : Nat) : Int) (l1.getD (s.known + jj) []) = pk at hpk HPS
          rw [e16] at hpk
          generalize l1.getD (s.known + jj) [] = b at hpk hx hmem hlc hC
          generalize pkL crcI l1 s.known jj = T1 at HP HPS HPL
          have HPK:=Aside0.mk hpk
          clear hmem hge hpk hlc hC e16
          have hl8 : T1.length + 1 ≤ 9:=by have:=HPL.out;omega
          go_wp2_with (first | (go_at_call 32;refine HPK.out.mono ?_;rintro e w2 ⟨v1,rfl,ho1,hb1⟩;obtain ⟨A4,c4,rfl⟩:=Kd.R_slice ho1;have HO2:=Aside0.mk (Kd.R_lower ho1 BP.out.size);have HE:=Aside0.mk (Kd.S_mono (ok':=fun k => some k ≠ (Value.slice A4 pk.length c4).ownBlock) (Kd.S_elder' HP.out (Kd.R_base ho1) hb1) (fun k hk => hk.2));have BP2:=Aside0.mk (below_step BP.out hb1);clear ho1 hb1) | ((with_reducible refine gate_builtin (b:=.append) (xs:=#[.tmp 82,.tmp 84]) rfl ?_);at_builtin;refine Kd.S_append (Kd.slice 5 (Kd.int .u8)) (w0:=W1) W1.heap.size rfl (.tmp 82) (.tmp 84) 23 22 (.slice none 0 0) 24 rfl Try.underlying23 (by kernel_rfl) rfl (by decide) (by omega) v T1 pk [.slice A4 pk.length c4] (fun _ => True) (fun k_ => some k_ = (Value.slice A4 pk.length c4).ownBlock) rfl rfl ?aP ?aK ?aF ?aO ?aB ?aS ?aL ?_;(case aP => exact Kd.M_row (Kd.R_tight rfl HO2.out));(case aK => exact fun k hk => ⟨trivial,fun he => by have h1:=(Kd.R_apart' HO2.out (Kd.S_typed HE.out) (by decide)).1 k hk.symm;exact h1.2 he⟩);(case aF => exact (fun _ _ => trivial));(case aO => exact Kd.S_mono HE.out (fun k hk => ⟨trivial,fun e_ => hk e_⟩));(case aB => exact BP2.out);(case aS => exact BP2.out.size);(case aL => omega);intro v2 w3 ho2 hb2 _ _;have HP3:=Aside0.mk ho2;have BP3:=Aside0.mk hb2;clear ho2 hb2))
          rw [← HPS.out] at HP3
          go_roundg (m - (jj + 1))
          case measure => omega
          case rel => exact ⟨jj + 1,v2,by omega,by omega,rfl,by go_num,HP3,BP3⟩
        · have e : m = jj:=by omega
          subst e
          clear hlt hg2 hjj
          obtain ⟨Ap,cp,rfl⟩:=Kd.S_slice HP.out
          have p3 : ((m : Int) < (m : Int)) = False:=eq_false (by omega)
          have p4 : ((s.known : Int) + (m : Int) < (s.known : Int) + (m : Int)) = False:=eq_false (by omega)
          have hps:=x_pass (gr + 1) s.so A2 c2 l2 Ap cp (pkL crcI l1 s.known m) wr (by rw [pkL_len];exact hm8) (by omega) HF2.out (pkL_le HLL.out _ _) (Kd.C_below HR2.out (below_step BW1.out BP.out)) HC2.out (Kd.S_reads' HP.out).2.2 (blk_below HNO1.out BP.out)
          have HPL : Aside0 (passL (l2.drop s.so) (pkL crcI l1 s.known m) = (arrI (l2.drop s.so) m).map (passB (l2.drop s.so) (pkL crcI l1 s.known m))):=⟨by unfold passL;rw [pkL_len]⟩
          have HPS:=Aside0.mk hps
          clear hps
          go_wp2_with fail
          refine HPS.out.mono ?_
          rintro e W2 ⟨av,w2,rfl,rfl,ha2,hb2⟩
          rw [HPL.out] at ha2
          obtain ⟨Aa,ca,rfl⟩:=Kd.S_slice ha2
          rw [pkL_len]
          have hgw : w.heap.size ≤ wr.heap.size:=(below_step BW1.out BP.out).size
          have HNR2:=Aside0.mk (blk_seto (blk_below (blk_below HNR1.out BP.out) hb2) (show gr ≠ gr + 1 by omega) 1 (.int .i64 ((s.so : Int) + (m : Int))))
          have HNI2:=Aside0.mk (blk_seto (blk_below (blk_below HNI1.out BP.out) hb2) (show gr + 1 + 1 ≠ gr + 1 by omega) 1 (.int .i64 ((s.so : Int) + (m : Int))))
          have HNE2:=Aside0.mk (blk_seto (blk_below (blk_below HNE1.out BP.out) hb2) (show w.heap.size ≠ gr + 1 by have:=HS1.out;omega) 1 (.int .i64 ((s.so : Int) + (m : Int))))
          have hnoa:=blk_below (blk_below HNO1.out BP.out) hb2
          have HNO2:=Aside0.mk (blk_setl hnoa 1 (.int .i64 ((s.so : Int) + (m : Int))))
          have HO2:=Aside0.mk (S_other (Kd.S_below (Kd.S_below HO1.out BP.out) hb2) hnoa (by decide) 1 (.int .i64 ((s.so : Int) + (m : Int))))
          have HA2:=Aside0.mk (S_other (Kd.S_mono (ok':=fun k => some k ≠ gv.ownBlock) (Kd.S_lower (Kd.S_new' ha2 (Kd.S_lt (Kd.S_below HO1.out BP.out))) hgw) (fun k hk => hk.2)) hnoa (by decide) 1 (.int .i64 ((s.so : Int) + (m : Int))))
          have BW2:=Aside0.mk ((below_step (below_step BW1.out BP.out) hb2).setCell (p:=⟨gr + 1,1,none⟩) (by have:=HS1.out;show w.heap.size ≤ gr + 1;omega) (.int .i64 ((s.so : Int) + (m : Int))))
          clear ha2 hb2 hnoa hgw HPS HP BP HNR1 HNO1 HNI1 HNE1 HO1 BW1 HPL
          generalize w2.setCell ⟨gr + 1,1,none⟩ (.int .i64 ((s.so : Int) + (m : Int))) = W2 at HNR2 HNO2 HNI2 HNE2 HO2 HA2 BW2 ⊢
          have hal : (arrI (l2.drop s.so) m).length ≤ 16:=by have:=arrI_len (l2.drop s.so) m;omega
          have HAI:=Aside0.mk (arrI_in (l2.drop s.so) m)
          have HGL : Aside0 (gotL win l1 l2 s = takeL l1 s.known (l2.drop s.so) (arrI (l2.drop s.so) m) s.got):=⟨by unfold gotL;rw [← HM.out]⟩
          generalize l2.drop s.so = fs at HNR2 HNO2 HNI2 HNE2 HO2 HA2 BW2 hal HAI HGL ⊢
          generalize arrI fs m = arr at HNR2 HNO2 HNI2 HNE2 HO2 HA2 BW2 hal HAI HGL ⊢
          have hpl : (arr.map (passB fs (pkL crcI l1 s.known m))).length = arr.length:=List.length_map _
          rw [hpl] at HA2 ⊢
          clear hpl
          go_wp2_with fail
          obtain ⟨wo,HO9,HB9⟩ : ∃ wo : World,Aside0 (wo = W2) ∧ Aside0 (wo = W2):=⟨W2,⟨rfl⟩,⟨rfl⟩⟩
          clear HO9 HB9 p3 p4 pmin
          go_loopg [89] arr.length (fun gg s89 wr => ∃ (kk : Nat) (g : List (List Int)) (gv : Value),kk ≤ arr.length ∧ arr.length - kk ≤ gg ∧ s89 = .int .i64 (kk : Int) ∧ g.length ≤ s.got.length + kk ∧ Aside0 (g = takeL l1 s.known fs (arr.take kk) s.got) ∧
            Aside0 (Kd.S (Kd.slice 5 (Kd.int .u8)) 22 wr w.heap.size (fun _ => True) gv g) ∧ Aside0 (Kd.S (Kd.slice 5 (Kd.int .u8)) 22 wr w.heap.size (fun k => some k ≠ gv.ownBlock) (.slice Aa arr.length ca) (arr.map (passB fs (pkL crcI l1 s.known m)))) ∧
            Aside0 (wr.heap[gr]? = some (.cells #[gv,.int .i64 ((s.rounds : Int) + 1),.int .i64 0,.bool false] 28 (0,0))) ∧ Aside0 (wr.heap[gr + 1]? = some (.cells #[.slice A2 l2.length c2,.int .i64 ((s.so : Int) + (m : Int))] 52 (0,0))) ∧
            Aside0 (wr.heap[gr + 1 + 1]? = some (.cells #[.slice A3 l3.length c3,.int .i64 s.si] 52 (0,0))) ∧ Aside0 (wr.heap[w.heap.size]? = some (.cells #[.slice none 0 0,.int .i64 0,.int .i64 0,.bool false] 28 (0,0))) ∧ Aside0 (Below w.heap.size w wr))
          case atStart => exact ⟨0,s.got,gv,Nat.zero_le _,Nat.le_refl _,rfl,Nat.le_refl _,⟨rfl⟩,HO2,HA2,HNR2,HNO2,HNI2,HNE2,BW2⟩
          case round =>
            clear HO2 HA2 HNR2 HNO2 HNI2 HNE2 BW2
            obtain ⟨kk,g,gv,hkk,hg3,rfl,hgl3,HG,HO,HA,HNR,HNO,HNI,HNE,BW⟩:=hrel
            obtain ⟨A9,c9,rfl⟩:=Kd.S_slice HO.out
            by_cases hlt : kk < arr.length
            · have hx:=HAI.out arr[kk] (List.getElem_mem hlt)
              obtain ⟨ad,A',c',e,hx0,hlc,hC⟩:=at_L2 (Kd.S_reads' HA.out).2.2 (kk : Int) (by omega) (by rw [List.length_map];omega)
              cases e
              have hge : rd_L2 (arr.map (passB fs (pkL crcI l1 s.known m))) (kk : Int) = passB fs (pkL crcI l1 s.known m) arr[kk]:=by simp [rd_L2,List.getD_eq_getElem?_getD,hlt]
              rw [hge,Int.toNat_natCast] at hx0
              rw [hge] at hlc hC
              have HTS : Aside0 (takeL l1 s.known fs (arr.take (kk + 1)) s.got = if fs.getD arr[kk].toNat 0 = 4 then g else if (s.known + arr[kk].toNat) % 16 = g.length % 16 then g ++ [l1.getD (s.known + arr[kk].toNat) []] else g):=⟨by rw [List.take_succ_eq_append_getElem hlt,takeL_snoc,← HG.out]⟩
              have hub:=unp_bad HLL.out HBY.out fs s.known m arr[kk] hx.1 hx.2
              have huo:=unp_ok HLL.out HBY.out fs s.known m arr[kk] hx.1 hx.2
              have p1 : ((kk : Int) < (arr.length : Int)) = True:=eq_true (by omega)
              have p2 : (kk < arr.length) = True:=eq_true hlt
              have k0 : wr.cell? ⟨gr,0,none⟩ = some (.slice A9 g.length c9):=(blk_cell HNR.out 0).trans rfl
              clear hge
              generalize passB fs (pkL crcI l1 s.known m) arr[kk] = pk at hx0 hlc hC hub huo
              obtain ⟨x,hxx⟩ : ∃ x : Nat,x = arr[kk].toNat:=⟨_,rfl⟩
              rw [← hxx] at HTS hub huo
              clear hxx hx
              by_cases hf : fs.getD x 0 = 4
              · have HTG : Aside0 (g = takeL l1 s.known fs (arr.take (kk + 1)) s.got):=⟨by rw [HTS.out,if_pos hf]⟩
                have hun:=impl_UnpackLink.calls 1001 A' c' pk _ _ _ _ wr hC hlc (hub hf)
                clear hub huo hf HTS hlc hC
                go_wp2_with fail
                refine hun.mono ?_
                rintro e w2 ⟨v2,rfl,_,hb2⟩
                have HO2:=Aside0.mk (Kd.S_below HO.out hb2)
                have HA2:=Aside0.mk (Kd.S_below HA.out hb2)
                have HNR2:=Aside0.mk (blk_below HNR.out hb2)
                have HNO2:=Aside0.mk (blk_below HNO.out hb2)
                have HNI2:=Aside0.mk (blk_below HNI.out hb2)
                have HNE2:=Aside0.mk (blk_below HNE.out hb2)
                have BW2:=Aside0.mk (below_step BW.out hb2)
                clear hun hb2 k0 HO HA HNR HNO HNI HNE BW hx0
                go_wp2_with fail
                go_roundg (arr.length - (kk + 1))
                case measure => omega
                case rel => exact ⟨kk + 1,g,_,by omega,by omega,by go_num,by omega,HTG,HO2,HA2,HNR2,HNO2,HNI2,HNE2,BW2⟩
              · have hun:=impl_UnpackLink.calls 1001 A' c' pk _ _ _ _ wr hC hlc (huo hf)
                have e16 : (((s.known + x) % 16 : Nat) : Int) = ((s.known : Int) + (x : Int)) % 16:=by omega
                obtain ⟨q,hq⟩ : ∃ q : Int,q = (((s.known + x) % 16 : Nat) : Int):=⟨_,rfl⟩
                rw [← hq] at hun
                have HB16 : Aside0 (BytesL (l1.getD (s.known + x) [])):=⟨getD_bytes HBY.out _⟩
                clear hub huo hlc hC e16
                by_cases hs : (s.known + x) % 16 = g.length % 16
                · have HTG : Aside0 (g ++ [l1.getD (s.known + x) []] = takeL l1 s.known fs (arr.take (kk + 1)) s.got):=⟨by rw [HTS.out,if_neg hf,if_pos hs]⟩
                  have hqe : q = ((g.length : Int) % 16):=by omega
                  subst hqe
                  clear hq hs hf HTS
                  generalize l1.getD (s.known + x) [] = b at hun HTG HB16
                  have hg16 : g.length + 1 ≤ 7000:=by omega
                  go_wp2_with fail
                  refine hun.mono ?_
                  rintro e w2 ⟨v2,rfl,hr2,hb2⟩
                  obtain ⟨A5,c5,rfl⟩:=Kd.R_slice hr2
                  have HRB:=Aside0.mk (Kd.R_lower hr2 BW.out.size)
                  have HE:=Aside0.mk (Kd.S_mono (ok':=fun k => some k ≠ (Value.slice A5 b.length c5).ownBlock) (Kd.S_elder' HO.out (Kd.R_base hr2) hb2) (fun k hk => hk.2))
                  have HA2:=Aside0.mk (Kd.S_mono (ok':=fun k => True ∧ some k ≠ (Value.slice A9 g.length c9).ownBlock) (Kd.S_below HA.out hb2) (fun k hk => ⟨trivial,hk⟩))
                  have HNR2:=Aside0.mk (blk_below HNR.out hb2)
                  have HNO2:=Aside0.mk (blk_below HNO.out hb2)
                  have HNI2:=Aside0.mk (blk_below HNI.out hb2)
                  have HNE2:=Aside0.mk (blk_below HNE.out hb2)
                  have BW2:=Aside0.mk (below_step BW.out hb2)
                  clear hun hb2 hr2 k0 HO HA HNR HNO HNI HNE BW hx0
                  have k0 : w2.cell? ⟨gr,0,none⟩ = some (.slice A9 g.length c9):=(blk_cell HNR2.out 0).trans rfl
                  go_wp2_with ((with_reducible refine gate_builtin (b:=.append) (xs:=#[.tmp 114,.tmp 116]) rfl ?_);at_builtin;refine Kd.S_append (Kd.slice 5 (Kd.int .u8)) (w0:=w) w.heap.size rfl (.tmp 114) (.tmp 116) 23 22 (.slice none 0 0) 24 rfl Try.underlying23 (by kernel_rfl) rfl (by decide) (by omega) (.slice A9 g.length c9) g b [.slice A5 b.length c5] (fun _ => True) (fun k_ => some k_ = (Value.slice A5 b.length c5).ownBlock) rfl rfl ?aP ?aK ?aF ?aO ?aB ?aS ?aL ?_;(case aP => exact Kd.M_row (Kd.R_tight rfl HRB.out));(case aK => exact fun k hk => ⟨trivial,fun he => by have h1:=(Kd.R_apart' HRB.out (Kd.S_typed HE.out) (by decide)).1 k hk.symm;exact h1.2 he⟩);(case aF => exact (fun _ _ => trivial));(case aO => exact Kd.S_mono HE.out (fun k hk => ⟨trivial,fun e_ => hk e_⟩));(case aB => exact BW2.out);(case aS => exact BW2.out.size);(case aL => omega);intro v3 w3 ho3 hb3 hg3 hat3;obtain ⟨A6,c6,rfl⟩:=Kd.S_slice ho3;have HO3:=Aside0.mk ho3;have BW3:=Aside0.mk hb3;have HA3:=Aside0.mk (Kd.S_after HA2.out hg3 hat3);have HNR3:=Aside0.mk (blk_grown HNR2.out hg3 (ne_own HE.out HNR2.out (by decide)));have HNO3:=Aside0.mk (blk_grown HNO2.out hg3 (ne_own HE.out HNO2.out (by decide)));have HNI3:=Aside0.mk (blk_grown HNI2.out hg3 (ne_own HE.out HNI2.out (by decide)));have HNE3:=Aside0.mk (blk_grown HNE2.out hg3 (ne_own HE.out HNE2.out (by decide)));have k30 : w3.cell? ⟨gr,0,none⟩ = some (.slice A9 g.length c9):=(blk_cell HNR3.out 0).trans rfl;have f30:=blk_frozen HNR3.out 0;clear ho3 hb3 hg3 hat3)
                  have hl4 : (g ++ [b]).length = g.length + 1:=by simp
                  rw [hl4] at HO3 HA3
                  have HO4:=Aside0.mk (S_other HO3.out HNR3.out (by decide) 0 (.slice A6 (g.length + 1) c6))
                  have HA4:=Aside0.mk (S_other (Kd.S_mono (ok':=fun k => some k ≠ (Value.slice A6 (g.length + 1) c6).ownBlock) HA3.out (fun k hk => hk.2)) HNR3.out (by decide) 0 (.slice A6 (g.length + 1) c6))
                  have HNR4:=Aside0.mk (blk_setl HNR3.out 0 (.slice A6 (g.length + 1) c6))
                  have HNO4:=Aside0.mk (blk_seto HNO3.out (show gr + 1 ≠ gr by omega) 0 (.slice A6 (g.length + 1) c6))
                  have HNI4:=Aside0.mk (blk_seto HNI3.out (show gr + 1 + 1 ≠ gr by omega) 0 (.slice A6 (g.length + 1) c6))
                  have HNE4:=Aside0.mk (blk_seto HNE3.out (show w.heap.size ≠ gr by have:=HS1.out;omega) 0 (.slice A6 (g.length + 1) c6))
                  have BW4:=Aside0.mk (BW3.out.setCell (p:=⟨gr,0,none⟩) (by have:=HS1.out;show w.heap.size ≤ gr;omega) (.slice A6 (g.length + 1) c6))
                  go_roundg (arr.length - (kk + 1))
                  case measure => omega
                  case rel => exact ⟨kk + 1,g ++ [b],_,by omega,by omega,by go_num,by rw [hl4];omega,HTG,HO4,HA4,HNR4,HNO4,HNI4,HNE4,BW4⟩
                · have HTG : Aside0 (g = takeL l1 s.known fs (arr.take (kk + 1)) s.got):=⟨by rw [HTS.out,if_neg hf,if_neg hs]⟩
                  have hqe : (q == ((g.length : Int) % 16)) = false:=beq_eq_false_iff_ne.mpr (by omega)
                  clear hq hs hf HTS
                  go_wp2_with fail
                  refine hun.mono ?_
                  rintro e w2 ⟨v2,rfl,_,hb2⟩
                  have HO2:=Aside0.mk (Kd.S_below HO.out hb2)
                  have HA2:=Aside0.mk (Kd.S_below HA.out hb2)
                  have HNR2:=Aside0.mk (blk_below HNR.out hb2)
                  have HNO2:=Aside0.mk (blk_below HNO.out hb2)
                  have HNI2:=Aside0.mk (blk_below HNI.out hb2)
                  have HNE2:=Aside0.mk (blk_below HNE.out hb2)
                  have BW2:=Aside0.mk (below_step BW.out hb2)
                  clear hun hb2 k0 HO HA HNR HNO HNI HNE BW hx0
                  have k0 : w2.cell? ⟨gr,0,none⟩ = some (.slice A9 g.length c9):=(blk_cell HNR2.out 0).trans rfl
                  go_wp2_with fail
                  go_roundg (arr.length - (kk + 1))
                  case measure => omega
                  case rel => exact ⟨kk + 1,g,_,by omega,by omega,by go_num,by omega,HTG,HO2,HA2,HNR2,HNO2,HNI2,HNE2,BW2⟩
            · have e : kk = arr.length:=by omega
              subst e
              rw [List.take_length,← HGL.out] at HG
              clear hlt hg3 hkk HA HAI HGL
              have hsg : g.length ≤ 7000:=by omega
              have k0 : wr.cell? ⟨gr,0,none⟩ = some (.slice A9 g.length c9):=(blk_cell HNR.out 0).trans rfl
              have p3 : (arr.length < arr.length) = False:=eq_false (by omega)
              have hpb:=impl_PackLink.calls 1001 2 ((g.length : Int) % 16) none 0 [] _ true wr (Kd.C_nil _ _) (Nat.le_refl _) (packI 2 ((g.length : Int) % 16) [] (by omega) (by omega) (by omega) (by omega) (fun x hx => by simp at hx) (by simp) (fun _ => rfl) 1001 (by omega))
              have HPB:=Aside0.mk hpb
              clear hpb
              go_wp2_with fail
              refine HPB.out.mono ?_
              rintro e w2 ⟨v1,rfl,ho1,hb1⟩
              obtain ⟨A4,c4,rfl⟩:=Kd.R_slice ho1
              have hpbl : (pkt crcI 2 ((g.length : Int) % 16) []).length = 3:=pkt_len _ _ _ _
              have hC1:=C_one (Kd.R_reads' ho1).2.2 (Kd.R_reads' ho1).2.1
              have hba:=(below_alloc (Below.refl _ w2) (.cells #[.slice A4 (pkt crcI 2 ((g.length : Int) % 16) []).length c4] 22))
              have hb2:=below_step hb1 hba
              have HO2:=Aside0.mk (Kd.S_below HO.out hb2)
              have HNR2:=Aside0.mk (blk_below HNR.out hb2)
              have HNO2:=Aside0.mk (blk_below HNO.out hb2)
              have HNI2:=Aside0.mk (blk_below HNI.out hb2)
              have HNE2:=Aside0.mk (blk_below HNE.out hb2)
              have BW2:=Aside0.mk (below_step BW.out hb2)
              have hps:=x_pass (gr + 1 + 1) s.si A3 c3 l3 (some ⟨w2.heap.size,0,none⟩) 1 [pkt crcI 2 ((g.length : Int) % 16) []] _ (by simp) (by omega) HF3.out (fun b hb => by rw [List.mem_singleton.1 hb,hpbl];omega) (Kd.C_below HR3.out BW2.out) HC3.out hC1 HNI2.out
              rw [show passL (l3.drop s.si) [pkt crcI 2 ((g.length : Int) % 16) []] = (arrI (l3.drop s.si) 1).map (passB (l3.drop s.si) [pkt crcI 2 ((g.length : Int) % 16) []]) from rfl] at hps
              have HPS:=Aside0.mk hps
              have HKL : Aside0 (knownL win l1 l2 l3 s = hearL (decide ((l3.drop s.si).getD 0 0 = 4)) win (g.length % 16) (arrI (l3.drop s.si) 1).length s.known):=⟨by rw [HG.out];rfl⟩
              have HUB:=Aside0.mk (unp_back_bad (l3.drop s.si) ((g.length : Int) % 16) (by omega) (by omega))
              have HUO:=Aside0.mk (unp_back_ok (l3.drop s.si) ((g.length : Int) % 16) (by omega) (by omega))
              have HOG:=Aside0.mk (fun (kk : Nat) => one_get (l3.drop s.si) (pkt crcI 2 ((g.length : Int) % 16) []) kk)
              have hcn : (arrI (l3.drop s.si) 1).length ≤ 2:=arrI_len _ 1
              have HAL : Aside0 (((arrI (l3.drop s.si) 1).map (passB (l3.drop s.si) [pkt crcI 2 ((g.length : Int) % 16) []])).length = (arrI (l3.drop s.si) 1).length):=⟨List.length_map _⟩
              generalize pkt crcI 2 ((g.length : Int) % 16) [] = pb at hpbl hC1 hba hb2 HO2 HNR2 HNO2 HNI2 HNE2 BW2 HPS HUB HUO HOG HAL ho1 ⊢
              clear ho1 hb1 hC1 hba hb2 hps HPB k0 HO HNR HNO HNI HNE BW hpbl p3
              go_wp2_with fail
              refine HPS.out.mono ?_
              rintro e W4 ⟨av,w4,rfl,hW4,ha4,hb4⟩
              rw [show (([pb].length : Nat) : Int) = 1 from rfl] at hW4
              subst hW4
              obtain ⟨Ab,cb,rfl⟩:=Kd.S_slice ha4
              rw [HAL.out]
              rw [HAL.out] at ha4
              have HGLEN:=Aside0.mk HAL.out
              have HO5:=Aside0.mk (S_other (Kd.S_below HO2.out hb4) (blk_below HNI2.out hb4) (by decide) 1 (.int .i64 ((s.si : Int) + 1)))
              have HA5:=Aside0.mk (S_other ha4 (blk_below HNI2.out hb4) (by decide) 1 (.int .i64 ((s.si : Int) + 1)))
              have HNR5:=Aside0.mk (blk_seto (blk_below HNR2.out hb4) (show gr ≠ gr + 1 + 1 by omega) 1 (.int .i64 ((s.si : Int) + 1)))
              have HNO5:=Aside0.mk (blk_seto (blk_below HNO2.out hb4) (show gr + 1 ≠ gr + 1 + 1 by omega) 1 (.int .i64 ((s.si : Int) + 1)))
              have HNI5:=Aside0.mk (blk_setl (blk_below HNI2.out hb4) 1 (.int .i64 ((s.si : Int) + 1)))
              have HNE5:=Aside0.mk (blk_seto (blk_below HNE2.out hb4) (show w.heap.size ≠ gr + 1 + 1 by have:=HS1.out;omega) 1 (.int .i64 ((s.si : Int) + 1)))
              have BW5:=Aside0.mk ((below_step BW2.out hb4).setCell (p:=⟨gr + 1 + 1,1,none⟩) (by have:=HS1.out;show w.heap.size ≤ gr + 1 + 1;omega) (.int .i64 ((s.si : Int) + 1)))
              clear ha4 hb4 HPS HAL HO2 HNR2 HNO2 HNI2 HNE2 BW2
              generalize w4.setCell ⟨gr + 1 + 1,1,none⟩ (.int .i64 ((s.si : Int) + 1)) = W5 at HO5 HA5 HNR5 HNO5 HNI5 HNE5 BW5 ⊢
              generalize (w2.alloc (.cells #[.slice A4 pb.length c4] 22)).heap.size = b5 at HA5
              generalize l3.drop s.si = bs at HA5 HKL HUB HUO HOG HGLEN hcn ⊢
              generalize arrI bs 1 = ar at HA5 HKL HOG HGLEN hcn ⊢
              go_wp2_with fail
              obtain ⟨wo,HO9,HB9⟩ : ∃ wo : World,Aside0 (wo = W5) ∧ Aside0 (wo = W5):=⟨W5,⟨rfl⟩,⟨rfl⟩⟩
              clear HO9 HB9
              go_loopg [15,132] ar.length (fun gg s15 s132 wr => ∃ (kk kn : Nat),kk ≤ ar.length ∧ ar.length - kk ≤ gg ∧ s132 = .int .i64 (kk : Int) ∧ s15 = .int .i64 (kn : Int) ∧ kn ≤ s.known + kk * (win + 1) ∧ Aside0 (kn = hearL (decide (bs.getD 0 0 = 4)) win (g.length % 16) kk s.known) ∧ Aside0 (Below W5.heap.size W5 wr))
              case atStart => exact ⟨0,s.known,Nat.zero_le _,Nat.le_refl _,rfl,rfl,by omega,⟨rfl⟩,⟨Below.refl _ _⟩⟩
              case round =>
                obtain ⟨kk,kn,hkk,hg5,rfl,rfl,hkb,HH,BQ⟩:=hrel
                have hkn2 : kn ≤ 100:=by
                  have h1 : kk * (win + 1) ≤ 2 * (8 + 1):=Nat.mul_le_mul (by omega) (by omega)
                  omega
                by_cases hlt : kk < ar.length
                · obtain ⟨ad,A',c',e,hx0,hlc,hC⟩:=at_L2 (Kd.S_reads' (Kd.S_below HA5.out BQ.out)).2.2 (kk : Int) (by omega) (by rw [HGLEN.out];omega)
                  cases e
                  rw [HOG.out kk hlt,Int.toNat_natCast] at hx0
                  rw [HOG.out kk hlt] at hlc hC
                  have HHS : Aside0 (hearL (decide (bs.getD 0 0 = 4)) win (g.length % 16) (kk + 1) s.known = if decide (bs.getD 0 0 = 4) = true then kn else seekL kn win (g.length % 16)):=⟨by rw [hearL_snoc,← HH.out]⟩
                  have p1 : ((kk : Int) < (ar.length : Int)) = True:=eq_true (by omega)
                  have p2 : (kk < ar.length) = True:=eq_true hlt
                  have hub:=HUB.out
                  have huo:=HUO.out
                  generalize passB bs [pb] 0 = pk at hx0 hlc hC hub huo
                  by_cases hf : bs.getD 0 0 = 4
                  · have HTG : Aside0 (kn = hearL (decide (bs.getD 0 0 = 4)) win (g.length % 16) (kk + 1) s.known):=⟨by rw [HHS.out,if_pos (decide_eq_true hf)]⟩
                    have hun:=impl_UnpackLink.calls 1001 A' c' pk _ _ _ _ wr hC hlc (hub hf)
                    clear hub huo hf HHS hlc hC
                    go_wp2_with fail
                    refine hun.mono ?_
                    rintro e w6 ⟨v6,rfl,_,hb6⟩
                    have BQ6:=Aside0.mk (below_step BQ.out hb6)
                    clear hun hb6 hx0 BQ
                    go_wp2_with fail
                    go_roundg (ar.length - (kk + 1))
                    case measure => omega
                    case rel => exact ⟨kk + 1,kn,by omega,by omega,by go_num,rfl,by rw [Nat.succ_mul];omega,HTG,BQ6⟩
                  · have HTG : Aside0 (seekL kn win (g.length % 16) = hearL (decide (bs.getD 0 0 = 4)) win (g.length % 16) (kk + 1) s.known):=⟨by rw [HHS.out,if_neg (by rw [decide_eq_false hf];decide)]⟩
                    have hun:=impl_UnpackLink.calls 1001 A' c' pk _ _ _ _ wr hC hlc (huo hf)
                    have HKS:=Aside0.mk (seekL_le kn win (g.length % 16))
                    clear hub huo hf HHS hlc hC
                    go_wp2_with fail
                    refine hun.mono ?_
                    rintro e w6 ⟨v6,rfl,_,hb6⟩
                    have BQ6:=Aside0.mk (below_step BQ.out hb6)
                    clear hun hb6 hx0 BQ
                    go_wp2_with fail
                    obtain ⟨wo,HO9,HB9⟩ : ∃ wo : World,Aside0 (wo = w6) ∧ Aside0 (wo = w6):=⟨w6,⟨rfl⟩,⟨rfl⟩⟩
                    clear HO9 HB9
                    go_loopg [15,34] (win + 1) (fun gg s15 s34 wr => ∃ (k f : Nat),k + f = kn + win + 1 ∧ f ≤ gg ∧ s15 = .int .i64 (kn : Int) ∧ s34 = .int .i64 (k : Int) ∧ Aside0 (seekF (g.length % 16) f k kn = seekL kn win (g.length % 16)) ∧ Aside0 (wr = w6))
                    case atStart => exact ⟨kn,win + 1,by omega,Nat.le_refl _,rfl,rfl,⟨rfl⟩,⟨rfl⟩⟩
                    case round =>
                      obtain ⟨k,f,hkf,hfg,rfl,rfl,HSK,HW6⟩:=hrel
                      have BQ7 : Aside0 (Below W5.heap.size W5 wr):=⟨by rw [HW6.out];exact BQ6.out⟩
                      cases f with
                      | zero =>
                        have HTK : Aside0 (kn = hearL (decide (bs.getD 0 0 = 4)) win (g.length % 16) (kk + 1) s.known):=⟨by rw [← HTG.out,← HSK.out];rfl⟩
                        have q1 : ((k : Int) ≤ (kn : Int) + (win : Int)) = False:=eq_false (by omega)
                        clear HSK HTG HW6
                        go_wp2_with fail
                        go_roundg (ar.length - (kk + 1))
                        case measure => omega
                        case rel => exact ⟨kk + 1,kn,by omega,by omega,by go_num,rfl,by rw [Nat.succ_mul];omega,HTK,BQ7⟩
                      | succ f =>
                        have q1 : ((k : Int) ≤ (kn : Int) + (win : Int)) = True:=eq_true (by omega)
                        by_cases hq : k % 16 = g.length % 16
                        · have HTK : Aside0 (k = hearL (decide (bs.getD 0 0 = 4)) win (g.length % 16) (kk + 1) s.known):=⟨by rw [← HTG.out,← HSK.out,seekF,if_pos hq]⟩
                          have q2 : ((k : Int) % 16 == (g.length : Int) % 16) = true:=beq_iff_eq.mpr (by omega)
                          clear HSK HTG HW6 hq
                          go_wp2_with fail
                          go_roundg (ar.length - (kk + 1))
                          case measure => omega
                          case rel => exact ⟨kk + 1,k,by omega,by omega,by go_num,rfl,by rw [Nat.succ_mul];omega,HTK,BQ7⟩
                        · have HSK2 : Aside0 (seekF (g.length % 16) f (k + 1) kn = seekL kn win (g.length % 16)):=⟨by rw [← HSK.out,seekF,if_neg hq]⟩
                          have q2 : ((k : Int) % 16 == (g.length : Int) % 16) = false:=beq_eq_false_iff_ne.mpr (by omega)
                          clear HSK hq
                          go_wp2_with fail
                          go_roundg f
                          case measure => omega
                          case rel => exact ⟨k + 1,f,by omega,by omega,rfl,by go_num,HSK2,HW6⟩
                · have e : kk = ar.length:=by omega
                  subst e
                  have hro2 : s.rounds < rounds:=hr
                  have hkb2 : ar.length * (win + 1) ≤ 2 * (8 + 1):=Nat.mul_le_mul hcn (by omega)
                  have HSN : Aside0 (fin = runL win l1 l2 l3 (rounds - (s.rounds + 1)) (roundL win l1 l2 l3 s)):=⟨by
                    rw [HF.out]
                    obtain ⟨d,hd⟩ : ∃ d,rounds - s.rounds = d + 1:=⟨rounds - s.rounds - 1,by omega⟩
                    rw [hd,runL,if_pos hk,show rounds - (s.rounds + 1) = d from by omega]⟩
                  have HGT:=Aside0.mk HG.out
                  have HKN : Aside0 (kn = knownL win l1 l2 l3 s):=⟨by rw [HKL.out];exact HH.out⟩
                  have HO8:=Aside0.mk (Kd.S_below HO5.out BQ.out)
                  have HNR8:=Aside0.mk (blk_below HNR5.out BQ.out)
                  have HNO8:=Aside0.mk (blk_below HNO5.out BQ.out)
                  have HNI8:=Aside0.mk (blk_below HNI5.out BQ.out)
                  have HNE8:=Aside0.mk (blk_below HNE5.out BQ.out)
                  have BW8:=Aside0.mk (below_step BW5.out BQ.out)
                  have p3 : ((ar.length : Int) < (ar.length : Int)) = False:=eq_false (by omega)
                  clear HO5 HNR5 HNO5 HNI5 HNE5 BW5 BQ HA5 HUB HUO HOG HH HKL
                  go_wp2_with fail
                  go_roundg (rounds - (s.rounds + 1))
                  case measure => omega
                  case rel => exact ⟨roundL win l1 l2 l3 s,.slice A9 g.length c9,by show s.rounds + 1 ≤ rounds;omega,by show rounds - (s.rounds + 1) ≤ _;omega,by show _ = Value.int .i64 ((knownL win l1 l2 l3 s : Nat) : Int);rw [← HKN.out],by show knownL win l1 l2 l3 s ≤ 77;rw [← HKN.out];omega,by show s.so + manyL l1 win s.known ≤ 8 * (s.rounds + 1);rw [← HM.out];omega,⟨by show s.si + 1 = s.rounds + 1;rw [HSI.out]⟩,by show (gotL win l1 l2 s).length ≤ 16 * (s.rounds + 1);rw [← HGT.out];omega,HSN,⟨by show Kd.S _ _ _ _ _ _ (gotL win l1 l2 s);rw [← HGT.out];exact HO8.out⟩,HNR8,⟨by rw [HNO8.out,HM.out];rfl⟩,HNI8,HNE8,BW8⟩
    · have HE : Aside0 (fin = s) := ⟨by
        rw [HF.out]
        by_cases h : s.rounds < rounds
        · obtain ⟨d,hd⟩ : ∃ d,rounds - s.rounds = d + 1:=⟨rounds - s.rounds - 1,by omega⟩
          rw [hd,runL,if_neg (fun h2 => hgo ⟨h2,h⟩)]
        · rw [show rounds - s.rounds = 0 from by omega,runL]⟩
      have HE2 : Aside0 (fin.rounds = s.rounds ∧ fin.so = s.so ∧ fin.si = s.si ∧ fin.known = s.known ∧ fin.got = s.got):=⟨by rw [HE.out];exact ⟨rfl,rfl,rfl,rfl,rfl⟩⟩
      have k0 : wr.cell? ⟨gr,0,none⟩ = some gv:=(blk_cell HNR.out 0).trans rfl
      have k1 : wr.cell? ⟨gr,1,none⟩ = some (.int .i64 s.rounds):=(blk_cell HNR.out 1).trans rfl
      have k2 : wr.cell? ⟨gr,2,none⟩ = some (.int .i64 0):=(blk_cell HNR.out 2).trans rfl
      have k3 : wr.cell? ⟨gr,3,none⟩ = some (.bool false):=(blk_cell HNR.out 3).trans rfl
      have f2:=blk_frozen HNR.out 2
      have f3:=blk_frozen HNR.out 3
      have ko : wr.cell? ⟨gr + 1,1,none⟩ = some (.int .i64 s.so):=(blk_cell HNO.out 1).trans rfl
      have ki : wr.cell? ⟨gr + 1 + 1,1,none⟩ = some (.int .i64 s.si):=(blk_cell HNI.out 1).trans rfl
      obtain ⟨A9,c9,rfl⟩:=Kd.S_slice HO.out
      by_cases hk : s.known < l1.length
      · have p1 : ((s.known : Int) < (l1.length : Int)) = True:=eq_true (by omega)
        have p2 : ((s.rounds : Int) < (rounds : Int)) = False:=eq_false (fun h => hgo ⟨hk,by omega⟩)
        have p3 : ((l1.length : Int) ≤ (s.known : Int)) = False:=eq_false (by omega)
        have HP : Aside0 (decide (l1.length ≤ s.known) = false):=⟨decide_eq_false (by omega)⟩
        clear hgo hk HF
        go_upto_region 35 with (fail)
        have HX1:=blk_setl (blk_setl HNR.out 2 (.int .i64 ((s.so : Int) + (s.si : Int)))) 3 (.bool false)
        have hne1 : w.heap.size ≠ gr:=by have:=HS1.out;omega
        have HX2:=blk_seto (blk_seto HNE.out hne1 2 (.int .i64 ((s.so : Int) + (s.si : Int)))) hne1 3 (.bool false)
        have HOX:=Aside0.mk (S_other (S_other HO.out HNR.out (by decide) 2 (.int .i64 ((s.so : Int) + (s.si : Int)))) (blk_setl HNR.out 2 _) (by decide) 3 (.bool false))
        have BWX:=Aside0.mk ((BW.out.setCell (p:=⟨gr,2,none⟩) (by have:=HS1.out;show w.heap.size ≤ gr;omega) (.int .i64 ((s.so : Int) + (s.si : Int)))).setCell (p:=⟨gr,3,none⟩) (by have:=HS1.out;show w.heap.size ≤ gr;omega) (.bool false))
        clear k0 k1 k2 k3 f2 f3 ko ki p1 HO BW HNR HNE HNO HNI
        generalize (wr.setCell ⟨gr,2,none⟩ (.int .i64 ((s.so : Int) + (s.si : Int)))).setCell ⟨gr,3,none⟩ (.bool false) = W9 at HX1 HX2 HOX BWX ⊢
        have k0 : W9.cell? ⟨gr,0,none⟩ = some (.slice A9 s.got.length c9):=(blk_cell HX1 0).trans rfl
        have k1 : W9.cell? ⟨gr,1,none⟩ = some (.int .i64 s.rounds):=(blk_cell HX1 1).trans rfl
        have k2 : W9.cell? ⟨gr,2,none⟩ = some (.int .i64 ((s.so : Int) + (s.si : Int))):=(blk_cell HX1 2).trans rfl
        have k3 : W9.cell? ⟨gr,3,none⟩ = some (.bool false):=(blk_cell HX1 3).trans rfl
        have e0 : W9.cell? ⟨w.heap.size,0,none⟩ = some (.slice none 0 0):=(blk_cell HX2 0).trans rfl
        have e1 : W9.cell? ⟨w.heap.size,1,none⟩ = some (.int .i64 0):=(blk_cell HX2 1).trans rfl
        have e2 : W9.cell? ⟨w.heap.size,2,none⟩ = some (.int .i64 0):=(blk_cell HX2 2).trans rfl
        have e3 : W9.cell? ⟨w.heap.size,3,none⟩ = some (.bool false):=(blk_cell HX2 3).trans rfl
        have g0:=blk_frozen HX2 0
        have g1:=blk_frozen HX2 1
        have g2:=blk_frozen HX2 2
        have g3:=blk_frozen HX2 3
        have HX:=Aside0.mk HX2
        clear HX1 HX2 hne1
        go_wp2_with fail
        have HY:=blk_setl (blk_setl (blk_setl (blk_setl HX.out 0 (.slice A9 s.got.length c9)) 1 (.int .i64 s.rounds)) 2 (.int .i64 ((s.so : Int) + (s.si : Int)))) 3 (.bool false)
        have HOY:=Aside0.mk (S_other (S_other (S_other (S_other HOX.out HX.out (by decide) 0 (.slice A9 s.got.length c9)) (blk_setl HX.out 0 _) (by decide) 1 (.int .i64 s.rounds)) (blk_setl (blk_setl HX.out 0 _) 1 _) (by decide) 2 (.int .i64 ((s.so : Int) + (s.si : Int)))) (blk_setl (blk_setl (blk_setl HX.out 0 _) 1 _) 2 _) (by decide) 3 (.bool false))
        have BWY:=Aside0.mk ((((BWX.out.setCell (p:=⟨w.heap.size,0,none⟩) (Nat.le_refl w.heap.size) (.slice A9 s.got.length c9)).setCell (p:=⟨w.heap.size,1,none⟩) (Nat.le_refl w.heap.size) (.int .i64 s.rounds)).setCell (p:=⟨w.heap.size,2,none⟩) (Nat.le_refl w.heap.size) (.int .i64 ((s.so : Int) + (s.si : Int)))).setCell (p:=⟨w.heap.size,3,none⟩) (Nat.le_refl w.heap.size) (.bool false))
        clear HOX BWX HX k0 k1 k2 k3 e0 e1 e2 e3 g0 g1 g2 g3
        generalize (((W9.setCell ⟨w.heap.size,0,none⟩ (.slice A9 s.got.length c9)).setCell ⟨w.heap.size,1,none⟩ (.int .i64 s.rounds)).setCell ⟨w.heap.size,2,none⟩ (.int .i64 ((s.so : Int) + (s.si : Int)))).setCell ⟨w.heap.size,3,none⟩ (.bool false) = W10 at HY HOY BWY ⊢
        refine bodyPost_ret (results_ct rfl _ _ w.heap.size 28 #[.slice A9 s.got.length c9,.int .i64 s.rounds,.int .i64 ((s.so : Int) + (s.si : Int)),.bool false] (0,0) _ rfl HY hu rfl (by kernel_rfl)) rfl ?_
        obtain ⟨q1,q2,q3,q4,q5⟩:=HE2.out
        refine ⟨.slice A9 s.got.length c9,?_,?_,?_⟩
        · rw [q1,q2,q3,q4,HP.out]
          rfl
        · rw [q5];exact HOY.out
        · exact BWY.out
      · have p1 : ((s.known : Int) < (l1.length : Int)) = False:=eq_false (by omega)
        have p3 : ((l1.length : Int) ≤ (s.known : Int)) = True:=eq_true (by omega)
        have HP : Aside0 (decide (l1.length ≤ s.known) = true):=⟨decide_eq_true (by omega)⟩
        clear hgo hk HF
        go_upto_region 35 with (fail)
        have HX1:=blk_setl (blk_setl HNR.out 2 (.int .i64 ((s.so : Int) + (s.si : Int)))) 3 (.bool true)
        have hne1 : w.heap.size ≠ gr:=by have:=HS1.out;omega
        have HX2:=blk_seto (blk_seto HNE.out hne1 2 (.int .i64 ((s.so : Int) + (s.si : Int)))) hne1 3 (.bool true)
        have HOX:=Aside0.mk (S_other (S_other HO.out HNR.out (by decide) 2 (.int .i64 ((s.so : Int) + (s.si : Int)))) (blk_setl HNR.out 2 _) (by decide) 3 (.bool true))
        have BWX:=Aside0.mk ((BW.out.setCell (p:=⟨gr,2,none⟩) (by have:=HS1.out;show w.heap.size ≤ gr;omega) (.int .i64 ((s.so : Int) + (s.si : Int)))).setCell (p:=⟨gr,3,none⟩) (by have:=HS1.out;show w.heap.size ≤ gr;omega) (.bool true))
        clear k0 k1 k2 k3 f2 f3 ko ki p1 HO BW HNR HNE HNO HNI
        generalize (wr.setCell ⟨gr,2,none⟩ (.int .i64 ((s.so : Int) + (s.si : Int)))).setCell ⟨gr,3,none⟩ (.bool true) = W9 at HX1 HX2 HOX BWX ⊢
        have k0 : W9.cell? ⟨gr,0,none⟩ = some (.slice A9 s.got.length c9):=(blk_cell HX1 0).trans rfl
        have k1 : W9.cell? ⟨gr,1,none⟩ = some (.int .i64 s.rounds):=(blk_cell HX1 1).trans rfl
        have k2 : W9.cell? ⟨gr,2,none⟩ = some (.int .i64 ((s.so : Int) + (s.si : Int))):=(blk_cell HX1 2).trans rfl
        have k3 : W9.cell? ⟨gr,3,none⟩ = some (.bool true):=(blk_cell HX1 3).trans rfl
        have e0 : W9.cell? ⟨w.heap.size,0,none⟩ = some (.slice none 0 0):=(blk_cell HX2 0).trans rfl
        have e1 : W9.cell? ⟨w.heap.size,1,none⟩ = some (.int .i64 0):=(blk_cell HX2 1).trans rfl
        have e2 : W9.cell? ⟨w.heap.size,2,none⟩ = some (.int .i64 0):=(blk_cell HX2 2).trans rfl
        have e3 : W9.cell? ⟨w.heap.size,3,none⟩ = some (.bool false):=(blk_cell HX2 3).trans rfl
        have g0:=blk_frozen HX2 0
        have g1:=blk_frozen HX2 1
        have g2:=blk_frozen HX2 2
        have g3:=blk_frozen HX2 3
        have HX:=Aside0.mk HX2
        clear HX1 HX2 hne1
        go_wp2_with fail
        have HY:=blk_setl (blk_setl (blk_setl (blk_setl HX.out 0 (.slice A9 s.got.length c9)) 1 (.int .i64 s.rounds)) 2 (.int .i64 ((s.so : Int) + (s.si : Int)))) 3 (.bool true)
        have HOY:=Aside0.mk (S_other (S_other (S_other (S_other HOX.out HX.out (by decide) 0 (.slice A9 s.got.length c9)) (blk_setl HX.out 0 _) (by decide) 1 (.int .i64 s.rounds)) (blk_setl (blk_setl HX.out 0 _) 1 _) (by decide) 2 (.int .i64 ((s.so : Int) + (s.si : Int)))) (blk_setl (blk_setl (blk_setl HX.out 0 _) 1 _) 2 _) (by decide) 3 (.bool true))
        have BWY:=Aside0.mk ((((BWX.out.setCell (p:=⟨w.heap.size,0,none⟩) (Nat.le_refl w.heap.size) (.slice A9 s.got.length c9)).setCell (p:=⟨w.heap.size,1,none⟩) (Nat.le_refl w.heap.size) (.int .i64 s.rounds)).setCell (p:=⟨w.heap.size,2,none⟩) (Nat.le_refl w.heap.size) (.int .i64 ((s.so : Int) + (s.si : Int)))).setCell (p:=⟨w.heap.size,3,none⟩) (Nat.le_refl w.heap.size) (.bool true))
        clear HOX BWX HX k0 k1 k2 k3 e0 e1 e2 e3 g0 g1 g2 g3
        generalize (((W9.setCell ⟨w.heap.size,0,none⟩ (.slice A9 s.got.length c9)).setCell ⟨w.heap.size,1,none⟩ (.int .i64 s.rounds)).setCell ⟨w.heap.size,2,none⟩ (.int .i64 ((s.so : Int) + (s.si : Int)))).setCell ⟨w.heap.size,3,none⟩ (.bool true) = W10 at HY HOY BWY ⊢
        refine bodyPost_ret (results_ct rfl _ _ w.heap.size 28 #[.slice A9 s.got.length c9,.int .i64 s.rounds,.int .i64 ((s.so : Int) + (s.si : Int)),.bool true] (0,0) _ rfl HY hu rfl (by kernel_rfl)) rfl ?_
        obtain ⟨q1,q2,q3,q4,q5⟩:=HE2.out
        refine ⟨.slice A9 s.got.length c9,?_,?_,?_⟩
        · rw [q1,q2,q3,q4,HP.out]
          rfl
        · rw [q5];exact HOY.out
        · exact BWY.out
set_option maxHeartbeats 8000000 in
set_option maxRecDepth 1000000 in
theorem x_RunLink_no (a0 a4 : Int) (A1 : Option Addr) (c1 : Nat) (l1 : List (List Int)) (A2 : Option Addr) (c2 : Nat) (l2 : List Int) (A3 : Option Addr) (c3 : Nat) (l3 : List Int) (w : World) (hok : linkB a0 l1 l2 l3 a4 = false)
    (hr1 : Kd.C (Kd.slice 5 (Kd.int .u8)) w A1 l1.length l1) (hc1 : l1.length ≤ c1) (hr2 : Kd.C (Kd.int .i64) w A2 l2.length l2) (hc2 : l2.length ≤ c2) (hr3 : Kd.C (Kd.int .i64) w A3 l3.length l3) (hc3 : l3.length ≤ c3) :
    Calls Try.prog 10 #[.int .i64 a0,.slice A1 l1.length c1,.slice A2 l2.length c2,.slice A3 l3.length c3,.int .i64 a4] w fun e w' =>
      e = .returned (.tuple #[.agg #[.slice none 0 0,.int .i64 0,.int .i64 0,.bool false],.bool false]) ∧ Below w.heap.size w w':=by
  have hu:=Try.underlying28
  have hb0 : Below w.heap.size w (w.alloc (.cells #[.slice none 0 0,.int .i64 0,.int .i64 0,.bool false] 28)):=below_alloc (Below.refl _ w) _
  have hn0:=blk_new w (.cells #[.slice none 0 0,.int .i64 0,.int .i64 0,.bool false] 28)
  have hlk:=fun W (hW : Below w.heap.size w W) => impl_linkOk.calls a0 A1 c1 l1 A2 c2 l2 A3 c3 l3 a4 false W (Kd.C_below hr1 hW) hc1 (Kd.C_below hr2 hW) hc2 (Kd.C_below hr3 hW) hc3 (by show some _ = some _;rw [hok])
  have HB0:=Aside0.mk hb0
  have HN0:=Aside0.mk hn0
  have HLK:=Aside0.mk hlk
  clear hr1 hr2 hr3 hc1 hc2 hc3 hb0 hn0 hlk hok
  go_enter Try.func10,Try.ntmps10
  go_wp2_with fail
  refine (HLK.out _ HB0.out).mono ?_
  rintro e w1 ⟨rfl,hb1⟩
  have HB1:=Aside0.mk (below_step HB0.out hb1)
  have HX:=blk_below HN0.out hb1
  have e0 : w1.cell? ⟨w.heap.size,0,none⟩ = some (.slice none 0 0):=(blk_cell HX 0).trans rfl
  have e1 : w1.cell? ⟨w.heap.size,1,none⟩ = some (.int .i64 0):=(blk_cell HX 1).trans rfl
  have e2 : w1.cell? ⟨w.heap.size,2,none⟩ = some (.int .i64 0):=(blk_cell HX 2).trans rfl
  have e3 : w1.cell? ⟨w.heap.size,3,none⟩ = some (.bool false):=(blk_cell HX 3).trans rfl
  have g0:=blk_frozen HX 0
  have g1:=blk_frozen HX 1
  have g2:=blk_frozen HX 2
  have g3:=blk_frozen HX 3
  have HX1:=Aside0.mk HX
  clear hb1 HB0 HN0 HLK HX
  go_wp2_with fail
  have HY:=blk_setl (blk_setl (blk_setl (blk_setl HX1.out 0 (.slice none 0 0)) 1 (.int .i64 0)) 2 (.int .i64 0)) 3 (.bool false)
  have BWY:=Aside0.mk ((((HB1.out.setCell (p:=⟨w.heap.size,0,none⟩) (Nat.le_refl _) (.slice none 0 0)).setCell (p:=⟨w.heap.size,1,none⟩) (Nat.le_refl _) (.int .i64 0)).setCell (p:=⟨w.heap.size,2,none⟩) (Nat.le_refl _) (.int .i64 0)).setCell (p:=⟨w.heap.size,3,none⟩) (Nat.le_refl _) (.bool false))
  clear e0 e1 e2 e3 g0 g1 g2 g3 HX1 HB1
  generalize (((w1.setCell ⟨w.heap.size,0,none⟩ (.slice none 0 0)).setCell ⟨w.heap.size,1,none⟩ (.int .i64 0)).setCell ⟨w.heap.size,2,none⟩ (.int .i64 0)).setCell ⟨w.heap.size,3,none⟩ (.bool false) = W10 at HY BWY ⊢
  refine bodyPost_ret (results_ct rfl _ _ w.heap.size 28 #[.slice none 0 0,.int .i64 0,.int .i64 0,.bool false] (0,0) _ rfl HY hu rfl (by kernel_rfl)) rfl ?_
  exact ⟨rfl,BWY.out⟩

/-! ### impl_RunLink: function 10 (by hand) -/
def impl_RunLink.f (a0 : Int) (l1 : List (List Int)) (l2 : List Int) (l3 : List Int) (a4 : Int) : Option ((List (List Int)) × Int × Int × Bool × Bool) :=
 if linkB a0 l1 l2 l3 a4 = true then (if bytesB l1 = true then some ((runL a0.toNat l1 l2 l3 a4.toNat startL).got,((runL a0.toNat l1 l2 l3 a4.toNat startL).rounds : Int),((runL a0.toNat l1 l2 l3 a4.toNat startL).so : Int) + ((runL a0.toNat l1 l2 l3 a4.toNat startL).si : Int),decide (l1.length ≤ (runL a0.toNat l1 l2 l3 a4.toNat startL).known),true) else none) else some ([],0,0,false,false)
set_option maxHeartbeats 4000000 in
set_option maxRecDepth 100000 in
theorem impl_RunLink.calls (a0 : Int) (A1 : Option Addr) (c1 : Nat) (l1 : List (List Int)) (A2 : Option Addr) (c2 : Nat) (l2 : List Int) (A3 : Option Addr) (c3 : Nat) (l3 : List Int) (a4 : Int) (r1 : List (List Int)) (r2 : Int) (r3 : Int) (r4 : Bool) (r5 : Bool) (w : World) (hr1 : Kd.C (Kd.slice 5 (Kd.int .u8)) w A1 l1.length l1) (hc1 : l1.length ≤ c1) (hr2 : Kd.C (Kd.int .i64) w A2 l2.length l2) (hc2 : l2.length ≤ c2) (hr3 : Kd.C (Kd.int .i64) w A3 l3.length l3) (hc3 : l3.length ≤ c3) (h : impl_RunLink.f a0 l1 l2 l3 a4 = some (r1,r2,r3,r4,r5)) :
  Calls Try.prog 10 #[.int .i64 a0,.slice A1 l1.length c1,.slice A2 l2.length c2,.slice A3 l3.length c3,.int .i64 a4] w fun e w' => ∃ v0_ : Value,e = .returned (.tuple #[.agg #[v0_,.int .i64 r2,.int .i64 r3,.bool r4],.bool r5]) ∧ Kd.S (Kd.slice 5 (Kd.int .u8)) 22 w' w.heap.size (fun _ => True) v0_ r1 ∧ Below w.heap.size w w':=by
 unfold impl_RunLink.f at h
 by_cases hl : linkB a0 l1 l2 l3 a4 = true
 ·rw [if_pos hl] at h
  by_cases hb : bytesB l1 = true
  ·rw [if_pos hb] at h
   injection h with h
   injection h with h1 h
   injection h with h2 h
   injection h with h3 h
   injection h with h4 h5
   subst h1
   subst h2
   subst h3
   subst h4
   subst h5
   have hl2:=hl
   unfold linkB at hl2
   simp only [Bool.and_eq_true,decide_eq_true_eq] at hl2
   obtain ⟨n,rfl⟩ : ∃ n : Nat,a0 = (n : Int):=⟨a0.toNat,by omega⟩
   obtain ⟨k,rfl⟩ : ∃ n : Nat,a4 = (n : Int):=⟨a4.toNat,by omega⟩
   rw [Int.toNat_natCast,Int.toNat_natCast]
   exact x_RunLink n k A1 c1 l1 A2 c2 l2 A3 c3 l3 w hl (bytesB_iff.1 hb) hr1 hc1 hr2 hc2 hr3 hc3
  ·rw [if_neg hb] at h
   cases h
 ·rw [if_neg hl] at h
  injection h with h
  injection h with h1 h
  injection h with h2 h
  injection h with h3 h
  injection h with h4 h5
  subst h1
  subst h2
  subst h3
  subst h4
  subst h5
  refine (x_RunLink_no a0 a4 A1 c1 l1 A2 c2 l2 A3 c3 l3 w (by cases hq : linkB a0 l1 l2 l3 a4 <;> simp_all) hr1 hc1 hr2 hc2 hr3 hc3).mono ?_
  rintro e w' ⟨rfl,hb⟩
  exact ⟨_,rfl,Kd.S_nil _ _ _ _ _,hb⟩

/-! ### spec_l1In: function 36 -/
def spec_l1In.f (a0 : Int) (a1 : Int) (a2 : Int) : Option (Bool):=if a0 ≥ a1 then (some (decide (a0 ≤ a2))) else (some false)
set_option maxHeartbeats 8000000 in
set_option maxRecDepth 100000 in
theorem spec_l1In.calls (a0 : Int) (a1 : Int) (a2 : Int) (r : Bool) (w : World) (h : spec_l1In.f a0 a1 a2 = some r) :
  Calls Try.prog 36 #[.int .i64 a0,.int .i64 a1,.int .i64 a2] w fun e w' => e = .returned (.bool r) ∧ Drawn0 w w':=by
 have H : (if a0 ≥ a1 then (some (decide (a0 ≤ a2))) else (some false)) = some r:=h
 clear h
 by_cases c4 : a0 ≥ a1
 ·rw [if_pos c4] at H
  have c4b0 : decide (a1 ≤ a0) = true:=decide_eq_true c4
  clear c4
  obtain rfl:=Option.some.inj H
  go_enter Try.func36,Try.ntmps36
  go_wp2
  go_ret
  exact ⟨by first|rfl|(simp;done)|(simp [*];done),by repeat (first|exact Drawn0.refl _|apply Drawn0.step)⟩
 ·rw [if_neg c4] at H
  have c4b0 : decide (a1 ≤ a0) = false:=decide_eq_false c4
  clear c4
  obtain rfl:=Option.some.inj H
  go_enter Try.func36,Try.ntmps36
  go_wp2
  go_ret
  exact ⟨by first|rfl|(simp;done)|(simp [*];done),by repeat (first|exact Drawn0.refl _|apply Drawn0.step)⟩

/-! ### spec_FatesValid: function 44 -/
def spec_FatesValid.l0 : Nat → List Int → Int → Option (Bool)
 | 0,_,_ => none
 | k + 1,x0,x3 => if x3 < (x0.length : Int) then (if 0 ≤ x3 then ((spec_l1In.f (rd x0 x3) 0 4).bind fun t308 => (if t308 = true then (spec_FatesValid.l0 k x0 (wrap64 (x3 + 1))) else (some false))) else (none)) else (some (decide ((x0.length : Int) ≤ 200)))
def spec_FatesValid.f (k : Nat) (l0 : List Int) : Option (Bool):=spec_FatesValid.l0 k l0 0
theorem spec_FatesValid.mono_l : ∀ k,(∀ y0 y1,LeO (spec_FatesValid.l0 k y0 y1) (spec_FatesValid.l0 (k + 1) y0 y1))
 | 0 => fun _ _ r h => by simp [spec_FatesValid.l0] at h
 | k + 1 => by
  have ih0:=spec_FatesValid.mono_l k
  ·intro y0 y1
   unfold spec_FatesValid.l0
   repeat' first
   | (with_reducible exact ih0 _ _)
   | (with_reducible exact LeO.refl _)
   | (with_reducible exact LeO.none _)
   | (with_reducible refine LeO.ite ?_ ?_)
   | (with_reducible refine LeO.bind ?_ (fun _ => ?_))
   | exact ih0 _ _
   | exact LeO.none _
   | refine LeO.ite ?_ ?_
   | refine LeO.bind ?_ (fun _ => ?_)
theorem spec_FatesValid.mono : ∀ a0 k,LeO (spec_FatesValid.f k a0) (spec_FatesValid.f (k + 1) a0):=by
 intro a0 k
 have ih0:=spec_FatesValid.mono_l k
 unfold spec_FatesValid.f
 repeat' first
   | (with_reducible exact ih0 _ _)
   | (with_reducible exact LeO.refl _)
   | (with_reducible exact LeO.none _)
   | (with_reducible refine LeO.ite ?_ ?_)
   | (with_reducible refine LeO.bind ?_ (fun _ => ?_))
   | exact ih0 _ _
   | exact LeO.none _
   | refine LeO.ite ?_ ?_
   | refine LeO.bind ?_ (fun _ => ?_)
set_option maxHeartbeats 8000000 in
set_option maxRecDepth 100000 in
theorem spec_FatesValid.calls (k : Nat) (A0 : Option Addr) (c0 : Nat) (l0 : List Int) (r : Bool) (w : World) (hr0 : Kd.C (Kd.int .i64) w A0 l0.length l0) (hc0 : l0.length ≤ c0) (h : spec_FatesValid.f k l0 = some r) :
  Calls Try.prog 44 #[.slice A0 l0.length c0] w fun e w' => e = .returned (.bool r) ∧ Drawn0 w w':=by
 have HR0:=mk_ hr0
 have HC0:=mk_ hc0
 clear hr0 hc0
 have H : (spec_FatesValid.l0 k l0 0) = some r:=h
 clear h
 have H':=mk_ H
 clear H
 go_enter Try.func44,Try.ntmps44
 go_wp2
 go_loopg [3] k (fun kq v3 w' => ∃ (x3_1 : Int),v3 = .int .i64 x3_1 ∧ Aside0 (spec_FatesValid.l0 kq l0 x3_1 = some r) ∧ Aside0 (kq ≤ k) ∧ Drawn0 w w')
 case atStart => exact ⟨(0),qf_,H',⟨Nat.le_refl _⟩,by repeat (first|exact Drawn0.refl _|apply Drawn0.step)⟩
 case round =>
  clear H'
  obtain ⟨x3_1,rfl,HA,HK1,⟨m1,rfl⟩⟩:=hrel
  cases gk with
  | zero => exact absurd HA.out (by simp [spec_FatesValid.l0])
  | succ k1 =>
   have H:=HA.out
   clear HA
   simp only [spec_FatesValid.l0] at H
   by_cases c2 : x3_1 < (l0.length : Int)
   ·rw [if_pos c2] at H
    have c2b0 : decide (x3_1 < (l0.length : Int)) = true:=decide_eq_true c2
    clear c2
    by_cases c3 : 0 ≤ x3_1
    ·rw [if_pos c3] at H
     have c3b0 : decide (0 ≤ x3_1) = true:=decide_eq_true c3
     clear c3
     replace H:=Option.bind_eq_some_iff.mp H
     obtain ⟨t308,A40,H⟩:=H
     replace H : (if t308 = true then (spec_FatesValid.l0 k1 l0 (wrap64 (x3_1 + 1))) else (some false)) = some r:=H
     have A4:=mk_ A40
     clear A40
     by_cases c5 : t308 = true
     ·subst c5
      have H1 : (spec_FatesValid.l0 k1 l0 (wrap64 (x3_1 + 1))) = some r:=by rw [if_pos rfl] at H;exact H
      clear H
      have H:=H1
      clear H1
      have H':=mk_ H
      clear H
      have p307 : 0 ≤ (x3_1 : Int):=od_ qa_
      have q307 : x3_1 < (l0.length : Int):=od_ qa_
      obtain ⟨ad307,e307,hx307_0⟩:=Kd.at_int HR0.out x3_1 p307 q307
      cases e307
      replace p307:=eq_true p307
      replace q307:=eq_true q307
      go_wp2_with (first|((with_reducible refine gate_callee (f:=36) rfl ?_);refine goesL_ (some 14) rfl rfl Try.func36 (by kernel_rfl) rfl #[.int .i64 (rd l0 x3_1),.int .i64 0,.int .i64 4] rfl qm_ ?_;(with_reducible refine (spec_l1In.calls (rd l0 x3_1) 0 4 true _ A4.out).mono ?_);rintro e w' ⟨rfl,⟨nd,rfl⟩⟩;refine ⟨_,rfl,?_⟩))
      go_roundg k1
      case measure => have:=HK1.out;omega
      case rel => exact ⟨(wrap64 (x3_1 + 1)),qf_,H',⟨by have:=HK1.out;omega⟩,by repeat (first|exact Drawn0.refl _|apply Drawn0.step)⟩
     ·replace c5:=Bool.eq_false_iff.mpr c5
      subst c5
      have H1 : (some false) = some r:=by rw [if_neg (show ¬ (false = true) by decide)] at H;exact H
      clear H
      have H:=H1
      clear H1
      obtain rfl:=Option.some.inj H
      have p307 : 0 ≤ (x3_1 : Int):=od_ qa_
      have q307 : x3_1 < (l0.length : Int):=od_ qa_
      obtain ⟨ad307,e307,hx307_0⟩:=Kd.at_int HR0.out x3_1 p307 q307
      cases e307
      replace p307:=eq_true p307
      replace q307:=eq_true q307
      go_wp2_with (first|((with_reducible refine gate_callee (f:=36) rfl ?_);refine goesL_ (some 14) rfl rfl Try.func36 (by kernel_rfl) rfl #[.int .i64 (rd l0 x3_1),.int .i64 0,.int .i64 4] rfl qm_ ?_;(with_reducible refine (spec_l1In.calls (rd l0 x3_1) 0 4 false _ A4.out).mono ?_);rintro e w' ⟨rfl,⟨nd,rfl⟩⟩;refine ⟨_,rfl,?_⟩))
      go_ret
      exact ⟨by first|rfl|(simp;done)|(simp [*];done),by repeat (first|exact Drawn0.refl _|apply Drawn0.step)⟩
    ·rw [if_neg c3] at H
     exact absurd H (by simp)
   ·rw [if_neg c2] at H
    have c2b0 : decide (x3_1 < (l0.length : Int)) = false:=decide_eq_false c2
    clear c2
    obtain rfl:=Option.some.inj H
    go_wp2
    go_ret
    exact ⟨by first|rfl|(simp;done)|(simp [*];done),by repeat (first|exact Drawn0.refl _|apply Drawn0.step)⟩

/-! ### spec_l5Link: function 35 -/
def spec_l5Link.l0 : Nat → Int → List (List Int) → List Int → List Int → Int → Option (Bool)
 | 0,_,_,_,_,_ => none
 | k + 1,x0,x1,x2,x3,x9 => if x9 < (x1.length : Int) then (if 0 ≤ x9 then (if ((rd_L2 x1 x9).length : Int) > 597 then (some false) else (spec_l5Link.l0 k x0 x1 x2 x3 (wrap64 (x9 + 1)))) else (none)) else ((spec_l1In.f x0 1 8).bind fun t310 => (if t310 = true then (if (x1.length : Int) ≤ 60 then ((spec_FatesValid.f k x2).bind fun t311 => (if t311 = true then ((spec_FatesValid.f k x3).bind fun t312 => (some t312)) else (some false))) else (some false)) else (some false)))
def spec_l5Link.f (k : Nat) (a0 : Int) (l1 : List (List Int)) (l2 : List Int) (l3 : List Int) : Option (Bool):=spec_l5Link.l0 k a0 l1 l2 l3 0
theorem spec_l5Link.mono_l : ∀ k,(∀ y0 y1 y2 y3 y4,LeO (spec_l5Link.l0 k y0 y1 y2 y3 y4) (spec_l5Link.l0 (k + 1) y0 y1 y2 y3 y4))
 | 0 => fun _ _ _ _ _ r h => by simp [spec_l5Link.l0] at h
 | k + 1 => by
  have ih0:=spec_l5Link.mono_l k
  ·intro y0 y1 y2 y3 y4
   unfold spec_l5Link.l0
   repeat' first
   | (with_reducible exact ih0 _ _ _ _ _)
   | (with_reducible exact spec_FatesValid.mono _ _)
   | (with_reducible exact LeO.refl _)
   | (with_reducible exact LeO.none _)
   | (with_reducible refine LeO.ite ?_ ?_)
   | (with_reducible refine LeO.bind ?_ (fun _ => ?_))
   | exact ih0 _ _ _ _ _
   | exact spec_FatesValid.mono _ _
   | exact LeO.none _
   | refine LeO.ite ?_ ?_
   | refine LeO.bind ?_ (fun _ => ?_)
theorem spec_l5Link.mono : ∀ a0 a1 a2 a3 k,LeO (spec_l5Link.f k a0 a1 a2 a3) (spec_l5Link.f (k + 1) a0 a1 a2 a3):=by
 intro a0 a1 a2 a3 k
 have ih0:=spec_l5Link.mono_l k
 unfold spec_l5Link.f
 repeat' first
   | (with_reducible exact ih0 _ _ _ _ _)
   | (with_reducible exact spec_FatesValid.mono _ _)
   | (with_reducible exact LeO.refl _)
   | (with_reducible exact LeO.none _)
   | (with_reducible refine LeO.ite ?_ ?_)
   | (with_reducible refine LeO.bind ?_ (fun _ => ?_))
   | exact ih0 _ _ _ _ _
   | exact spec_FatesValid.mono _ _
   | exact LeO.none _
   | refine LeO.ite ?_ ?_
   | refine LeO.bind ?_ (fun _ => ?_)
set_option maxHeartbeats 8000000 in
set_option maxRecDepth 100000 in
theorem spec_l5Link.calls (k : Nat) (a0 : Int) (A1 : Option Addr) (c1 : Nat) (l1 : List (List Int)) (A2 : Option Addr) (c2 : Nat) (l2 : List Int) (A3 : Option Addr) (c3 : Nat) (l3 : List Int) (r : Bool) (w : World) (hr1 : Kd.C (Kd.slice 5 (Kd.int .u8)) w A1 l1.length l1) (hc1 : l1.length ≤ c1) (hr2 : Kd.C (Kd.int .i64) w A2 l2.length l2) (hc2 : l2.length ≤ c2) (hr3 : Kd.C (Kd.int .i64) w A3 l3.length l3) (hc3 : l3.length ≤ c3) (h : spec_l5Link.f k a0 l1 l2 l3 = some r) :
  Calls Try.prog 35 #[.int .i64 a0,.slice A1 l1.length c1,.slice A2 l2.length c2,.slice A3 l3.length c3] w fun e w' => e = .returned (.bool r) ∧ Drawn0 w w':=by
 have HR1:=mk_ hr1
 have HC1:=mk_ hc1
 clear hr1 hc1
 have HR2:=mk_ hr2
 have HC2:=mk_ hc2
 clear hr2 hc2
 have HR3:=mk_ hr3
 have HC3:=mk_ hc3
 clear hr3 hc3
 have H : (spec_l5Link.l0 k a0 l1 l2 l3 0) = some r:=h
 clear h
 have H':=mk_ H
 clear H
 go_enter Try.func35,Try.ntmps35
 go_wp2
 go_loopg [9] k (fun kq v9 w' => ∃ (x9_1 : Int),v9 = .int .i64 x9_1 ∧ Aside0 (spec_l5Link.l0 kq a0 l1 l2 l3 x9_1 = some r) ∧ Aside0 (kq ≤ k) ∧ Drawn0 w w')
 case atStart => exact ⟨(0),qf_,H',⟨Nat.le_refl _⟩,by repeat (first|exact Drawn0.refl _|apply Drawn0.step)⟩
 case round =>
  clear H'
  try clear c1
  try clear c2
  try clear p2
  try clear c3
  obtain ⟨x9_1,rfl,HA,HK1,⟨m1,rfl⟩⟩:=hrel
  cases gk with
  | zero => exact absurd HA.out (by simp [spec_l5Link.l0])
  | succ k1 =>
   have H:=HA.out
   clear HA
   simp only [spec_l5Link.l0] at H
   by_cases c5 : x9_1 < (l1.length : Int)
   ·rw [if_pos c5] at H
    have c5b0 : decide (x9_1 < (l1.length : Int)) = true:=decide_eq_true c5
    clear c5
    by_cases c6 : 0 ≤ x9_1
    ·rw [if_pos c6] at H
     have c6b0 : decide (0 ≤ x9_1) = true:=decide_eq_true c6
     clear c6
     by_cases c7 : ((rd_L2 l1 x9_1).length : Int) > 597
     ·rw [if_pos c7] at H
      have c7b0 : decide (597 < ((rd_L2 l1 x9_1).length : Int)) = true:=decide_eq_true c7
      have c7b1 : decide (597 < (rd_L2 l1 x9_1).length) = true:=decide_eq_true (by omega)
      clear c7
      obtain rfl:=Option.some.inj H
      have p309 : 0 ≤ (x9_1 : Int):=od_ qa_
      have q309 : x9_1 < (l1.length : Int):=od_ qa_
      obtain ⟨ad309,A309_0,c309_0,e309,hx309_0,hl309_0,hi309_0⟩:=at_L2 HR1.out x9_1 p309 q309
      cases e309
      have HR309_0:=mk_ hi309_0
      have HC309_0:=mk_ hl309_0
      clear hi309_0 hl309_0
      replace p309:=eq_true p309
      replace q309:=eq_true q309
      go_wp2
      go_ret
      exact ⟨by first|rfl|(simp;done)|(simp [*];done),by repeat (first|exact Drawn0.refl _|apply Drawn0.step)⟩
     ·rw [if_neg c7] at H
      have c7b0 : decide (597 < ((rd_L2 l1 x9_1).length : Int)) = false:=decide_eq_false c7
      have c7b1 : decide (597 < (rd_L2 l1 x9_1).length) = false:=decide_eq_false (by omega)
      clear c7
      have H':=mk_ H
      clear H
      have p309 : 0 ≤ (x9_1 : Int):=od_ qa_
      have q309 : x9_1 < (l1.length : Int):=od_ qa_
      obtain ⟨ad309,A309_0,c309_0,e309,hx309_0,hl309_0,hi309_0⟩:=at_L2 HR1.out x9_1 p309 q309
      cases e309
      have HR309_0:=mk_ hi309_0
      have HC309_0:=mk_ hl309_0
      clear hi309_0 hl309_0
      replace p309:=eq_true p309
      replace q309:=eq_true q309
      go_wp2
      go_roundg k1
      case measure => have:=HK1.out;omega
      case rel => exact ⟨(wrap64 (x9_1 + 1)),qf_,H',⟨by have:=HK1.out;omega⟩,by repeat (first|exact Drawn0.refl _|apply Drawn0.step)⟩
    ·rw [if_neg c6] at H
     exact absurd H (by simp)
   ·rw [if_neg c5] at H
    have c5b0 : decide (x9_1 < (l1.length : Int)) = false:=decide_eq_false c5
    clear c5
    replace H:=Option.bind_eq_some_iff.mp H
    obtain ⟨t310,A80,H⟩:=H
    replace H : (if t310 = true then (if (l1.length : Int) ≤ 60 then ((spec_FatesValid.f k1 l2).bind fun t311 => (if t311 = true then ((spec_FatesValid.f k1 l3).bind fun t312 => (some t312)) else (some false))) else (some false)) else (some false)) = some r:=H
    have A8:=mk_ A80
    clear A80
    by_cases c9 : t310 = true
    ·subst c9
     have H1 : (if (l1.length : Int) ≤ 60 then ((spec_FatesValid.f k1 l2).bind fun t311 => (if t311 = true then ((spec_FatesValid.f k1 l3).bind fun t312 => (some t312)) else (some false))) else (some false)) = some r:=by rw [if_pos rfl] at H;exact H
     clear H
     have H:=H1
     clear H1
     by_cases c10 : (l1.length : Int) ≤ 60
     ·rw [if_pos c10] at H
      have c10b0 : decide ((l1.length : Int) ≤ 60) = true:=decide_eq_true c10
      have c10b1 : decide (l1.length ≤ 60) = true:=decide_eq_true (by omega)
      clear c10
      replace H:=Option.bind_eq_some_iff.mp H
      obtain ⟨t311,A110,H⟩:=H
      replace H : (if t311 = true then ((spec_FatesValid.f k1 l3).bind fun t312 => (some t312)) else (some false)) = some r:=H
      have A11:=mk_ A110
      clear A110
      by_cases c12 : t311 = true
      ·subst c12
       have H1 : ((spec_FatesValid.f k1 l3).bind fun t312 => (some t312)) = some r:=by rw [if_pos rfl] at H;exact H
       clear H
       have H:=H1
       clear H1
       replace H:=Option.bind_eq_some_iff.mp H
       obtain ⟨t312,A130,H⟩:=H
       replace H : (some t312) = some r:=H
       have A13:=mk_ A130
       clear A130
       obtain rfl:=Option.some.inj H
       go_wp2_with (first|((with_reducible refine gate_callee (f:=36) rfl ?_);refine goesL_ (some 23) rfl rfl Try.func36 (by kernel_rfl) rfl #[.int .i64 a0,.int .i64 1,.int .i64 8] rfl qm_ ?_;(with_reducible refine (spec_l1In.calls a0 1 8 true _ A8.out).mono ?_);rintro e w' ⟨rfl,⟨nd,rfl⟩⟩;refine ⟨_,rfl,?_⟩)|(go_at_call 44;(with_reducible refine (spec_FatesValid.calls k1 _ _ l2 true _ ?side1 ?side2 A11.out).mono ?_);(case side1 => repeat (first|exact HR2.out|(with_reducible refine ca_ ?_ _)|(with_reducible refine cn_ ?_ _)|(with_reducible refine cd_ ?_)));(case side2 => exact HC2.out);rintro e w' ⟨rfl,⟨nd,rfl⟩⟩)|(go_at_call 44;(with_reducible refine (spec_FatesValid.calls k1 _ _ l3 t312 _ ?side1 ?side2 A13.out).mono ?_);(case side1 => repeat (first|exact HR3.out|(with_reducible refine ca_ ?_ _)|(with_reducible refine cn_ ?_ _)|(with_reducible refine cd_ ?_)));(case side2 => exact HC3.out);rintro e w' ⟨rfl,⟨nd,rfl⟩⟩))
       go_ret
       exact ⟨by first|rfl|(simp;done)|(simp [*];done),by repeat (first|exact Drawn0.refl _|apply Drawn0.step)⟩
      ·replace c12:=Bool.eq_false_iff.mpr c12
       subst c12
       have H1 : (some false) = some r:=by rw [if_neg (show ¬ (false = true) by decide)] at H;exact H
       clear H
       have H:=H1
       clear H1
       obtain rfl:=Option.some.inj H
       go_wp2_with (first|((with_reducible refine gate_callee (f:=36) rfl ?_);refine goesL_ (some 23) rfl rfl Try.func36 (by kernel_rfl) rfl #[.int .i64 a0,.int .i64 1,.int .i64 8] rfl qm_ ?_;(with_reducible refine (spec_l1In.calls a0 1 8 true _ A8.out).mono ?_);rintro e w' ⟨rfl,⟨nd,rfl⟩⟩;refine ⟨_,rfl,?_⟩)|(go_at_call 44;(with_reducible refine (spec_FatesValid.calls k1 _ _ l2 false _ ?side1 ?side2 A11.out).mono ?_);(case side1 => repeat (first|exact HR2.out|(with_reducible refine ca_ ?_ _)|(with_reducible refine cn_ ?_ _)|(with_reducible refine cd_ ?_)));(case side2 => exact HC2.out);rintro e w' ⟨rfl,⟨nd,rfl⟩⟩))
       go_ret
       exact ⟨by first|rfl|(simp;done)|(simp [*];done),by repeat (first|exact Drawn0.refl _|apply Drawn0.step)⟩
     ·rw [if_neg c10] at H
      have c10b0 : decide ((l1.length : Int) ≤ 60) = false:=decide_eq_false c10
      have c10b1 : decide (l1.length ≤ 60) = false:=decide_eq_false (by omega)
      clear c10
      obtain rfl:=Option.some.inj H
      go_wp2_with (first|((with_reducible refine gate_callee (f:=36) rfl ?_);refine goesL_ (some 23) rfl rfl Try.func36 (by kernel_rfl) rfl #[.int .i64 a0,.int .i64 1,.int .i64 8] rfl qm_ ?_;(with_reducible refine (spec_l1In.calls a0 1 8 true _ A8.out).mono ?_);rintro e w' ⟨rfl,⟨nd,rfl⟩⟩;refine ⟨_,rfl,?_⟩))
      go_ret
      exact ⟨by first|rfl|(simp;done)|(simp [*];done),by repeat (first|exact Drawn0.refl _|apply Drawn0.step)⟩
    ·replace c9:=Bool.eq_false_iff.mpr c9
     subst c9
     have H1 : (some false) = some r:=by rw [if_neg (show ¬ (false = true) by decide)] at H;exact H
     clear H
     have H:=H1
     clear H1
     obtain rfl:=Option.some.inj H
     go_wp2_with (first|((with_reducible refine gate_callee (f:=36) rfl ?_);refine goesL_ (some 23) rfl rfl Try.func36 (by kernel_rfl) rfl #[.int .i64 a0,.int .i64 1,.int .i64 8] rfl qm_ ?_;(with_reducible refine (spec_l1In.calls a0 1 8 false _ A8.out).mono ?_);rintro e w' ⟨rfl,⟨nd,rfl⟩⟩;refine ⟨_,rfl,?_⟩))
     go_ret
     exact ⟨by first|rfl|(simp;done)|(simp [*];done),by repeat (first|exact Drawn0.refl _|apply Drawn0.step)⟩

/-! ### spec_l1Data: function 97 -/
def spec_l1Data.f (l0 : List Int) : Option (Bool):=some (decide ((l0.length : Int) ≤ 600))
set_option maxHeartbeats 8000000 in
set_option maxRecDepth 100000 in
theorem spec_l1Data.calls (A0 : Option Addr) (c0 : Nat) (l0 : List Int) (r : Bool) (w : World) (hr0 : Kd.C (Kd.int .u8) w A0 l0.length l0) (hc0 : l0.length ≤ c0) (h : spec_l1Data.f l0 = some r) :
  Calls Try.prog 97 #[.slice A0 l0.length c0] w fun e w' => e = .returned (.bool r) ∧ Drawn0 w w':=by
 have HR0:=mk_ hr0
 have HC0:=mk_ hc0
 clear hr0 hc0
 have H : (some (decide ((l0.length : Int) ≤ 600))) = some r:=h
 clear h
 obtain rfl:=Option.some.inj H
 go_enter Try.func97,Try.ntmps97
 go_wp2
 go_ret
 exact ⟨by first|rfl|(simp;done)|(simp [*];done),by repeat (first|exact Drawn0.refl _|apply Drawn0.step)⟩

/-! ### spec_l2Word: function 103 -/
def spec_l2Word.f (a0 : Int) : Option (Bool):=(spec_l1In.f a0 0 65535).bind fun t313 => (some t313)
set_option maxHeartbeats 8000000 in
set_option maxRecDepth 100000 in
theorem spec_l2Word.calls (a0 : Int) (r : Bool) (w : World) (h : spec_l2Word.f a0 = some r) :
  Calls Try.prog 103 #[.int .i64 a0] w fun e w' => e = .returned (.bool r) ∧ Drawn0 w w':=by
 have H : ((spec_l1In.f a0 0 65535).bind fun t313 => (some t313)) = some r:=h
 clear h
 replace H:=Option.bind_eq_some_iff.mp H
 obtain ⟨t313,A20,H⟩:=H
 replace H : (some t313) = some r:=H
 have A2:=mk_ A20
 clear A20
 obtain rfl:=Option.some.inj H
 go_enter Try.func103,Try.ntmps103
 go_wp2_with (first|((with_reducible refine gate_callee (f:=36) rfl ?_);refine goesL_ (some 4) rfl rfl Try.func36 (by kernel_rfl) rfl #[.int .i64 a0,.int .i64 0,.int .i64 65535] rfl qm_ ?_;(with_reducible refine (spec_l1In.calls a0 0 65535 t313 _ A2.out).mono ?_);rintro e w' ⟨rfl,⟨nd,rfl⟩⟩;refine ⟨_,rfl,?_⟩))
 go_ret
 exact ⟨by first|rfl|(simp;done)|(simp [*];done),by repeat (first|exact Drawn0.refl _|apply Drawn0.step)⟩

/-! ### spec_CrcStep: function 101 -/
def spec_CrcStep.l0 : Nat → Int → Int → Option (Int)
 | 0,_,_ => none
 | k + 1,x0,x5 => if x5 < 8 then (if (wrap64 (Int.tdiv x0 32768)) = 1 then (spec_CrcStep.l0 k (Go.bits .xor .i64 (Int.tmod (wrap64 (x0 * 2)) 65536) 4129) (wrap64 (x5 + 1))) else (spec_CrcStep.l0 k (Int.tmod (wrap64 (x0 * 2)) 65536) (wrap64 (x5 + 1)))) else (some x0)
def spec_CrcStep.f (k : Nat) (a0 : Int) (a1 : Int) : Option (Int):=(spec_l2Word.f a0).bind fun t314 => (if t314 = true then (spec_CrcStep.l0 k (Go.bits .xor .i64 a0 (wrap64 ((wrap64 (a1)) * 256))) 0) else (some (-1)))
theorem spec_CrcStep.mono_l : ∀ k,(∀ y0 y1,LeO (spec_CrcStep.l0 k y0 y1) (spec_CrcStep.l0 (k + 1) y0 y1))
 | 0 => fun _ _ r h => by simp [spec_CrcStep.l0] at h
 | k + 1 => by
  have ih0:=spec_CrcStep.mono_l k
  ·intro y0 y1
   unfold spec_CrcStep.l0
   repeat' first
   | (with_reducible exact ih0 _ _)
   | (with_reducible exact LeO.refl _)
   | (with_reducible exact LeO.none _)
   | (with_reducible refine LeO.ite ?_ ?_)
   | (with_reducible refine LeO.bind ?_ (fun _ => ?_))
   | exact ih0 _ _
   | exact LeO.none _
   | refine LeO.ite ?_ ?_
   | refine LeO.bind ?_ (fun _ => ?_)
theorem spec_CrcStep.mono : ∀ a0 a1 k,LeO (spec_CrcStep.f k a0 a1) (spec_CrcStep.f (k + 1) a0 a1):=by
 intro a0 a1 k
 have ih0:=spec_CrcStep.mono_l k
 unfold spec_CrcStep.f
 repeat' first
   | (with_reducible exact ih0 _ _)
   | (with_reducible exact LeO.refl _)
   | (with_reducible exact LeO.none _)
   | (with_reducible refine LeO.ite ?_ ?_)
   | (with_reducible refine LeO.bind ?_ (fun _ => ?_))
   | exact ih0 _ _
   | exact LeO.none _
   | refine LeO.ite ?_ ?_
   | refine LeO.bind ?_ (fun _ => ?_)
set_option maxHeartbeats 8000000 in
set_option maxRecDepth 100000 in
theorem spec_CrcStep.calls (k : Nat) (a0 : Int) (a1 : Int) (r : Int) (w : World) (h : spec_CrcStep.f k a0 a1 = some r) :
  Calls Try.prog 101 #[.int .i64 a0,.int .u8 a1] w fun e w' => e = .returned (.int .i64 r) ∧ Drawn0 w w':=by
 have H : ((spec_l2Word.f a0).bind fun t314 => (if t314 = true then (spec_CrcStep.l0 k (Go.bits .xor .i64 a0 (wrap64 ((wrap64 (a1)) * 256))) 0) else (some (-1)))) = some r:=h
 clear h
 replace H:=Option.bind_eq_some_iff.mp H
 obtain ⟨t314,A30,H⟩:=H
 replace H : (if t314 = true then (spec_CrcStep.l0 k (Go.bits .xor .i64 a0 (wrap64 ((wrap64 (a1)) * 256))) 0) else (some (-1))) = some r:=H
 have A3:=mk_ A30
 clear A30
 by_cases c4 : t314 = true
 ·subst c4
  have H1 : (spec_CrcStep.l0 k (Go.bits .xor .i64 a0 (wrap64 ((wrap64 (a1)) * 256))) 0) = some r:=by rw [if_pos rfl] at H;exact H
  clear H
  have H:=H1
  clear H1
  have H':=mk_ H
  clear H
  go_enter Try.func101,Try.ntmps101
  go_wp2_with (first|((with_reducible refine gate_callee (f:=103) rfl ?_);refine goesL_ (some 8) rfl rfl Try.func103 (by kernel_rfl) rfl #[.int .i64 a0] rfl qm_ ?_;(with_reducible refine (spec_l2Word.calls a0 true _ A3.out).mono ?_);rintro e w' ⟨rfl,⟨nd,rfl⟩⟩;refine ⟨_,rfl,?_⟩))
  go_loopg [0,5] k (fun kq v0 v5 w' => ∃ (x0_1 : Int) (x5_1 : Int),v0 = .int .i64 x0_1 ∧ v5 = .int .i64 x5_1 ∧ Aside0 (spec_CrcStep.l0 kq x0_1 x5_1 = some r) ∧ Aside0 (kq ≤ k) ∧ Drawn0 w w')
  case atStart => exact ⟨(Go.bits .xor .i64 a0 (wrap64 ((wrap64 (a1)) * 256))),(0),qf_,qf_,H',⟨Nat.le_refl _⟩,by repeat (first|exact Drawn0.refl _|apply Drawn0.step)⟩
  case round =>
   clear H'
   try clear c1
   try clear p2
   try clear c4
   obtain ⟨x0_1,x5_1,rfl,rfl,HA,HK1,⟨m1,rfl⟩⟩:=hrel
   cases gk with
   | zero => exact absurd HA.out (by simp [spec_CrcStep.l0])
   | succ k1 =>
    have H:=HA.out
    clear HA
    simp only [spec_CrcStep.l0] at H
    by_cases c5 : x5_1 < 8
    ·rw [if_pos c5] at H
     have c5b0 : decide (x5_1 < 8) = true:=decide_eq_true c5
     clear c5
     by_cases c6 : (wrap64 (Int.tdiv x0_1 32768)) = 1
     ·rw [if_pos c6] at H
      have c6b0 : ((wrap64 (Int.tdiv x0_1 32768)) == 1) = true:=beq_iff_eq.mpr c6
      have c6b1 : ((wrap64 (Int.tdiv x0_1 32768)) != 1) = false:=bne_eq_false_iff_eq.mpr c6
      clear c6
      have H':=mk_ H
      clear H
      go_wp2
      go_roundg k1
      case measure => have:=HK1.out;omega
      case rel => exact ⟨(Go.bits .xor .i64 (Int.tmod (wrap64 (x0_1 * 2)) 65536) 4129),(wrap64 (x5_1 + 1)),qf_,qf_,H',⟨by have:=HK1.out;omega⟩,by repeat (first|exact Drawn0.refl _|apply Drawn0.step)⟩
     ·rw [if_neg c6] at H
      have c6b0 : ((wrap64 (Int.tdiv x0_1 32768)) == 1) = false:=beq_eq_false_iff_ne.mpr c6
      have c6b1 : ((wrap64 (Int.tdiv x0_1 32768)) != 1) = true:=bne_iff_ne.mpr c6
      have H':=mk_ H
      clear H
      go_wp2
      go_roundg k1
      case measure => have:=HK1.out;omega
      case rel => exact ⟨(Int.tmod (wrap64 (x0_1 * 2)) 65536),(wrap64 (x5_1 + 1)),qf_,qf_,H',⟨by have:=HK1.out;omega⟩,by repeat (first|exact Drawn0.refl _|apply Drawn0.step)⟩
    ·rw [if_neg c5] at H
     have c5b0 : decide (x5_1 < 8) = false:=decide_eq_false c5
     clear c5
     obtain rfl:=Option.some.inj H
     go_wp2
     go_ret
     exact ⟨by first|rfl|(simp;done)|(simp [*];done),by repeat (first|exact Drawn0.refl _|apply Drawn0.step)⟩
 ·replace c4:=Bool.eq_false_iff.mpr c4
  subst c4
  have H1 : (some (-1)) = some r:=by rw [if_neg (show ¬ (false = true) by decide)] at H;exact H
  clear H
  have H:=H1
  clear H1
  obtain rfl:=Option.some.inj H
  go_enter Try.func101,Try.ntmps101
  go_wp2_with (first|((with_reducible refine gate_callee (f:=103) rfl ?_);refine goesL_ (some 8) rfl rfl Try.func103 (by kernel_rfl) rfl #[.int .i64 a0] rfl qm_ ?_;(with_reducible refine (spec_l2Word.calls a0 false _ A3.out).mono ?_);rintro e w' ⟨rfl,⟨nd,rfl⟩⟩;refine ⟨_,rfl,?_⟩))
  go_ret
  exact ⟨by first|rfl|(simp;done)|(simp [*];done),by repeat (first|exact Drawn0.refl _|apply Drawn0.step)⟩

/-! ### spec_CrcOf: function 96 -/
def spec_CrcOf.l0 : Nat → List Int → Int → Int → Option (Int)
 | 0,_,_,_ => none
 | k + 1,x0,x3,x4 => if x4 < (x0.length : Int) then (if 0 ≤ x4 then ((spec_CrcStep.f k x3 (rd x0 x4)).bind fun t317 => (spec_CrcOf.l0 k x0 t317 (wrap64 (x4 + 1)))) else (none)) else (some x3)
def spec_CrcOf.f (k : Nat) (l0 : List Int) : Option (Int):=(spec_l1Data.f l0).bind fun t315 => (if t315 = true then (spec_CrcOf.l0 k l0 65535 0) else (some (-1)))
theorem spec_CrcOf.mono_l : ∀ k,(∀ y0 y1 y2,LeO (spec_CrcOf.l0 k y0 y1 y2) (spec_CrcOf.l0 (k + 1) y0 y1 y2))
 | 0 => fun _ _ _ r h => by simp [spec_CrcOf.l0] at h
 | k + 1 => by
  have ih0:=spec_CrcOf.mono_l k
  ·intro y0 y1 y2
   unfold spec_CrcOf.l0
   repeat' first
   | (with_reducible exact ih0 _ _ _)
   | (with_reducible exact spec_CrcStep.mono _ _ _)
   | (with_reducible exact LeO.refl _)
   | (with_reducible exact LeO.none _)
   | (with_reducible refine LeO.ite ?_ ?_)
   | (with_reducible refine LeO.bind ?_ (fun _ => ?_))
   | exact ih0 _ _ _
   | exact spec_CrcStep.mono _ _ _
   | exact LeO.none _
   | refine LeO.ite ?_ ?_
   | refine LeO.bind ?_ (fun _ => ?_)
theorem spec_CrcOf.mono : ∀ a0 k,LeO (spec_CrcOf.f k a0) (spec_CrcOf.f (k + 1) a0):=by
 intro a0 k
 have ih0:=spec_CrcOf.mono_l k
 unfold spec_CrcOf.f
 repeat' first
   | (with_reducible exact ih0 _ _ _)
   | (with_reducible exact spec_CrcStep.mono _ _ _)
   | (with_reducible exact LeO.refl _)
   | (with_reducible exact LeO.none _)
   | (with_reducible refine LeO.ite ?_ ?_)
   | (with_reducible refine LeO.bind ?_ (fun _ => ?_))
   | exact ih0 _ _ _
   | exact spec_CrcStep.mono _ _ _
   | exact LeO.none _
   | refine LeO.ite ?_ ?_
   | refine LeO.bind ?_ (fun _ => ?_)
set_option maxHeartbeats 8000000 in
set_option maxRecDepth 100000 in
theorem spec_CrcOf.calls (k : Nat) (A0 : Option Addr) (c0 : Nat) (l0 : List Int) (r : Int) (w : World) (hr0 : Kd.C (Kd.int .u8) w A0 l0.length l0) (hc0 : l0.length ≤ c0) (h : spec_CrcOf.f k l0 = some r) :
  Calls Try.prog 96 #[.slice A0 l0.length c0] w fun e w' => e = .returned (.int .i64 r) ∧ Drawn0 w w':=by
 have HR0:=mk_ hr0
 have HC0:=mk_ hc0
 clear hr0 hc0
 have H : ((spec_l1Data.f l0).bind fun t315 => (if t315 = true then (spec_CrcOf.l0 k l0 65535 0) else (some (-1)))) = some r:=h
 clear h
 replace H:=Option.bind_eq_some_iff.mp H
 obtain ⟨t315,A20,H⟩:=H
 replace H : (if t315 = true then (spec_CrcOf.l0 k l0 65535 0) else (some (-1))) = some r:=H
 have A2:=mk_ A20
 clear A20
 by_cases c3 : t315 = true
 ·subst c3
  have H1 : (spec_CrcOf.l0 k l0 65535 0) = some r:=by rw [if_pos rfl] at H;exact H
  clear H
  have H:=H1
  clear H1
  have H':=mk_ H
  clear H
  go_enter Try.func96,Try.ntmps96
  go_wp2_with (first|((with_reducible refine gate_callee (f:=97) rfl ?_);refine goesL_ (some 6) rfl rfl Try.func97 (by kernel_rfl) rfl #[.slice A0 l0.length c0] rfl qm_ ?_;(with_reducible refine (spec_l1Data.calls _ _ l0 true _ ?side1 ?side2 A2.out).mono ?_);(case side1 => repeat (first|exact HR0.out|(with_reducible refine ca_ ?_ _)|(with_reducible refine cn_ ?_ _)|(with_reducible refine cd_ ?_)));(case side2 => exact HC0.out);rintro e w' ⟨rfl,⟨nd,rfl⟩⟩;refine ⟨_,rfl,?_⟩))
  go_loopg [3,4] k (fun kq v3 v4 w' => ∃ (x3_1 : Int) (x4_1 : Int),v3 = .int .i64 x3_1 ∧ v4 = .int .i64 x4_1 ∧ Aside0 (spec_CrcOf.l0 kq l0 x3_1 x4_1 = some r) ∧ Aside0 (kq ≤ k) ∧ Drawn0 w w')
  case atStart => exact ⟨(65535),(0),qf_,qf_,H',⟨Nat.le_refl _⟩,by repeat (first|exact Drawn0.refl _|apply Drawn0.step)⟩
  case round =>
   clear H'
   try clear p2
   try clear c3
   obtain ⟨x3_1,x4_1,rfl,rfl,HA,HK1,⟨m1,rfl⟩⟩:=hrel
   cases gk with
   | zero => exact absurd HA.out (by simp [spec_CrcOf.l0])
   | succ k1 =>
    have H:=HA.out
    clear HA
    simp only [spec_CrcOf.l0] at H
    by_cases c4 : x4_1 < (l0.length : Int)
    ·rw [if_pos c4] at H
     have c4b0 : decide (x4_1 < (l0.length : Int)) = true:=decide_eq_true c4
     clear c4
     by_cases c5 : 0 ≤ x4_1
     ·rw [if_pos c5] at H
      have c5b0 : decide (0 ≤ x4_1) = true:=decide_eq_true c5
      clear c5
      replace H:=Option.bind_eq_some_iff.mp H
      obtain ⟨t317,A60,H⟩:=H
      replace H : (spec_CrcOf.l0 k1 l0 t317 (wrap64 (x4_1 + 1))) = some r:=H
      have A6:=mk_ A60
      clear A60
      have H':=mk_ H
      clear H
      have p316 : 0 ≤ (x4_1 : Int):=od_ qa_
      have q316 : x4_1 < (l0.length : Int):=od_ qa_
      obtain ⟨ad316,e316,hx316_0⟩:=Kd.at_int HR0.out x4_1 p316 q316
      cases e316
      replace p316:=eq_true p316
      replace q316:=eq_true q316
      go_wp2_with (first|((with_reducible refine gate_callee (f:=101) rfl ?_);refine goesL_ (some 19) rfl rfl Try.func101 (by kernel_rfl) rfl #[.int .i64 x3_1,.int .u8 (rd l0 x4_1)] rfl qm_ ?_;(with_reducible refine (spec_CrcStep.calls k1 x3_1 (rd l0 x4_1) t317 _ A6.out).mono ?_);rintro e w' ⟨rfl,⟨nd,rfl⟩⟩;refine ⟨_,rfl,?_⟩))
      go_roundg k1
      case measure => have:=HK1.out;omega
      case rel => exact ⟨(t317),(wrap64 (x4_1 + 1)),qf_,qf_,H',⟨by have:=HK1.out;omega⟩,by repeat (first|exact Drawn0.refl _|apply Drawn0.step)⟩
     ·rw [if_neg c5] at H
      exact absurd H (by simp)
    ·rw [if_neg c4] at H
     have c4b0 : decide (x4_1 < (l0.length : Int)) = false:=decide_eq_false c4
     clear c4
     obtain rfl:=Option.some.inj H
     go_wp2
     go_ret
     exact ⟨by first|rfl|(simp;done)|(simp [*];done),by repeat (first|exact Drawn0.refl _|apply Drawn0.step)⟩
 ·replace c3:=Bool.eq_false_iff.mpr c3
  subst c3
  have H1 : (some (-1)) = some r:=by rw [if_neg (show ¬ (false = true) by decide)] at H;exact H
  clear H
  have H:=H1
  clear H1
  obtain rfl:=Option.some.inj H
  go_enter Try.func96,Try.ntmps96
  go_wp2_with (first|((with_reducible refine gate_callee (f:=97) rfl ?_);refine goesL_ (some 6) rfl rfl Try.func97 (by kernel_rfl) rfl #[.slice A0 l0.length c0] rfl qm_ ?_;(with_reducible refine (spec_l1Data.calls _ _ l0 false _ ?side1 ?side2 A2.out).mono ?_);(case side1 => repeat (first|exact HR0.out|(with_reducible refine ca_ ?_ _)|(with_reducible refine cn_ ?_ _)|(with_reducible refine cd_ ?_)));(case side2 => exact HC0.out);rintro e w' ⟨rfl,⟨nd,rfl⟩⟩;refine ⟨_,rfl,?_⟩))
  go_ret
  exact ⟨by first|rfl|(simp;done)|(simp [*];done),by repeat (first|exact Drawn0.refl _|apply Drawn0.step)⟩

/-! ### spec_AddCrc: function 87 -/
def spec_AddCrc.f (k : Nat) (l0 : List Int) : Option (List Int × Bool):=if (wrap64 ((l0.length : Int) + 2)) > 600 then (some ((([] : List Int)),false)) else ((spec_CrcOf.f k l0).bind fun t321 => ((some (([] : List Int) : List Int)).bind fun y322 => (if y322.length + l0.length < 140737488355328 then ((some (y322 ++ l0 : List Int)).bind fun y325 => ((some (([(wrap64 (Int.tdiv t321 256)) % 256,(Int.tmod t321 256) % 256] : List Int) : List Int)).bind fun y328 => (if y325.length + y328.length < 140737488355328 then (some ((y325 ++ y328),true)) else (none)))) else (none))))
theorem spec_AddCrc.mono : ∀ a0 k,LeO (spec_AddCrc.f k a0) (spec_AddCrc.f (k + 1) a0):=by
 intro a0 k
 unfold spec_AddCrc.f
 repeat' first
   | (with_reducible exact spec_CrcOf.mono _ _)
   | (with_reducible exact LeO.refl _)
   | (with_reducible exact LeO.none _)
   | (with_reducible refine LeO.ite ?_ ?_)
   | (with_reducible refine LeO.bind ?_ (fun _ => ?_))
   | exact spec_CrcOf.mono _ _
   | exact LeO.none _
   | refine LeO.ite ?_ ?_
   | refine LeO.bind ?_ (fun _ => ?_)
set_option maxHeartbeats 8000000 in
set_option maxRecDepth 100000 in
theorem spec_AddCrc.calls (k : Nat) (A0 : Option Addr) (c0 : Nat) (l0 : List Int) (r1 : List Int) (r2 : Bool) (w : World) (hr0 : Kd.C (Kd.int .u8) w A0 l0.length l0) (hc0 : l0.length ≤ c0) (h : spec_AddCrc.f k l0 = some (r1,r2)) :
  Calls Try.prog 87 #[.slice A0 l0.length c0] w fun e w' => ∃ v0_ : Value,e = .returned (.tuple #[v0_,.bool r2]) ∧ Kd.R (Kd.int .u8) 5 w' w.heap.size (fun _ => True) v0_ r1 ∧ Below w.heap.size w w':=by
 have HR0:=mk_ hr0
 have HC0:=mk_ hc0
 clear hr0 hc0
 have HB:=mk_ (Below.refl w.heap.size w)
 have H : (if (wrap64 ((l0.length : Int) + 2)) > 600 then (some ((([] : List Int)),false)) else ((spec_CrcOf.f k l0).bind fun t321 => ((some (([] : List Int) : List Int)).bind fun y322 => (if y322.length + l0.length < 140737488355328 then ((some (y322 ++ l0 : List Int)).bind fun y325 => ((some (([(wrap64 (Int.tdiv t321 256)) % 256,(Int.tmod t321 256) % 256] : List Int) : List Int)).bind fun y328 => (if y325.length + y328.length < 140737488355328 then (some ((y325 ++ y328),true)) else (none)))) else (none))))) = some (r1,r2):=h
 clear h
 by_cases c2 : (wrap64 ((l0.length : Int) + 2)) > 600
 ·rw [if_pos c2] at H
  have c2b0 : decide (600 < (wrap64 ((l0.length : Int) + 2))) = true:=decide_eq_true c2
  clear c2
  obtain ⟨y318,hy318⟩ : ∃ y_ : List Int,y_ = (([] : List Int)):=⟨_,rfl⟩
  replace H : (some (y318,false)) = some (r1,r2):=by first|(rw [hy318];with_reducible exact H)|(have H2_:=(Option.bind_some _ _).symm.trans H;rw [hy318];with_reducible exact H2_)|(have H2_:=(Option.bind_some _ _).symm.trans H;with_reducible exact H2_)|with_reducible exact H|(rw [hy318];exact H)|exact H
  have Ny318:=mk_ hy318
  clear hy318
  simp only [Option.some.injEq,Prod.mk.injEq] at H
  obtain ⟨rfl,rfl⟩:=H
  go_enter Try.func87,Try.ntmps87
  go_wp2_with (first|((with_reducible refine gate_dst (N:=9) rfl ?_);refine Kd.R_lit (Kd.int .u8) _ 5 ?hg (N:=9) ?hd (xs:=([] : List Int)) (inner:=[]) (ok:=fun _ => True) (okp:=fun _ => True) ?hr ?hp (fun _ hk => hk) trivial (Below.refl _ _) (Nat.le_refl _) (by simp) ?_;(case hd => rfl);(case hg => rfl);(case hr => first|(go_simp;done)|(go_simp;rfl));(case hp => exact (Reps.none _ _));intro v319 w3 ho4 hb hg_ hnew_;clear hg_ hnew_;(first|rw [← Ny318.out] at ho4|(simp only [Int.reduceToNat] at ho4;rw [← Ny318.out] at ho4));have n0_:=mk_ (Kd.R_lower ho4 (bz_ (qb_ HB)));have n1_:=mk_ (st_ (qb_ HB) hb);clear HB;have HO320:=n0_;have HB:=n1_;clear n0_ n1_ hb ho4))
  go_ret2
  exact ⟨_,qe_,qr_ HO320,u3_ HB⟩
 ·rw [if_neg c2] at H
  have c2b0 : decide (600 < (wrap64 ((l0.length : Int) + 2))) = false:=decide_eq_false c2
  clear c2
  replace H:=Option.bind_eq_some_iff.mp H
  obtain ⟨t321,A50,H⟩:=H
  replace H : ((some (([] : List Int) : List Int)).bind fun y322 => (if y322.length + l0.length < 140737488355328 then ((some (y322 ++ l0 : List Int)).bind fun y325 => ((some (([(wrap64 (Int.tdiv t321 256)) % 256,(Int.tmod t321 256) % 256] : List Int) : List Int)).bind fun y328 => (if y325.length + y328.length < 140737488355328 then (some ((y325 ++ y328),true)) else (none)))) else (none))) = some (r1,r2):=H
  have A5:=mk_ A50
  clear A50
  obtain ⟨y322,hy322⟩ : ∃ y_ : List Int,y_ = (([] : List Int)):=⟨_,rfl⟩
  replace H : (if y322.length + l0.length < 140737488355328 then ((some (y322 ++ l0 : List Int)).bind fun y325 => ((some (([(wrap64 (Int.tdiv t321 256)) % 256,(Int.tmod t321 256) % 256] : List Int) : List Int)).bind fun y328 => (if y325.length + y328.length < 140737488355328 then (some ((y325 ++ y328),true)) else (none)))) else (none)) = some (r1,r2):=by first|(rw [hy322];with_reducible exact H)|(have H2_:=(Option.bind_some _ _).symm.trans H;rw [hy322];with_reducible exact H2_)|(have H2_:=(Option.bind_some _ _).symm.trans H;with_reducible exact H2_)|with_reducible exact H|(rw [hy322];exact H)|exact H
  have Ny322:=mk_ hy322
  clear hy322
  by_cases c6 : y322.length + l0.length < 140737488355328
  ·rw [if_pos c6] at H
   have LMc6:=mk_ c6
   clear c6
   obtain ⟨y325,hy325⟩ : ∃ y_ : List Int,y_ = (y322 ++ l0):=⟨_,rfl⟩
   replace H : ((some (([(wrap64 (Int.tdiv t321 256)) % 256,(Int.tmod t321 256) % 256] : List Int) : List Int)).bind fun y328 => (if y325.length + y328.length < 140737488355328 then (some ((y325 ++ y328),true)) else (none))) = some (r1,r2):=by first|(rw [hy325];with_reducible exact H)|(have H2_:=(Option.bind_some _ _).symm.trans H;rw [hy325];with_reducible exact H2_)|(have H2_:=(Option.bind_some _ _).symm.trans H;with_reducible exact H2_)|with_reducible exact H|(rw [hy325];exact H)|exact H
   have Ny325:=mk_ hy325
   clear hy325
   obtain ⟨y328,hy328⟩ : ∃ y_ : List Int,y_ = (([(wrap64 (Int.tdiv t321 256)) % 256,(Int.tmod t321 256) % 256] : List Int)):=⟨_,rfl⟩
   replace H : (if y325.length + y328.length < 140737488355328 then (some ((y325 ++ y328),true)) else (none)) = some (r1,r2):=by first|(rw [hy328];with_reducible exact H)|(have H2_:=(Option.bind_some _ _).symm.trans H;rw [hy328];with_reducible exact H2_)|(have H2_:=(Option.bind_some _ _).symm.trans H;with_reducible exact H2_)|with_reducible exact H|(rw [hy328];exact H)|exact H
   have Ny328:=mk_ hy328
   clear hy328
   by_cases c7 : y325.length + y328.length < 140737488355328
   ·rw [if_pos c7] at H
    have LMc7:=mk_ c7
    clear c7
    obtain ⟨y331,hy331⟩ : ∃ y_ : List Int,y_ = (y325 ++ y328):=⟨_,rfl⟩
    replace H : (some (y331,true)) = some (r1,r2):=by first|(rw [hy331];with_reducible exact H)|(have H2_:=(Option.bind_some _ _).symm.trans H;rw [hy331];with_reducible exact H2_)|(have H2_:=(Option.bind_some _ _).symm.trans H;with_reducible exact H2_)|with_reducible exact H|(rw [hy331];exact H)|exact H
    have Ny331:=mk_ hy331
    clear hy331
    simp only [Option.some.injEq,Prod.mk.injEq] at H
    obtain ⟨rfl,rfl⟩:=H
    go_enter Try.func87,Try.ntmps87
    go_wp2_with (first|((with_reducible refine gate_callee (f:=96) rfl ?_);refine goesL_ (some 11) rfl rfl Try.func96 (by kernel_rfl) rfl #[.slice A0 l0.length c0] rfl qm_ ?_;(with_reducible refine (spec_CrcOf.calls k _ _ l0 t321 _ ?side1 ?side2 A5.out).mono ?_);(case side1 => repeat (first|exact HR0.out|(with_reducible refine ca_ ?_ _)|(with_reducible refine cn_ ?_ _)|(with_reducible refine cd_ ?_)));(case side2 => exact HC0.out);rintro e w' ⟨rfl,⟨nd,rfl⟩⟩;refine ⟨_,rfl,?_⟩)|((with_reducible refine gate_dst (N:=12) rfl ?_);refine Kd.R_lit (Kd.int .u8) _ 5 ?hg (N:=12) ?hd (xs:=([] : List Int)) (inner:=[]) (ok:=fun _ => True) (okp:=fun _ => True) ?hr ?hp (fun _ hk => hk) trivial (Below.refl _ _) (Nat.le_refl _) (by simp) ?_;(case hd => rfl);(case hg => rfl);(case hr => first|(go_simp;done)|(go_simp;rfl));(case hp => exact (Reps.none _ _));intro v323 w8 ho9 hb hg_ hnew_;clear hg_ hnew_;(first|rw [← Ny322.out] at ho9|(simp only [Int.reduceToNat] at ho9;rw [← Ny322.out] at ho9));have n0_:=mk_ (Kd.R_lower ho9 (bz_ (qb_ HB)));have n1_:=mk_ (st_ (qb_ HB) hb);clear HB;have HO324:=n0_;have HB:=n1_;clear n0_ n1_ hb ho9)|((with_reducible refine gate_builtin (b:=.append) (xs:=#[.tmp 12,.tmp 13]) rfl ?_);at_builtin;refine Kd.R_append_rows (Kd.int .u8) (w0:=w) w.heap.size rfl (.tmp 12) (.tmp 13) 22 5 (.int .u8 0) 1 rfl Try.underlying22 info5 rfl (by decide) (by omega) v323 y322 l0 _ _ _ (fun _ => True) (fun _ => False) rfl rfl ?aO ?aR (fun _ _ h => h) (fun _ h => h.elim) ?aF ?aB ?aS ?aL ?_;(case aR => exact qn_ HR0 HB);(case aB => exact (qb_ HB));(case aF => exact (fun _ _ => trivial));(case aO => exact (qr_ HO324));(case aS => exact (bz_ (qb_ HB)));(case aL => have:=LMc6.out;omega);intro v326 w10 ho hb hg hat;rw [← Ny325.out] at ho;have n0_:=mk_ (hb);have n1_:=mk_ (ho);clear HB HO324;have HB:=n0_;have HO327:=n1_;clear n0_ n1_ ho hb hg hat)|((with_reducible refine gate_dst (N:=21) rfl ?_);refine Kd.R_lit (Kd.int .u8) _ 5 ?hg (N:=21) ?hd (xs:=([(wrap64 (Int.tdiv t321 256)) % 256,(Int.tmod t321 256) % 256] : List Int)) (inner:=[.int .u8 ((wrap64 (Int.tdiv t321 256)) % 256),.int .u8 ((Int.tmod t321 256) % 256)]) (ok:=fun _ => True) (okp:=fun _ => True) ?hr ?hp (fun _ hk => hk) trivial (Below.refl _ _) (Nat.le_refl _) (by simp) ?_;(case hd => rfl);(case hg => rfl);(case hr => first|(go_simp;done)|(go_simp;rfl));(case hp => exact (Reps.one (show Kd.M (Kd.int .u8) _ _ _ ((wrap64 (Int.tdiv t321 256)) % 256) [.int .u8 ((wrap64 (Int.tdiv t321 256)) % 256)] from rfl) (Reps.one (show Kd.M (Kd.int .u8) _ _ _ ((Int.tmod t321 256) % 256) [.int .u8 ((Int.tmod t321 256) % 256)] from rfl) (Reps.none _ _))));intro v329 w11 ho12 hb hg_ hnew_;clear hg_ hnew_;(first|rw [← Ny328.out] at ho12|(simp only [Int.reduceToNat] at ho12;rw [← Ny328.out] at ho12));have n0_:=mk_ (re_ (qr_ HO327) (Kd.R_base ho12) hb);have n1_:=mk_ (Kd.R_lower (Kd.R_new' ho12 (Kd.R_lt (qr_ HO327))) (bz_ (qb_ HB)));have n2_:=mk_ (st_ (qb_ HB) hb);clear HO327 HB;have HO327:=n0_;have HO330:=n1_;have HB:=n2_;clear n0_ n1_ n2_ hb ho12;obtain ⟨Ao14,co14,eo14⟩:=Kd.R_slice HO330.out;subst eo14)|((with_reducible refine gate_builtin (b:=.append) (xs:=#[.tmp 14,.tmp 21]) rfl ?_);at_builtin;refine Kd.R_append_rows (Kd.int .u8) (w0:=w) w.heap.size rfl (.tmp 14) (.tmp 21) 22 5 (.int .u8 0) 1 rfl Try.underlying22 info5 rfl (by decide) (by omega) v326 y325 y328 _ _ _ (fun k_ => some k_ ≠ (.slice Ao14 y328.length co14 : Value).ownBlock) (fun _ => False) rfl rfl ?aO ?aR (fun _ _ h => h) (fun _ h => h.elim) ?aF ?aB ?aS ?aL ?_;(case aR => repeat (first|exact (rr_ HO330.out).2.2|(with_reducible refine ca_ ?_ _)|(with_reducible refine cn_ ?_ _)|(with_reducible refine cd_ ?_)));(case aB => exact (qb_ HB));(case aF => exact (fun k_ hk => Kd.fresh' (Kd.R_lt (qr_ HO330)) k_ hk));(case aO => exact (by (with_reducible repeat (first|apply ra_|apply rn_|apply rd_));exact rm_ HO327.out (λ_ h=>h.2)));(case aS => exact (bz_ (qb_ HB)));(case aL => have:=LMc7.out;omega);intro v332 w13 ho hb hg hat;rw [← Ny331.out] at ho;have n0_:=mk_ (Kd.R_after (ok:=(fun _ => True)) (qr_ HO330) hg hat);have n1_:=mk_ (hb);have n2_:=mk_ (ho);clear HO330 HB HO327;have HO330:=n0_;have HB:=n1_;have HO333:=n2_;clear n0_ n1_ n2_ ho hb hg hat))
    go_ret2
    exact ⟨_,qe_,by (with_reducible repeat (first|apply ra_|apply rn_|apply rd_));exact rm_ HO333.out (λ_ _=>trivial),u3_ HB⟩
   ·rw [if_neg c7] at H
    exact absurd H (by simp)
  ·rw [if_neg c6] at H
   exact absurd H (by simp)

/-! ### spec_PackLink: function 73 -/
def spec_PackLink.f (k : Nat) (a0 : Int) (a1 : Int) (l2 : List Int) : Option (List Int × Bool):=(spec_l1In.f a0 1 2).bind fun t334 => (if t334 = true then ((spec_l1In.f a1 0 15).bind fun t335 => (if t335 = true then (if a0 = 2 then (if (l2.length : Int) > 0 then (some ((([] : List Int)),false)) else ((some (([(wrap64 ((wrap64 (16 * a0)) + a1)) % 256] : List Int) : List Int)).bind fun y339 => (if y339.length + l2.length < 140737488355328 then ((spec_AddCrc.f k (y339 ++ l2)).bind fun bt345 => (some (bt345.1,bt345.2))) else (none)))) else ((some (([(wrap64 ((wrap64 (16 * a0)) + a1)) % 256] : List Int) : List Int)).bind fun y349 => (if y349.length + l2.length < 140737488355328 then ((spec_AddCrc.f k (y349 ++ l2)).bind fun bt355 => (some (bt355.1,bt355.2))) else (none)))) else (some ((([] : List Int)),false)))) else (some ((([] : List Int)),false)))
theorem spec_PackLink.mono : ∀ a0 a1 a2 k,LeO (spec_PackLink.f k a0 a1 a2) (spec_PackLink.f (k + 1) a0 a1 a2):=by
 intro a0 a1 a2 k
 unfold spec_PackLink.f
 repeat' first
   | (with_reducible exact spec_AddCrc.mono _ _)
   | (with_reducible exact LeO.refl _)
   | (with_reducible exact LeO.none _)
   | (with_reducible refine LeO.ite ?_ ?_)
   | (with_reducible refine LeO.bind ?_ (fun _ => ?_))
   | exact spec_AddCrc.mono _ _
   | exact LeO.none _
   | refine LeO.ite ?_ ?_
   | refine LeO.bind ?_ (fun _ => ?_)
set_option maxHeartbeats 8000000 in
set_option maxRecDepth 100000 in
theorem spec_PackLink.calls (k : Nat) (a0 : Int) (a1 : Int) (A2 : Option Addr) (c2 : Nat) (l2 : List Int) (r1 : List Int) (r2 : Bool) (w : World) (hr2 : Kd.C (Kd.int .u8) w A2 l2.length l2) (hc2 : l2.length ≤ c2) (h : spec_PackLink.f k a0 a1 l2 = some (r1,r2)) :
  Calls Try.prog 73 #[.int .i64 a0,.int .i64 a1,.slice A2 l2.length c2] w fun e w' => ∃ v0_ : Value,e = .returned (.tuple #[v0_,.bool r2]) ∧ Kd.R (Kd.int .u8) 5 w' w.heap.size (fun _ => True) v0_ r1 ∧ Below w.heap.size w w':=by
 have HR2:=mk_ hr2
 have HC2:=mk_ hc2
 clear hr2 hc2
 have HB:=mk_ (Below.refl w.heap.size w)
 have H : ((spec_l1In.f a0 1 2).bind fun t334 => (if t334 = true then ((spec_l1In.f a1 0 15).bind fun t335 => (if t335 = true then (if a0 = 2 then (if (l2.length : Int) > 0 then (some ((([] : List Int)),false)) else ((some (([(wrap64 ((wrap64 (16 * a0)) + a1)) % 256] : List Int) : List Int)).bind fun y339 => (if y339.length + l2.length < 140737488355328 then ((spec_AddCrc.f k (y339 ++ l2)).bind fun bt345 => (some (bt345.1,bt345.2))) else (none)))) else ((some (([(wrap64 ((wrap64 (16 * a0)) + a1)) % 256] : List Int) : List Int)).bind fun y349 => (if y349.length + l2.length < 140737488355328 then ((spec_AddCrc.f k (y349 ++ l2)).bind fun bt355 => (some (bt355.1,bt355.2))) else (none)))) else (some ((([] : List Int)),false)))) else (some ((([] : List Int)),false)))) = some (r1,r2):=h
 clear h
 replace H:=Option.bind_eq_some_iff.mp H
 obtain ⟨t334,A40,H⟩:=H
 replace H : (if t334 = true then ((spec_l1In.f a1 0 15).bind fun t335 => (if t335 = true then (if a0 = 2 then (if (l2.length : Int) > 0 then (some ((([] : List Int)),false)) else ((some (([(wrap64 ((wrap64 (16 * a0)) + a1)) % 256] : List Int) : List Int)).bind fun y339 => (if y339.length + l2.length < 140737488355328 then ((spec_AddCrc.f k (y339 ++ l2)).bind fun bt345 => (some (bt345.1,bt345.2))) else (none)))) else ((some (([(wrap64 ((wrap64 (16 * a0)) + a1)) % 256] : List Int) : List Int)).bind fun y349 => (if y349.length + l2.length < 140737488355328 then ((spec_AddCrc.f k (y349 ++ l2)).bind fun bt355 => (some (bt355.1,bt355.2))) else (none)))) else (some ((([] : List Int)),false)))) else (some ((([] : List Int)),false))) = some (r1,r2):=H
 have A4:=mk_ A40
 clear A40
 by_cases c5 : t334 = true
 ·subst c5
  have H1 : ((spec_l1In.f a1 0 15).bind fun t335 => (if t335 = true then (if a0 = 2 then (if (l2.length : Int) > 0 then (some ((([] : List Int)),false)) else ((some (([(wrap64 ((wrap64 (16 * a0)) + a1)) % 256] : List Int) : List Int)).bind fun y339 => (if y339.length + l2.length < 140737488355328 then ((spec_AddCrc.f k (y339 ++ l2)).bind fun bt345 => (some (bt345.1,bt345.2))) else (none)))) else ((some (([(wrap64 ((wrap64 (16 * a0)) + a1)) % 256] : List Int) : List Int)).bind fun y349 => (if y349.length + l2.length < 140737488355328 then ((spec_AddCrc.f k (y349 ++ l2)).bind fun bt355 => (some (bt355.1,bt355.2))) else (none)))) else (some ((([] : List Int)),false)))) = some (r1,r2):=by rw [if_pos rfl] at H;exact H
  clear H
  have H:=H1
  clear H1
  replace H:=Option.bind_eq_some_iff.mp H
  obtain ⟨t335,A60,H⟩:=H
  replace H : (if t335 = true then (if a0 = 2 then (if (l2.length : Int) > 0 then (some ((([] : List Int)),false)) else ((some (([(wrap64 ((wrap64 (16 * a0)) + a1)) % 256] : List Int) : List Int)).bind fun y339 => (if y339.length + l2.length < 140737488355328 then ((spec_AddCrc.f k (y339 ++ l2)).bind fun bt345 => (some (bt345.1,bt345.2))) else (none)))) else ((some (([(wrap64 ((wrap64 (16 * a0)) + a1)) % 256] : List Int) : List Int)).bind fun y349 => (if y349.length + l2.length < 140737488355328 then ((spec_AddCrc.f k (y349 ++ l2)).bind fun bt355 => (some (bt355.1,bt355.2))) else (none)))) else (some ((([] : List Int)),false))) = some (r1,r2):=H
  have A6:=mk_ A60
  clear A60
  by_cases c7 : t335 = true
  ·subst c7
   have H1 : (if a0 = 2 then (if (l2.length : Int) > 0 then (some ((([] : List Int)),false)) else ((some (([(wrap64 ((wrap64 (16 * a0)) + a1)) % 256] : List Int) : List Int)).bind fun y339 => (if y339.length + l2.length < 140737488355328 then ((spec_AddCrc.f k (y339 ++ l2)).bind fun bt345 => (some (bt345.1,bt345.2))) else (none)))) else ((some (([(wrap64 ((wrap64 (16 * a0)) + a1)) % 256] : List Int) : List Int)).bind fun y349 => (if y349.length + l2.length < 140737488355328 then ((spec_AddCrc.f k (y349 ++ l2)).bind fun bt355 => (some (bt355.1,bt355.2))) else (none)))) = some (r1,r2):=by rw [if_pos rfl] at H;exact H
   clear H
   have H:=H1
   clear H1
   by_cases c8 : a0 = 2
   ·rw [if_pos c8] at H
    have c8b0 : (a0 == 2) = true:=beq_iff_eq.mpr c8
    have c8b1 : (a0 != 2) = false:=bne_eq_false_iff_eq.mpr c8
    clear c8
    by_cases c9 : (l2.length : Int) > 0
    ·rw [if_pos c9] at H
     have c9b0 : decide (0 < (l2.length : Int)) = true:=decide_eq_true c9
     have c9b1 : decide (0 < l2.length) = true:=decide_eq_true (by omega)
     clear c9
     obtain ⟨y336,hy336⟩ : ∃ y_ : List Int,y_ = (([] : List Int)):=⟨_,rfl⟩
     replace H : (some (y336,false)) = some (r1,r2):=by first|(rw [hy336];with_reducible exact H)|(have H2_:=(Option.bind_some _ _).symm.trans H;rw [hy336];with_reducible exact H2_)|(have H2_:=(Option.bind_some _ _).symm.trans H;with_reducible exact H2_)|with_reducible exact H|(rw [hy336];exact H)|exact H
     have Ny336:=mk_ hy336
     clear hy336
     simp only [Option.some.injEq,Prod.mk.injEq] at H
     obtain ⟨rfl,rfl⟩:=H
     go_enter Try.func73,Try.ntmps73
     go_wp2_with (first|((with_reducible refine gate_callee (f:=36) rfl ?_);refine goesL_ (some 9) rfl rfl Try.func36 (by kernel_rfl) rfl #[.int .i64 a0,.int .i64 1,.int .i64 2] rfl qm_ ?_;(with_reducible refine (spec_l1In.calls a0 1 2 true _ A4.out).mono ?_);rintro e w' ⟨rfl,⟨nd,rfl⟩⟩;refine ⟨_,rfl,?_⟩)|(go_at_call 36;(with_reducible refine (spec_l1In.calls a1 0 15 true _ A6.out).mono ?_);rintro e w' ⟨rfl,⟨nd,rfl⟩⟩)|((with_reducible refine gate_dst (N:=25) rfl ?_);(try (refine gate_guard (by rfl) ?_;dsimp only));refine Kd.R_lit (Kd.int .u8) _ 5 ?hg (N:=25) ?hd (xs:=([] : List Int)) (inner:=[]) (ok:=fun _ => True) (okp:=fun _ => True) ?hr ?hp (fun _ hk => hk) trivial (Below.refl _ _) (Nat.le_refl _) (by simp) ?_;(case hd => rfl);(case hg => rfl);(case hr => first|(go_simp;done)|(go_simp;rfl));(case hp => exact (Reps.none _ _));intro v337 w10 ho11 hb hg_ hnew_;clear hg_ hnew_;(first|rw [← Ny336.out] at ho11|(simp only [Int.reduceToNat] at ho11;rw [← Ny336.out] at ho11));have n0_:=mk_ (Kd.R_lower ho11 (bz_ (qb_ HB)));have n1_:=mk_ (st_ (qb_ HB) hb);clear HB;have HO338:=n0_;have HB:=n1_;clear n0_ n1_ hb ho11))
     go_ret2
     exact ⟨_,qe_,qr_ HO338,u3_ HB⟩
    ·rw [if_neg c9] at H
     have c9b0 : decide (0 < (l2.length : Int)) = false:=decide_eq_false c9
     have c9b1 : decide (0 < l2.length) = false:=decide_eq_false (by omega)
     clear c9
     obtain ⟨y339,hy339⟩ : ∃ y_ : List Int,y_ = (([(wrap64 ((wrap64 (16 * a0)) + a1)) % 256] : List Int)):=⟨_,rfl⟩
     replace H : (if y339.length + l2.length < 140737488355328 then ((spec_AddCrc.f k (y339 ++ l2)).bind fun bt345 => (some (bt345.1,bt345.2))) else (none)) = some (r1,r2):=by first|(rw [hy339];with_reducible exact H)|(have H2_:=(Option.bind_some _ _).symm.trans H;rw [hy339];with_reducible exact H2_)|(have H2_:=(Option.bind_some _ _).symm.trans H;with_reducible exact H2_)|with_reducible exact H|(rw [hy339];exact H)|exact H
     have Ny339:=mk_ hy339
     clear hy339
     by_cases c12 : y339.length + l2.length < 140737488355328
     ·rw [if_pos c12] at H
      have LMc12:=mk_ c12
      clear c12
      obtain ⟨y342,hy342⟩ : ∃ y_ : List Int,y_ = (y339 ++ l2):=⟨_,rfl⟩
      replace H : ((spec_AddCrc.f k y342).bind fun bt345 => (some (bt345.1,bt345.2))) = some (r1,r2):=by first|(rw [hy342];with_reducible exact H)|(have H2_:=(Option.bind_some _ _).symm.trans H;rw [hy342];with_reducible exact H2_)|(have H2_:=(Option.bind_some _ _).symm.trans H;with_reducible exact H2_)|with_reducible exact H|(rw [hy342];exact H)|exact H
      have Ny342:=mk_ hy342
      clear hy342
      replace H:=Option.bind_eq_some_iff.mp H
      obtain ⟨⟨t345,t346⟩,A130,H⟩:=H
      replace H : (some (t345,t346)) = some (r1,r2):=H
      have A13:=mk_ A130
      clear A130
      simp only [Option.some.injEq,Prod.mk.injEq] at H
      obtain ⟨rfl,rfl⟩:=H
      go_enter Try.func73,Try.ntmps73
      go_wp2_with (first|((with_reducible refine gate_callee (f:=36) rfl ?_);refine goesL_ (some 9) rfl rfl Try.func36 (by kernel_rfl) rfl #[.int .i64 a0,.int .i64 1,.int .i64 2] rfl qm_ ?_;(with_reducible refine (spec_l1In.calls a0 1 2 true _ A4.out).mono ?_);rintro e w' ⟨rfl,⟨nd,rfl⟩⟩;refine ⟨_,rfl,?_⟩)|(go_at_call 36;(with_reducible refine (spec_l1In.calls a1 0 15 true _ A6.out).mono ?_);rintro e w' ⟨rfl,⟨nd,rfl⟩⟩)|((with_reducible refine gate_dst (N:=31) rfl ?_);(try (refine gate_guard (by rfl) ?_;dsimp only));refine Kd.R_lit (Kd.int .u8) _ 5 ?hg (N:=31) ?hd (xs:=([(wrap64 ((wrap64 (16 * a0)) + a1)) % 256] : List Int)) (inner:=[.int .u8 ((wrap64 ((wrap64 (16 * a0)) + a1)) % 256)]) (ok:=fun _ => True) (okp:=fun _ => True) ?hr ?hp (fun _ hk => hk) trivial (Below.refl _ _) (Nat.le_refl _) (by simp) ?_;(case hd => rfl);(case hg => rfl);(case hr => first|(go_simp;done)|(go_simp;rfl));(case hp => exact (Reps.one (show Kd.M (Kd.int .u8) _ _ _ ((wrap64 ((wrap64 (16 * a0)) + a1)) % 256) [.int .u8 ((wrap64 ((wrap64 (16 * a0)) + a1)) % 256)] from rfl) (Reps.none _ _)));intro v340 w14 ho15 hb hg_ hnew_;clear hg_ hnew_;(first|rw [← Ny339.out] at ho15|(simp only [Int.reduceToNat] at ho15;rw [← Ny339.out] at ho15));have n0_:=mk_ (Kd.R_lower ho15 (bz_ (qb_ HB)));have n1_:=mk_ (st_ (qb_ HB) hb);clear HB;have HO341:=n0_;have HB:=n1_;clear n0_ n1_ hb ho15)|((with_reducible refine gate_builtin (b:=.append) (xs:=#[.tmp 31,.tmp 32]) rfl ?_);(try (refine gate_guard (by rfl) ?_;dsimp only));at_builtin;refine Kd.R_append_rows (Kd.int .u8) (w0:=w) w.heap.size rfl (.tmp 31) (.tmp 32) 22 5 (.int .u8 0) 1 rfl Try.underlying22 info5 rfl (by decide) (by omega) v340 y339 l2 _ _ _ (fun _ => True) (fun _ => False) rfl rfl ?aO ?aR (fun _ _ h => h) (fun _ h => h.elim) ?aF ?aB ?aS ?aL ?_;(case aR => exact qn_ HR2 HB);(case aB => exact (qb_ HB));(case aF => exact (fun _ _ => trivial));(case aO => exact (qr_ HO341));(case aS => exact (bz_ (qb_ HB)));(case aL => have:=LMc12.out;omega);intro v343 w16 ho hb hg hat;rw [← Ny342.out] at ho;have n0_:=mk_ (hb);have n1_:=mk_ (ho);clear HB HO341;have HB:=n0_;have HO344:=n1_;clear n0_ n1_ ho hb hg hat;obtain ⟨Ao17,co17,eo17⟩:=Kd.R_slice HO344.out;subst eo17)|((with_reducible refine gate_callee (f:=87) rfl ?_);refine goesL_ (some 34) rfl rfl Try.func87 (by kernel_rfl) rfl #[.slice Ao17 y342.length co17] rfl qm_ ?_;(with_reducible refine (spec_AddCrc.calls k _ _ y342 t345 t346 _ ?side1 ?side2 A13.out).mono ?_);(case side1 => repeat (first|exact (rr_ HO344.out).2.2|(with_reducible refine ca_ ?_ _)|(with_reducible refine cn_ ?_ _)|(with_reducible refine cd_ ?_)));(case side2 => exact (rr_ HO344.out).2.1);rintro e w18 ⟨v347,rfl,ho0,hb⟩;refine ⟨_,rfl,?_⟩;have n0_:=mk_ (re_ (qr_ HO344) (Kd.R_base ho0) hb);have n1_:=mk_ (Kd.R_lower (Kd.R_new' ho0 (Kd.R_lt (qr_ HO344))) (bz_ (qb_ HB)));have n2_:=mk_ (st_ (qb_ HB) hb);clear HO344 HB;have HO344:=n0_;have HO348:=n1_;have HB:=n2_;clear n0_ n1_ n2_;(try clear hb);(try clear hb2);(try clear hk);(try clear hi);(try clear ho0)))
      go_ret2
      exact ⟨_,qe_,by (with_reducible repeat (first|apply ra_|apply rn_|apply rd_));exact rm_ HO348.out (λ_ _=>trivial),u3_ HB⟩
     ·rw [if_neg c12] at H
      exact absurd H (by simp)
   ·rw [if_neg c8] at H
    have c8b0 : (a0 == 2) = false:=beq_eq_false_iff_ne.mpr c8
    have c8b1 : (a0 != 2) = true:=bne_iff_ne.mpr c8
    obtain ⟨y349,hy349⟩ : ∃ y_ : List Int,y_ = (([(wrap64 ((wrap64 (16 * a0)) + a1)) % 256] : List Int)):=⟨_,rfl⟩
    replace H : (if y349.length + l2.length < 140737488355328 then ((spec_AddCrc.f k (y349 ++ l2)).bind fun bt355 => (some (bt355.1,bt355.2))) else (none)) = some (r1,r2):=by first|(rw [hy349];with_reducible exact H)|(have H2_:=(Option.bind_some _ _).symm.trans H;rw [hy349];with_reducible exact H2_)|(have H2_:=(Option.bind_some _ _).symm.trans H;with_reducible exact H2_)|with_reducible exact H|(rw [hy349];exact H)|exact H
    have Ny349:=mk_ hy349
    clear hy349
    by_cases c19 : y349.length + l2.length < 140737488355328
    ·rw [if_pos c19] at H
     have LMc19:=mk_ c19
     clear c19
     obtain ⟨y352,hy352⟩ : ∃ y_ : List Int,y_ = (y349 ++ l2):=⟨_,rfl⟩
     replace H : ((spec_AddCrc.f k y352).bind fun bt355 => (some (bt355.1,bt355.2))) = some (r1,r2):=by first|(rw [hy352];with_reducible exact H)|(have H2_:=(Option.bind_some _ _).symm.trans H;rw [hy352];with_reducible exact H2_)|(have H2_:=(Option.bind_some _ _).symm.trans H;with_reducible exact H2_)|with_reducible exact H|(rw [hy352];exact H)|exact H
     have Ny352:=mk_ hy352
     clear hy352
     replace H:=Option.bind_eq_some_iff.mp H
     obtain ⟨⟨t355,t356⟩,A200,H⟩:=H
     replace H : (some (t355,t356)) = some (r1,r2):=H
     have A20:=mk_ A200
     clear A200
     simp only [Option.some.injEq,Prod.mk.injEq] at H
     obtain ⟨rfl,rfl⟩:=H
     go_enter Try.func73,Try.ntmps73
     go_wp2_with (first|((with_reducible refine gate_callee (f:=36) rfl ?_);refine goesL_ (some 9) rfl rfl Try.func36 (by kernel_rfl) rfl #[.int .i64 a0,.int .i64 1,.int .i64 2] rfl qm_ ?_;(with_reducible refine (spec_l1In.calls a0 1 2 true _ A4.out).mono ?_);rintro e w' ⟨rfl,⟨nd,rfl⟩⟩;refine ⟨_,rfl,?_⟩)|(go_at_call 36;(with_reducible refine (spec_l1In.calls a1 0 15 true _ A6.out).mono ?_);rintro e w' ⟨rfl,⟨nd,rfl⟩⟩)|((with_reducible refine gate_dst (N:=31) rfl ?_);(try (refine gate_guard (by rfl) ?_;dsimp only));refine Kd.R_lit (Kd.int .u8) _ 5 ?hg (N:=31) ?hd (xs:=([(wrap64 ((wrap64 (16 * a0)) + a1)) % 256] : List Int)) (inner:=[.int .u8 ((wrap64 ((wrap64 (16 * a0)) + a1)) % 256)]) (ok:=fun _ => True) (okp:=fun _ => True) ?hr ?hp (fun _ hk => hk) trivial (Below.refl _ _) (Nat.le_refl _) (by simp) ?_;(case hd => rfl);(case hg => rfl);(case hr => first|(go_simp;done)|(go_simp;rfl));(case hp => exact (Reps.one (show Kd.M (Kd.int .u8) _ _ _ ((wrap64 ((wrap64 (16 * a0)) + a1)) % 256) [.int .u8 ((wrap64 ((wrap64 (16 * a0)) + a1)) % 256)] from rfl) (Reps.none _ _)));intro v350 w21 ho22 hb hg_ hnew_;clear hg_ hnew_;(first|rw [← Ny349.out] at ho22|(simp only [Int.reduceToNat] at ho22;rw [← Ny349.out] at ho22));have n0_:=mk_ (Kd.R_lower ho22 (bz_ (qb_ HB)));have n1_:=mk_ (st_ (qb_ HB) hb);clear HB;have HO351:=n0_;have HB:=n1_;clear n0_ n1_ hb ho22)|((with_reducible refine gate_builtin (b:=.append) (xs:=#[.tmp 31,.tmp 32]) rfl ?_);(try (refine gate_guard (by rfl) ?_;dsimp only));at_builtin;refine Kd.R_append_rows (Kd.int .u8) (w0:=w) w.heap.size rfl (.tmp 31) (.tmp 32) 22 5 (.int .u8 0) 1 rfl Try.underlying22 info5 rfl (by decide) (by omega) v350 y349 l2 _ _ _ (fun _ => True) (fun _ => False) rfl rfl ?aO ?aR (fun _ _ h => h) (fun _ h => h.elim) ?aF ?aB ?aS ?aL ?_;(case aR => exact qn_ HR2 HB);(case aB => exact (qb_ HB));(case aF => exact (fun _ _ => trivial));(case aO => exact (qr_ HO351));(case aS => exact (bz_ (qb_ HB)));(case aL => have:=LMc19.out;omega);intro v353 w23 ho hb hg hat;rw [← Ny352.out] at ho;have n0_:=mk_ (hb);have n1_:=mk_ (ho);clear HB HO351;have HB:=n0_;have HO354:=n1_;clear n0_ n1_ ho hb hg hat;obtain ⟨Ao24,co24,eo24⟩:=Kd.R_slice HO354.out;subst eo24)|((with_reducible refine gate_callee (f:=87) rfl ?_);refine goesL_ (some 34) rfl rfl Try.func87 (by kernel_rfl) rfl #[.slice Ao24 y352.length co24] rfl qm_ ?_;(with_reducible refine (spec_AddCrc.calls k _ _ y352 t355 t356 _ ?side1 ?side2 A20.out).mono ?_);(case side1 => repeat (first|exact (rr_ HO354.out).2.2|(with_reducible refine ca_ ?_ _)|(with_reducible refine cn_ ?_ _)|(with_reducible refine cd_ ?_)));(case side2 => exact (rr_ HO354.out).2.1);rintro e w25 ⟨v357,rfl,ho0,hb⟩;refine ⟨_,rfl,?_⟩;have n0_:=mk_ (re_ (qr_ HO354) (Kd.R_base ho0) hb);have n1_:=mk_ (Kd.R_lower (Kd.R_new' ho0 (Kd.R_lt (qr_ HO354))) (bz_ (qb_ HB)));have n2_:=mk_ (st_ (qb_ HB) hb);clear HO354 HB;have HO354:=n0_;have HO358:=n1_;have HB:=n2_;clear n0_ n1_ n2_;(try clear hb);(try clear hb2);(try clear hk);(try clear hi);(try clear ho0)))
     go_ret2
     exact ⟨_,qe_,by (with_reducible repeat (first|apply ra_|apply rn_|apply rd_));exact rm_ HO358.out (λ_ _=>trivial),u3_ HB⟩
    ·rw [if_neg c19] at H
     exact absurd H (by simp)
  ·replace c7:=Bool.eq_false_iff.mpr c7
   subst c7
   have H1 : (some ((([] : List Int)),false)) = some (r1,r2):=by rw [if_neg (show ¬ (false = true) by decide)] at H;exact H
   clear H
   have H:=H1
   clear H1
   obtain ⟨y359,hy359⟩ : ∃ y_ : List Int,y_ = (([] : List Int)):=⟨_,rfl⟩
   replace H : (some (y359,false)) = some (r1,r2):=by first|(rw [hy359];with_reducible exact H)|(have H2_:=(Option.bind_some _ _).symm.trans H;rw [hy359];with_reducible exact H2_)|(have H2_:=(Option.bind_some _ _).symm.trans H;with_reducible exact H2_)|with_reducible exact H|(rw [hy359];exact H)|exact H
   have Ny359:=mk_ hy359
   clear hy359
   simp only [Option.some.injEq,Prod.mk.injEq] at H
   obtain ⟨rfl,rfl⟩:=H
   go_enter Try.func73,Try.ntmps73
   go_wp2_with (first|((with_reducible refine gate_callee (f:=36) rfl ?_);refine goesL_ (some 9) rfl rfl Try.func36 (by kernel_rfl) rfl #[.int .i64 a0,.int .i64 1,.int .i64 2] rfl qm_ ?_;(with_reducible refine (spec_l1In.calls a0 1 2 true _ A4.out).mono ?_);rintro e w' ⟨rfl,⟨nd,rfl⟩⟩;refine ⟨_,rfl,?_⟩)|(go_at_call 36;(with_reducible refine (spec_l1In.calls a1 0 15 false _ A6.out).mono ?_);rintro e w' ⟨rfl,⟨nd,rfl⟩⟩)|((with_reducible refine gate_dst (N:=25) rfl ?_);(try (refine gate_guard (by rfl) ?_;dsimp only));refine Kd.R_lit (Kd.int .u8) _ 5 ?hg (N:=25) ?hd (xs:=([] : List Int)) (inner:=[]) (ok:=fun _ => True) (okp:=fun _ => True) ?hr ?hp (fun _ hk => hk) trivial (Below.refl _ _) (Nat.le_refl _) (by simp) ?_;(case hd => rfl);(case hg => rfl);(case hr => first|(go_simp;done)|(go_simp;rfl));(case hp => exact (Reps.none _ _));intro v360 w26 ho27 hb hg_ hnew_;clear hg_ hnew_;(first|rw [← Ny359.out] at ho27|(simp only [Int.reduceToNat] at ho27;rw [← Ny359.out] at ho27));have n0_:=mk_ (Kd.R_lower ho27 (bz_ (qb_ HB)));have n1_:=mk_ (st_ (qb_ HB) hb);clear HB;have HO361:=n0_;have HB:=n1_;clear n0_ n1_ hb ho27))
   go_ret2
   exact ⟨_,qe_,qr_ HO361,u3_ HB⟩
 ·replace c5:=Bool.eq_false_iff.mpr c5
  subst c5
  have H1 : (some ((([] : List Int)),false)) = some (r1,r2):=by rw [if_neg (show ¬ (false = true) by decide)] at H;exact H
  clear H
  have H:=H1
  clear H1
  obtain ⟨y362,hy362⟩ : ∃ y_ : List Int,y_ = (([] : List Int)):=⟨_,rfl⟩
  replace H : (some (y362,false)) = some (r1,r2):=by first|(rw [hy362];with_reducible exact H)|(have H2_:=(Option.bind_some _ _).symm.trans H;rw [hy362];with_reducible exact H2_)|(have H2_:=(Option.bind_some _ _).symm.trans H;with_reducible exact H2_)|with_reducible exact H|(rw [hy362];exact H)|exact H
  have Ny362:=mk_ hy362
  clear hy362
  simp only [Option.some.injEq,Prod.mk.injEq] at H
  obtain ⟨rfl,rfl⟩:=H
  go_enter Try.func73,Try.ntmps73
  go_wp2_with (first|((with_reducible refine gate_callee (f:=36) rfl ?_);refine goesL_ (some 9) rfl rfl Try.func36 (by kernel_rfl) rfl #[.int .i64 a0,.int .i64 1,.int .i64 2] rfl qm_ ?_;(with_reducible refine (spec_l1In.calls a0 1 2 false _ A4.out).mono ?_);rintro e w' ⟨rfl,⟨nd,rfl⟩⟩;refine ⟨_,rfl,?_⟩)|((with_reducible refine gate_dst (N:=25) rfl ?_);(try (refine gate_guard (by rfl) ?_;dsimp only));refine Kd.R_lit (Kd.int .u8) _ 5 ?hg (N:=25) ?hd (xs:=([] : List Int)) (inner:=[]) (ok:=fun _ => True) (okp:=fun _ => True) ?hr ?hp (fun _ hk => hk) trivial (Below.refl _ _) (Nat.le_refl _) (by simp) ?_;(case hd => rfl);(case hg => rfl);(case hr => first|(go_simp;done)|(go_simp;rfl));(case hp => exact (Reps.none _ _));intro v363 w28 ho29 hb hg_ hnew_;clear hg_ hnew_;(first|rw [← Ny362.out] at ho29|(simp only [Int.reduceToNat] at ho29;rw [← Ny362.out] at ho29));have n0_:=mk_ (Kd.R_lower ho29 (bz_ (qb_ HB)));have n1_:=mk_ (st_ (qb_ HB) hb);clear HB;have HO364:=n0_;have HB:=n1_;clear n0_ n1_ hb ho29))
  go_ret2
  exact ⟨_,qe_,qr_ HO364,u3_ HB⟩

/-! ### spec_l4List: function 88 -/
def spec_l4List.l0 : Nat → List (List Int) → Int → Option (Bool)
 | 0,_,_ => none
 | k + 1,x0,x3 => if x3 < (x0.length : Int) then (if 0 ≤ x3 then ((spec_l1Data.f (rd_L2 x0 x3)).bind fun t366 => (if t366 = true then (spec_l4List.l0 k x0 (wrap64 (x3 + 1))) else (some false))) else (none)) else (some (decide ((x0.length : Int) ≤ 60)))
def spec_l4List.f (k : Nat) (l0 : List (List Int)) : Option (Bool):=spec_l4List.l0 k l0 0
theorem spec_l4List.mono_l : ∀ k,(∀ y0 y1,LeO (spec_l4List.l0 k y0 y1) (spec_l4List.l0 (k + 1) y0 y1))
 | 0 => fun _ _ r h => by simp [spec_l4List.l0] at h
 | k + 1 => by
  have ih0:=spec_l4List.mono_l k
  ·intro y0 y1
   unfold spec_l4List.l0
   repeat' first
   | (with_reducible exact ih0 _ _)
   | (with_reducible exact LeO.refl _)
   | (with_reducible exact LeO.none _)
   | (with_reducible refine LeO.ite ?_ ?_)
   | (with_reducible refine LeO.bind ?_ (fun _ => ?_))
   | exact ih0 _ _
   | exact LeO.none _
   | refine LeO.ite ?_ ?_
   | refine LeO.bind ?_ (fun _ => ?_)
theorem spec_l4List.mono : ∀ a0 k,LeO (spec_l4List.f k a0) (spec_l4List.f (k + 1) a0):=by
 intro a0 k
 have ih0:=spec_l4List.mono_l k
 unfold spec_l4List.f
 repeat' first
   | (with_reducible exact ih0 _ _)
   | (with_reducible exact LeO.refl _)
   | (with_reducible exact LeO.none _)
   | (with_reducible refine LeO.ite ?_ ?_)
   | (with_reducible refine LeO.bind ?_ (fun _ => ?_))
   | exact ih0 _ _
   | exact LeO.none _
   | refine LeO.ite ?_ ?_
   | refine LeO.bind ?_ (fun _ => ?_)
set_option maxHeartbeats 8000000 in
set_option maxRecDepth 100000 in
theorem spec_l4List.calls (k : Nat) (A0 : Option Addr) (c0 : Nat) (l0 : List (List Int)) (r : Bool) (w : World) (hr0 : Kd.C (Kd.slice 5 (Kd.int .u8)) w A0 l0.length l0) (hc0 : l0.length ≤ c0) (h : spec_l4List.f k l0 = some r) :
  Calls Try.prog 88 #[.slice A0 l0.length c0] w fun e w' => e = .returned (.bool r) ∧ Drawn0 w w':=by
 have HR0:=mk_ hr0
 have HC0:=mk_ hc0
 clear hr0 hc0
 have H : (spec_l4List.l0 k l0 0) = some r:=h
 clear h
 have H':=mk_ H
 clear H
 go_enter Try.func88,Try.ntmps88
 go_wp2
 go_loopg [3] k (fun kq v3 w' => ∃ (x3_1 : Int),v3 = .int .i64 x3_1 ∧ Aside0 (spec_l4List.l0 kq l0 x3_1 = some r) ∧ Aside0 (kq ≤ k) ∧ Drawn0 w w')
 case atStart => exact ⟨(0),qf_,H',⟨Nat.le_refl _⟩,by repeat (first|exact Drawn0.refl _|apply Drawn0.step)⟩
 case round =>
  clear H'
  obtain ⟨x3_1,rfl,HA,HK1,⟨m1,rfl⟩⟩:=hrel
  cases gk with
  | zero => exact absurd HA.out (by simp [spec_l4List.l0])
  | succ k1 =>
   have H:=HA.out
   clear HA
   simp only [spec_l4List.l0] at H
   by_cases c2 : x3_1 < (l0.length : Int)
   ·rw [if_pos c2] at H
    have c2b0 : decide (x3_1 < (l0.length : Int)) = true:=decide_eq_true c2
    clear c2
    by_cases c3 : 0 ≤ x3_1
    ·rw [if_pos c3] at H
     have c3b0 : decide (0 ≤ x3_1) = true:=decide_eq_true c3
     clear c3
     replace H:=Option.bind_eq_some_iff.mp H
     obtain ⟨t366,A40,H⟩:=H
     replace H : (if t366 = true then (spec_l4List.l0 k1 l0 (wrap64 (x3_1 + 1))) else (some false)) = some r:=H
     have A4:=mk_ A40
     clear A40
     by_cases c5 : t366 = true
     ·subst c5
      have H1 : (spec_l4List.l0 k1 l0 (wrap64 (x3_1 + 1))) = some r:=by rw [if_pos rfl] at H;exact H
      clear H
      have H:=H1
      clear H1
      have H':=mk_ H
      clear H
      have p365 : 0 ≤ (x3_1 : Int):=od_ qa_
      have q365 : x3_1 < (l0.length : Int):=od_ qa_
      obtain ⟨ad365,A365_0,c365_0,e365,hx365_0,hl365_0,hi365_0⟩:=at_L2 HR0.out x3_1 p365 q365
      cases e365
      have HR365_0:=mk_ hi365_0
      have HC365_0:=mk_ hl365_0
      clear hi365_0 hl365_0
      replace p365:=eq_true p365
      replace q365:=eq_true q365
      go_wp2_with (first|((with_reducible refine gate_callee (f:=97) rfl ?_);refine goesL_ (some 14) rfl rfl Try.func97 (by kernel_rfl) rfl #[.slice A365_0 (rd_L2 l0 x3_1).length c365_0] rfl qm_ ?_;(with_reducible refine (spec_l1Data.calls _ _ (rd_L2 l0 x3_1) true _ ?side1 ?side2 A4.out).mono ?_);(case side1 => repeat (first|exact HR365_0.out|(with_reducible refine ca_ ?_ _)|(with_reducible refine cn_ ?_ _)|(with_reducible refine cd_ ?_)));(case side2 => exact HC365_0.out);rintro e w' ⟨rfl,⟨nd,rfl⟩⟩;refine ⟨_,rfl,?_⟩))
      go_roundg k1
      case measure => have:=HK1.out;omega
      case rel => exact ⟨(wrap64 (x3_1 + 1)),qf_,H',⟨by have:=HK1.out;omega⟩,by repeat (first|exact Drawn0.refl _|apply Drawn0.step)⟩
     ·replace c5:=Bool.eq_false_iff.mpr c5
      subst c5
      have H1 : (some false) = some r:=by rw [if_neg (show ¬ (false = true) by decide)] at H;exact H
      clear H
      have H:=H1
      clear H1
      obtain rfl:=Option.some.inj H
      have p365 : 0 ≤ (x3_1 : Int):=od_ qa_
      have q365 : x3_1 < (l0.length : Int):=od_ qa_
      obtain ⟨ad365,A365_0,c365_0,e365,hx365_0,hl365_0,hi365_0⟩:=at_L2 HR0.out x3_1 p365 q365
      cases e365
      have HR365_0:=mk_ hi365_0
      have HC365_0:=mk_ hl365_0
      clear hi365_0 hl365_0
      replace p365:=eq_true p365
      replace q365:=eq_true q365
      go_wp2_with (first|((with_reducible refine gate_callee (f:=97) rfl ?_);refine goesL_ (some 14) rfl rfl Try.func97 (by kernel_rfl) rfl #[.slice A365_0 (rd_L2 l0 x3_1).length c365_0] rfl qm_ ?_;(with_reducible refine (spec_l1Data.calls _ _ (rd_L2 l0 x3_1) false _ ?side1 ?side2 A4.out).mono ?_);(case side1 => repeat (first|exact HR365_0.out|(with_reducible refine ca_ ?_ _)|(with_reducible refine cn_ ?_ _)|(with_reducible refine cd_ ?_)));(case side2 => exact HC365_0.out);rintro e w' ⟨rfl,⟨nd,rfl⟩⟩;refine ⟨_,rfl,?_⟩))
      go_ret
      exact ⟨by first|rfl|(simp;done)|(simp [*];done),by repeat (first|exact Drawn0.refl _|apply Drawn0.step)⟩
    ·rw [if_neg c3] at H
     exact absurd H (by simp)
   ·rw [if_neg c2] at H
    have c2b0 : decide (x3_1 < (l0.length : Int)) = false:=decide_eq_false c2
    clear c2
    obtain rfl:=Option.some.inj H
    go_wp2
    go_ret
    exact ⟨by first|rfl|(simp;done)|(simp [*];done),by repeat (first|exact Drawn0.refl _|apply Drawn0.step)⟩

end Go.Proofs.Ytdpnloibbimblaa.PAll
