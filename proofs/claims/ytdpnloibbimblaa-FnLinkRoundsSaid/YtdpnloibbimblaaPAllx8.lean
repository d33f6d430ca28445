/- Proved here: contracts of functions of the given program, or lemmas on them, for the laws of this seat. Written by xprint.py, a program of this session, on the ground of the kit's print; parts by hand: wip/x/ext. -/
import Derived.Test.YtdpnloibbimblaaPAllx0
import Derived.Test.YtdpnloibbimblaaPAllx1
import Derived.Test.YtdpnloibbimblaaPAllx4
import Derived.Test.YtdpnloibbimblaaPAllx6
namespace Go.Proofs.Ytdpnloibbimblaa.PAll
open Go.RowKit Go.Proofs.YtdpnloibbimblaaW.PrintWords Go.Proofs.YtdpnloibbimblaaW.PrintLast Go.Proofs.YtdpnloibbimblaaW.PrintMore
attribute [local go_sem] max2_int min2_int max_two min_two max_three min_three max_four min_four   -- for this text's walks alone
set_option linter.unusedVariables false
set_option linter.unusedSimpArgs false

/-! ### laws_FnLinkRounds: function 6 (by hand) -/
def laws_FnLinkRounds.f (k : Nat) (l0 : List Int) : Option (Bool) :=
 if (l0.length : Int) > 1048576 then some true else (spec_DrawLinkRounds.f k l0).bind fun d => (impl_LinkRounds.f d.1 d.2.1 d.2.2.1 d.2.2.2).bind fun n => (spec_LinkRounds.f k d.1 d.2.1 d.2.2.1 d.2.2.2).bind fun m =>
  if n = m then (if n = -1 then some true else if 0 ≤ n ∧ n ≤ 400 then (impl_RunLink.f d.1 d.2.1 d.2.2.1 d.2.2.2 n).bind fun a => (laws_wnTexts.f k a.1 d.2.1).bind fun t =>
   if a.2.2.2.2 = true ∧ a.2.2.2.1 = true ∧ a.2.1 = n ∧ t = true then (if n = 0 then some true else (impl_RunLink.f d.1 d.2.1 d.2.2.1 d.2.2.2 (n - 1)).bind fun b => (laws_wnTexts.f k b.1 (a.1.take b.1.length)).bind fun u =>
    if b.2.2.2.2 = true ∧ b.2.2.2.1 = false ∧ b.1.length ≤ a.1.length ∧ u = true then some true else none) else none else none) else none
set_option maxHeartbeats 4000000 in
set_option maxRecDepth 100000 in
theorem laws_FnLinkRounds.calls (k : Nat) (A0 : Option Addr) (c0 : Nat) (l0 : List Int) (r : Bool) (w : World) (hr0 : Kd.C (Kd.int .u8) w A0 l0.length l0) (hc0 : l0.length ≤ c0) (h : laws_FnLinkRounds.f k l0 = some r) :
  Calls Try.prog 6 #[.slice A0 l0.length c0] w fun e w' => e = .returned (.bool r) ∧ Below w.heap.size w w':=by
 unfold laws_FnLinkRounds.f at h
 have hu:=Try.underlying28
 have hlen:=Kd.C_max hr0
 by_cases cg : (l0.length : Int) > 1048576
 ·rw [if_pos cg] at h
  obtain rfl:=Option.some.inj h
  have p1 : (1048576 < (l0.length : Int)) = True:=eq_true cg
  clear h hr0 hc0 cg
  go_enter Try.func6,Try.ntmps6
  go_wp2
  go_ret
  exact ⟨rfl,Below.refl _ _⟩
 ·rw [if_neg cg] at h
  have p1 : (1048576 < (l0.length : Int)) = False:=eq_false cg
  replace h:=Option.bind_eq_some_iff.mp h
  obtain ⟨⟨d1,d2,d3,d4⟩,hD,h⟩:=h
  replace h:=Option.bind_eq_some_iff.mp h
  obtain ⟨n,hN,h⟩:=h
  replace h:=Option.bind_eq_some_iff.mp h
  obtain ⟨m,hM,h⟩:=h
  by_cases hnm : n = m
  ·rw [if_pos hnm] at h
   subst hnm
   have HD:=mk_ (spec_DrawLinkRounds.calls k A0 c0 l0 d1 d2 d3 d4 w hr0 hc0 hD)
   have HN:=mk_ (fun A1 c1 A2 c2 A3 c3 W hC hc hC2 hc2 hC3 hc3 => impl_LinkRounds.calls d1 A1 c1 d2 A2 c2 d3 A3 c3 d4 n W hC hc hC2 hc2 hC3 hc3 hN)
   have HM:=mk_ (fun A1 c1 A2 c2 A3 c3 W hC hc hC2 hc2 hC3 hc3 => spec_LinkRounds.calls k d1 A1 c1 d2 A2 c2 d3 A3 c3 d4 n W hC hc hC2 hc2 hC3 hc3 hM)
   clear hr0 hc0 cg hD hN hM
   go_enter Try.func6,Try.ntmps6
   go_wp2_with fail
   refine HD.out.mono ?_
   rintro e w1 ⟨v1,v2,v3,rfl,h1,h2,h3,hb1⟩
   obtain ⟨A1,c1,rfl⟩:=Kd.S_slice h1
   obtain ⟨A2,c2,rfl⟩:=Kd.R_slice h2
   obtain ⟨A3,c3,rfl⟩:=Kd.R_slice h3
   have HC1:=mk_ (Kd.S_reads' h1).2.2
   have HL1:=mk_ (Kd.S_reads' h1).2.1
   have HC2:=mk_ (rr_ h2).2.2
   have HL2:=mk_ (rr_ h2).2.1
   have HC3:=mk_ (rr_ h3).2.2
   have HL3:=mk_ (rr_ h3).2.1
   have HB1:=mk_ hb1
   clear h1 h2 h3 hb1 HD
   go_wp2_with fail
   refine (HN.out A1 c1 A2 c2 A3 c3 w1 HC1.out HL1.out HC2.out HL2.out HC3.out HL3.out).mono ?_
   rintro e w2 ⟨rfl,hb2⟩
   have HB2:=mk_ hb2
   clear hb2 HN
   go_wp2_with fail
   refine (HM.out A1 c1 A2 c2 A3 c3 w2 (cb_ HC1.out HB2.out) HL1.out (cb_ HC2.out HB2.out) HL2.out (cb_ HC3.out HB2.out) HL3.out).mono ?_
   rintro e w3 ⟨rfl,hb3⟩
   have HB3:=mk_ (st_ HB2.out hb3)
   clear hb3 HB2
   by_cases hn1 : n = -1
   ·rw [if_pos hn1] at h
    obtain rfl:=Option.some.inj h
    subst hn1
    go_wp2_with fail
    refine (HM.out A1 c1 A2 c2 A3 c3 w3 (cb_ HC1.out HB3.out) HL1.out (cb_ HC2.out HB3.out) HL2.out (cb_ HC3.out HB3.out) HL3.out).mono ?_
    rintro e w4 ⟨rfl,hb4⟩
    go_wp2
    go_ret
    exact ⟨by first|rfl|simp,st_ HB1.out (st_ HB3.out hb4)⟩
   ·rw [if_neg hn1] at h
    by_cases hn2 : 0 ≤ n ∧ n ≤ 400
    ·rw [if_pos hn2] at h
     obtain ⟨hn0,hn4⟩:=hn2
     replace h:=Option.bind_eq_some_iff.mp h
     obtain ⟨⟨a1,a2,a3,a4,a5⟩,hA,h⟩:=h
     replace h:=Option.bind_eq_some_iff.mp h
     obtain ⟨t,hT,h⟩:=h
     by_cases ha : a5 = true ∧ a4 = true ∧ a2 = n ∧ t = true
     ·rw [if_pos ha] at h
      obtain ⟨rfl,rfl,rfl,rfl⟩:=ha
      have q1 : (a2 < 0) = False:=eq_false (by omega)
      have HA:=mk_ (impl_RunLink.calls d1 A1 c1 d2 A2 c2 d3 A3 c3 d4 a2 a1 a2 a3 true true w3 (cb_ HC1.out HB3.out) HL1.out (cb_ HC2.out HB3.out) HL2.out (cb_ HC3.out HB3.out) HL3.out hA)
      have HT:=mk_ (fun A c W hC hc W2 => laws_wnTexts.calls k A c a1 A1 c1 d2 true W hC hc W2 HL1.out hT)
      clear hA hT HM hn1
      go_wp2_with fail
      refine HA.out.mono ?_
      rintro e w4 ⟨v4,rfl,h4,hb4⟩
      obtain ⟨A4,c4,rfl⟩:=Kd.S_slice h4
      have HB4:=mk_ (st_ HB3.out (st_ hb4 (ba_ (Below.refl _ w4) (.cells #[.slice A4 a1.length c4,.int .i64 a2,.int .i64 a3,.bool true] 28))))
      have HN4:=mk_ (blk_new w4 (.cells #[.slice A4 a1.length c4,.int .i64 a2,.int .i64 a3,.bool true] 28))
      have HC4:=mk_ (ca_ (Kd.S_reads' h4).2.2 (.cells #[.slice A4 a1.length c4,.int .i64 a2,.int .i64 a3,.bool true] 28))
      have HL4:=mk_ (Kd.S_reads' h4).2.1
      have hl4:=Kd.C_max HC4.out
      clear h4 hb4 HA HB3
      by_cases hz : a2 = 0
      ·rw [if_pos hz] at h
       obtain rfl:=Option.some.inj h
       subst hz
       have j0 : (w4.alloc (.cells #[.slice A4 a1.length c4,.int .i64 0,.int .i64 a3,.bool true] 28)).cell? ⟨w4.heap.size,0,none⟩ = some (.slice A4 a1.length c4):=(bc_ HN4.out 0).trans rfl
       have j1 : (w4.alloc (.cells #[.slice A4 a1.length c4,.int .i64 0,.int .i64 a3,.bool true] 28)).cell? ⟨w4.heap.size,1,none⟩ = some (.int .i64 0):=(bc_ HN4.out 1).trans rfl
       have j3 : (w4.alloc (.cells #[.slice A4 a1.length c4,.int .i64 0,.int .i64 a3,.bool true] 28)).cell? ⟨w4.heap.size,3,none⟩ = some (.bool true):=(bc_ HN4.out 3).trans rfl
       clear hl4
       go_wp2_with fail
       refine (HT.out A4 c4 _ HC4.out HL4.out (cb_ HC1.out HB4.out)).mono ?_
       rintro e w5 ⟨rfl,⟨nd,rfl⟩⟩
       go_wp2
       go_ret
       exact ⟨by first|rfl|simp,st_ HB1.out (st_ HB4.out (bn_ (Below.refl _ _) _))⟩
      ·rw [if_neg hz] at h
       replace h:=Option.bind_eq_some_iff.mp h
       obtain ⟨⟨b1,b2,b3,b4,b5⟩,hA2,h⟩:=h
       replace h:=Option.bind_eq_some_iff.mp h
       obtain ⟨t,hU,h⟩:=h
       by_cases hb : b5 = true ∧ b4 = false ∧ b1.length ≤ a1.length ∧ t = true
       ·rw [if_pos hb] at h
        obtain rfl:=Option.some.inj h
        obtain ⟨rfl,rfl,hbl,rfl⟩:=hb
        have q2 : (0 < a2) = True:=eq_true (by omega)
        have q3 : wrap64 (a2 - 1) = a2 - 1:=wrap_eq (by omega) (by omega)
        have HA2:=mk_ (impl_RunLink.calls d1 A1 c1 d2 A2 c2 d3 A3 c3 d4 (a2 - 1) b1 b2 b3 false true _ (cb_ HC1.out HB4.out) HL1.out (cb_ HC2.out HB4.out) HL2.out (cb_ HC3.out HB4.out) HL3.out hA2)
        have htl : (a1.take b1.length).length = b1.length:=by rw [List.length_take];omega
        have HU : Aside0 (∀ (A : Option Addr) (c : Nat) (A' : Option Addr) (c' : Nat) (W : World),Kd.C (Kd.slice 5 (Kd.int .u8)) W A b1.length b1 → b1.length ≤ c → Kd.C (Kd.slice 5 (Kd.int .u8)) W A' (a1.take b1.length).length (a1.take b1.length) → (a1.take b1.length).length ≤ c' →
          Calls Try.prog 20 #[.slice A b1.length c,.slice A' b1.length c'] W fun e w' => e = .returned (.bool true) ∧ Drawn0 W w'):=⟨by
         intro A c A' c' W hC hc hC2 hc2
         have h9:=laws_wnTexts.calls k A c b1 A' c' (a1.take b1.length) true W hC hc hC2 hc2 hU
         rw [htl] at h9
         exact h9⟩
        clear hA2 hU hl4 hz
        go_wp2_with fail
        refine HA2.out.mono ?_
        rintro e w5 ⟨v5,rfl,h5,hb5⟩
        obtain ⟨A5,c5,rfl⟩:=Kd.S_slice h5
        have hb6:=st_ hb5 (ba_ (Below.refl _ w5) (.cells #[.slice A5 b1.length c5,.int .i64 b2,.int .i64 b3,.bool false] 28))
        have HB6:=mk_ (st_ HB4.out hb6)
        have HC6:=mk_ (cb_ HC4.out hb6)
        have HC5:=mk_ (ca_ (Kd.S_reads' h5).2.2 (.cells #[.slice A5 b1.length c5,.int .i64 b2,.int .i64 b3,.bool false] 28))
        have HL5:=mk_ (Kd.S_reads' h5).2.1
        have hl5:=Kd.C_max HC5.out
        have hn5:=blk_new w5 (.cells #[.slice A5 b1.length c5,.int .i64 b2,.int .i64 b3,.bool false] 28)
        have hn4:=blk_below HN4.out hb6
        have i0 : (w5.alloc (.cells #[.slice A5 b1.length c5,.int .i64 b2,.int .i64 b3,.bool false] 28)).cell? ⟨w4.heap.size,0,none⟩ = some (.slice A4 a1.length c4):=(bc_ hn4 0).trans rfl
        have i1 : (w5.alloc (.cells #[.slice A5 b1.length c5,.int .i64 b2,.int .i64 b3,.bool false] 28)).cell? ⟨w4.heap.size,1,none⟩ = some (.int .i64 a2):=(bc_ hn4 1).trans rfl
        have i3 : (w5.alloc (.cells #[.slice A5 b1.length c5,.int .i64 b2,.int .i64 b3,.bool false] 28)).cell? ⟨w4.heap.size,3,none⟩ = some (.bool true):=(bc_ hn4 3).trans rfl
        have j0 : (w5.alloc (.cells #[.slice A5 b1.length c5,.int .i64 b2,.int .i64 b3,.bool false] 28)).cell? ⟨w5.heap.size,0,none⟩ = some (.slice A5 b1.length c5):=(bc_ hn5 0).trans rfl
        have j3 : (w5.alloc (.cells #[.slice A5 b1.length c5,.int .i64 b2,.int .i64 b3,.bool false] 28)).cell? ⟨w5.heap.size,3,none⟩ = some (.bool false):=(bc_ hn5 3).trans rfl
        have q4 : ((a1.length : Int) < (b1.length : Int)) = False:=eq_false (by omega)
        have hcut : ∀ W : World,(Instr.slice 23 (.slice A4 a1.length c4) none (some (.int .i64 (b1.length : Int))) none).run Try.prog W = .ok (.slice A4 (a1.take b1.length).length c4) W:=by
         obtain ⟨i_,hi_,_⟩:=info_parts (P:=Try.prog) (e:=22) (size:=1) (bytes:=24) (z:=.slice none 0 0) (by kernel_rfl)
         have:=cut_to (P:=Try.prog) 23 22 .i64 (by kernel_rfl) hi_ A4 a1.length c4 (b1.length : Int) (by omega) (by omega) HL4.out
         rw [htl]
         exact this
        have HCT:=mk_ (Kd.C_take HC6.out hbl)
        have HLT:=mk_ (show (a1.take b1.length).length ≤ c4 by rw [htl];exact Nat.le_trans hbl HL4.out)
        generalize w4.heap.size = g4 at i0 i1 i3 ⊢
        clear h5 hb5 hb6 hn5 hn4 HA2 HN4 htl hl5
        go_wp2
        go_quiet ((go_at_call 20;(with_reducible refine (HU.out _ _ _ _ _ ?s1 ?s2 ?s3 ?s4).mono ?_);(case s1 => exact cn_ HC5.out _);(case s2 => exact HL5.out);(case s3 => exact cn_ HCT.out _);(case s4 => exact HLT.out);rintro e w' ⟨rfl,⟨nd,rfl⟩⟩;(try first|exact ⟨rfl,_,World.drewN_drewN _ _ _⟩|exact ⟨rfl,_,Eq.trans (World.drewN_drewN _ _ _) (congrArg (World.drewN _) (Nat.add_assoc _ _ _))⟩)))
        go_wp2_with fail
        refine (HT.out A4 c4 _ (cn_ HC6.out _) HL4.out (cn_ (cb_ HC1.out HB6.out) _)).mono ?_
        rintro e w6 ⟨rfl,⟨nd,rfl⟩⟩
        go_wp2
        go_ret
        exact ⟨by first|rfl|simp,st_ HB1.out (st_ HB6.out (bn_ (Below.refl _ _) _))⟩
       ·rw [if_neg hb] at h
        cases h
     ·rw [if_neg ha] at h
      cases h
    ·rw [if_neg hn2] at h
     cases h
  ·rw [if_neg hnm] at h
   cases h

/-- The pure statement of laws_FnLinkRounds. -/
def laws_FnLinkRounds.Pure : Prop:=∀ (l0 : List Int),l0.length ≤ maxLen → l0.length * 1 ≤ 140737488351232 → (∀ x ∈ l0,(Lit.int .u8 x).wf = true) → ∃ k,laws_FnLinkRounds.f k l0 = some true
theorem laws_FnLinkRounds.walk (P : laws_FnLinkRounds.Pure) (a0 : Option Addr) (len0 cap0 : Nat) (z0 : List Int) (w : World) (w0 : (a0 = none ∧ len0 = 0 ∧ cap0 = 0 ∧ z0 = []) ∨ ∃ x,a0 = some x ∧ len0 ≤ cap0 ∧ cap0 ≤ maxLen ∧ z0.length = cap0 ∧ (∀ i,i < z0.length → w.cell? (x.add i) = some (.int .u8 (z0.getD i 0))) ∧ ∀ n ∈ z0,(Lit.int .u8 n).wf = true) (y0 : len0 * 1 ≤ 140737488351232) :
  Calls Try.prog 6 #[.slice a0 len0 cap0] w fun e w' => e = .returned (.bool true) ∧ Below w.heap.size w w':=by
 obtain ⟨l0,rfl,hr0,hm0,hw0,hc0⟩:=ReadsInt.ofRowC w0
 obtain ⟨k,h⟩:=P l0 hm0 y0 hw0
 refine (laws_FnLinkRounds.calls k _ _ l0 true _ (Kd.C_of_reads (d:=(0 : Int)) (h1:=fun _ => rfl) hr0) hc0 h).mono ?_
 rintro e w' ⟨rfl,hd⟩
 exact ⟨rfl,hd⟩

end Go.Proofs.Ytdpnloibbimblaa.PAll
