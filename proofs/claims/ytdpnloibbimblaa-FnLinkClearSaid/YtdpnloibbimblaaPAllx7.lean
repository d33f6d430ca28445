/- Proved here: contracts of functions of the given program, or lemmas on them, for the laws of this seat. Written by xprint.py, a program of this session, on the ground of the kit's print; parts by hand: wip/x/ext. -/
import Derived.Test.YtdpnloibbimblaaPAllx0
import Derived.Test.YtdpnloibbimblaaPAllx1
import Derived.Test.YtdpnloibbimblaaPAllx4
import Derived.Test.YtdpnloibbimblaaPAllx6
namespace Go.Proofs.Ytdpnloibbimblaa.PAll
open Go.RowKit Go.Proofs.YtdpnloibbimblaaW.PrintWords Go.Proofs.YtdpnloibbimblaaW.PrintLast Go.Proofs.YtdpnloibbimblaaW.PrintMore
attribute [local go_sem] max2_int min2_int max_two min_two max_three min_three max_four min_four   -- for this text's walks alone
set_option linter.unusedVariables false
set_option linter.unusedSimpArgs false

/-! ### laws_FnLinkClear: function 3 (by hand) -/
def laws_FnLinkClear.f (k : Nat) (l0 : List Int) : Option (Bool) :=
 if (l0.length : Int) > 1048576 then some true else (spec_DrawLinkRounds.f k l0).bind fun d => (impl_RunLink.f d.1 d.2.1 [] [] 100).bind fun a => (spec_RunLink.f k d.1 d.2.1 [] [] 100).bind fun b =>
  if a = b ∧ (a.2.2.2.2 = false ∨ (a.2.2.2.2 = true ∧ a.2.2.2.1 = true ∧ a.2.2.1 = (d.2.1.length : Int) + a.2.1 ∧ 1 ≤ d.1 ∧ d.1 ≤ 8 ∧ d.2.1.length ≤ 1000 ∧ 0 ≤ a.2.1 ∧ a.2.1 ≤ 2000 ∧ Int.tdiv ((d.2.1.length : Int) + d.1 - 1) d.1 = a.2.1)) then some true else none
set_option maxHeartbeats 4000000 in
set_option maxRecDepth 100000 in
theorem laws_FnLinkClear.calls (k : Nat) (A0 : Option Addr) (c0 : Nat) (l0 : List Int) (r : Bool) (w : World) (hr0 : Kd.C (Kd.int .u8) w A0 l0.length l0) (hc0 : l0.length ≤ c0) (h : laws_FnLinkClear.f k l0 = some r) :
  Calls Try.prog 3 #[.slice A0 l0.length c0] w fun e w' => e = .returned (.bool r) ∧ Below w.heap.size w w':=by
 unfold laws_FnLinkClear.f at h
 have hu:=Try.underlying28
 have hlen:=Kd.C_max hr0
 by_cases cg : (l0.length : Int) > 1048576
 ·rw [if_pos cg] at h
  obtain rfl:=Option.some.inj h
  have p1 : (1048576 < (l0.length : Int)) = True:=eq_true cg
  clear h hr0 hc0 cg
  go_enter Try.func3,Try.ntmps3
  go_wp2
  go_ret
  exact ⟨rfl,Below.refl _ _⟩
 ·rw [if_neg cg] at h
  have p1 : (1048576 < (l0.length : Int)) = False:=eq_false cg
  replace h:=Option.bind_eq_some_iff.mp h
  obtain ⟨⟨d1,d2,d3,d4⟩,hD,h⟩:=h
  replace h:=Option.bind_eq_some_iff.mp h
  obtain ⟨⟨a1,a2,a3,a4,a5⟩,hA,h⟩:=h
  replace h:=Option.bind_eq_some_iff.mp h
  obtain ⟨b,hS,h⟩:=h
  by_cases hc : (a1,a2,a3,a4,a5) = b ∧ (a5 = false ∨ (a5 = true ∧ a4 = true ∧ a3 = (d2.length : Int) + a2 ∧ 1 ≤ d1 ∧ d1 ≤ 8 ∧ d2.length ≤ 1000 ∧ 0 ≤ a2 ∧ a2 ≤ 2000 ∧ Int.tdiv ((d2.length : Int) + d1 - 1) d1 = a2))
  ·rw [if_pos hc] at h
   obtain rfl:=Option.some.inj h
   obtain ⟨rfl,hc⟩:=hc
   have HD:=mk_ (spec_DrawLinkRounds.calls k A0 c0 l0 d1 d2 d3 d4 w hr0 hc0 hD)
   have HI:=mk_ (fun A1 c1 W hC hc => impl_RunLink.calls d1 A1 c1 d2 none 0 [] none 0 [] 100 a1 a2 a3 a4 a5 W hC hc (Kd.C_nil _ _) (Nat.le_refl _) (Kd.C_nil _ _) (Nat.le_refl _) hA)
   have HS:=mk_ (fun A1 c1 W hC hc => spec_RunLink.calls k d1 A1 c1 d2 none 0 [] none 0 [] 100 a1 a2 a3 a4 a5 W hC hc (Kd.C_nil _ _) (Nat.le_refl _) (Kd.C_nil _ _) (Nat.le_refl _) hS)
   clear h hr0 hc0 cg hD hA hS
   go_enter Try.func3,Try.ntmps3
   go_wp2_with fail
   refine HD.out.mono ?_
   rintro e w1 ⟨v1,v2,v3,rfl,h1,_,_,hb1⟩
   obtain ⟨A1,c1,rfl⟩:=Kd.S_slice h1
   have hi:=HI.out A1 c1 w1 (Kd.S_reads' h1).2.2 (Kd.S_reads' h1).2.1
   have HI1:=mk_ hi
   have H1:=mk_ h1
   have HB1:=mk_ hb1
   clear hi h1 hb1 HD HI
   go_wp2_with fail
   refine HI1.out.mono ?_
   rintro e w2 ⟨v4,rfl,h4,hb2⟩
   obtain ⟨A4,c4,rfl⟩:=Kd.S_slice h4
   have hn4:=blk_new w2 (.cells #[.slice A4 a1.length c4,.int .i64 a2,.int .i64 a3,.bool a4] 28)
   have hb3:=st_ hb2 (ba_ (Below.refl _ w2) (.cells #[.slice A4 a1.length c4,.int .i64 a2,.int .i64 a3,.bool a4] 28))
   have hs:=HS.out A1 c1 _ (cb_ (Kd.S_reads' H1.out).2.2 hb3) (Kd.S_reads' H1.out).2.1
   have HS1:=mk_ hs
   have HN4:=mk_ hn4
   have HB3:=mk_ (st_ HB1.out hb3)
   clear hs hn4 hb3 hb2 h4 HI1 H1 HB1 HS
   go_wp2_with fail
   refine HS1.out.mono ?_
   rintro e w3 ⟨v5,rfl,h5,hb4⟩
   obtain ⟨A5,c5,rfl⟩:=Kd.S_slice h5
   have HN5:=blk_below HN4.out hb4
   have HB4:=mk_ (st_ HB3.out hb4)
   have k1 : w3.cell? ⟨w2.heap.size,1,none⟩ = some (.int .i64 a2):=(bc_ HN5 1).trans rfl
   have k2 : w3.cell? ⟨w2.heap.size,2,none⟩ = some (.int .i64 a3):=(bc_ HN5 2).trans rfl
   have k3 : w3.cell? ⟨w2.heap.size,3,none⟩ = some (.bool a4):=(bc_ HN5 3).trans rfl
   have hnn:=World.new_ne w3 ⟨w2.heap.size,1,none⟩ k1
   have HBZ:=mk_ (st_ HB4.out (ba_ (Below.refl _ w3) (.cells #[.slice A5 a1.length c5,.int .i64 a2,.int .i64 a3,.bool a4] 28)))
   have HN6:=blk_new w3 (.cells #[.slice A5 a1.length c5,.int .i64 a2,.int .i64 a3,.bool a4] 28)
   have j1 : (w3.alloc (.cells #[.slice A5 a1.length c5,.int .i64 a2,.int .i64 a3,.bool a4] 28)).cell? ⟨w3.heap.size,1,none⟩ = some (.int .i64 a2):=(bc_ HN6 1).trans rfl
   have j2 : (w3.alloc (.cells #[.slice A5 a1.length c5,.int .i64 a2,.int .i64 a3,.bool a4] 28)).cell? ⟨w3.heap.size,2,none⟩ = some (.int .i64 a3):=(bc_ HN6 2).trans rfl
   have j3 : (w3.alloc (.cells #[.slice A5 a1.length c5,.int .i64 a2,.int .i64 a3,.bool a4] 28)).cell? ⟨w3.heap.size,3,none⟩ = some (.bool a4):=(bc_ HN6 3).trans rfl
   have i1 : (w3.alloc (.cells #[.slice A5 a1.length c5,.int .i64 a2,.int .i64 a3,.bool a4] 28)).cell? ⟨w2.heap.size,1,none⟩ = some (.int .i64 a2):=((ba_ (Below.refl _ w3) (.cells #[.slice A5 a1.length c5,.int .i64 a2,.int .i64 a3,.bool a4] 28)).cell (wl_ w3 _ k1)).trans k1
   have i2 : (w3.alloc (.cells #[.slice A5 a1.length c5,.int .i64 a2,.int .i64 a3,.bool a4] 28)).cell? ⟨w2.heap.size,2,none⟩ = some (.int .i64 a3):=((ba_ (Below.refl _ w3) (.cells #[.slice A5 a1.length c5,.int .i64 a2,.int .i64 a3,.bool a4] 28)).cell (wl_ w3 _ k2)).trans k2
   have i3 : (w3.alloc (.cells #[.slice A5 a1.length c5,.int .i64 a2,.int .i64 a3,.bool a4] 28)).cell? ⟨w2.heap.size,3,none⟩ = some (.bool a4):=((ba_ (Below.refl _ w3) (.cells #[.slice A5 a1.length c5,.int .i64 a2,.int .i64 a3,.bool a4] 28)).cell (wl_ w3 _ k3)).trans k3
   generalize w2.heap.size = g7 at HN5 k1 k2 k3 i1 i2 i3 hnn ⊢
   clear HN6 HN5 HN4 hb4 h5 HS1 HB3 HB4
   rcases hc with rfl|⟨rfl,rfl,hs,hd1,hd8,hl,ha0,ha1,hq⟩
   ·go_wp2
    go_ret
    exact ⟨by first|rfl|simp,HBZ.out⟩
   ·have p2 : (d1 = 0) = False:=eq_false (by omega)
    have p3 : (d1 == 0) = false:=beq_eq_false_iff_ne.mpr (by omega)
    subst hs
    have e1 : wrap64 ((d2.length : Int) + a2) = (d2.length : Int) + a2:=wrap_eq (by omega) (by omega)
    have e2 : wrap64 ((d2.length : Int) + d1) = (d2.length : Int) + d1:=wrap_eq (by omega) (by omega)
    have e3 : wrap64 ((d2.length : Int) + d1 - 1) = (d2.length : Int) + d1 - 1:=wrap_eq (by omega) (by omega)
    have e5 : wrap64 a2 = a2:=wrap_eq (by omega) (by omega)
    clear hlen hl ha0 ha1
    go_wp2
    go_quiet (fail)
    go_wp2
    go_ret
    exact ⟨by first|rfl|simp [e5],st_ HBZ.out (bn_ (Below.refl _ _) _)⟩
  ·rw [if_neg hc] at h
   cases h

/-- The pure statement of laws_FnLinkClear. -/
def laws_FnLinkClear.Pure : Prop:=∀ (l0 : List Int),l0.length ≤ maxLen → l0.length * 1 ≤ 140737488351232 → (∀ x ∈ l0,(Lit.int .u8 x).wf = true) → ∃ k,laws_FnLinkClear.f k l0 = some true
theorem laws_FnLinkClear.walk (P : laws_FnLinkClear.Pure) (a0 : Option Addr) (len0 cap0 : Nat) (z0 : List Int) (w : World) (w0 : (a0 = none ∧ len0 = 0 ∧ cap0 = 0 ∧ z0 = []) ∨ ∃ x,a0 = some x ∧ len0 ≤ cap0 ∧ cap0 ≤ maxLen ∧ z0.length = cap0 ∧ (∀ i,i < z0.length → w.cell? (x.add i) = some (.int .u8 (z0.getD i 0))) ∧ ∀ n ∈ z0,(Lit.int .u8 n).wf = true) (y0 : len0 * 1 ≤ 140737488351232) :
  Calls Try.prog 3 #[.slice a0 len0 cap0] w fun e w' => e = .returned (.bool true) ∧ Below w.heap.size w w':=by
 obtain ⟨l0,rfl,hr0,hm0,hw0,hc0⟩:=ReadsInt.ofRowC w0
 obtain ⟨k,h⟩:=P l0 hm0 y0 hw0
 refine (laws_FnLinkClear.calls k _ _ l0 true _ (Kd.C_of_reads (d:=(0 : Int)) (h1:=fun _ => rfl) hr0) hc0 h).mono ?_
 rintro e w' ⟨rfl,hd⟩
 exact ⟨rfl,hd⟩

end Go.Proofs.Ytdpnloibbimblaa.PAll
