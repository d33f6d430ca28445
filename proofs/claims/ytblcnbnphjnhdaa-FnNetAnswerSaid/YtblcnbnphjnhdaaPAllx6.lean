/- Proved here: contracts of functions of the given program, or lemmas on them, for the laws of this seat. Written by xprint.py, a program of this session, on the ground of the kit's print; parts by hand: wip/x/ext. -/
import Derived.Test.YtblcnbnphjnhdaaPAllx0
import Derived.Test.YtblcnbnphjnhdaaPAllx1
import Derived.Test.YtblcnbnphjnhdaaPAllx2
import Derived.Test.YtblcnbnphjnhdaaPAllx3
import Derived.Test.YtblcnbnphjnhdaaPAllx4
import Derived.Test.YtblcnbnphjnhdaaPAllx5
namespace Go.Proofs.Ytblcnbnphjnhdaa.PAll
open Go.RowKit Go.Proofs.YtblcnbnphjnhdaaW.PrintWords Go.Proofs.YtblcnbnphjnhdaaW.PrintLast Go.Proofs.YtblcnbnphjnhdaaW.PrintMore
attribute [local go_sem] max2_int min2_int max_two min_two max_three min_three max_four min_four   -- for this text's walks alone
set_option linter.unusedVariables false
set_option linter.unusedSimpArgs false
theorem ISt.other {c : NC} (hc : c.ok) {W W1 : World} {v v1 u : Value} {l : List Int} (hu : Kd.R (Kd.int .i64) 3 W c.w0.heap.size (fun k => c.B ≤ k ∧ some k ≠ v.ownBlock) u l) (hg : W.grownBy W1 v.ownBlock) (hat : v1.ownBlock = v.ownBlock ∨ ∃ b, v1.ownBlock = some b ∧ W.heap.size ≤ b) (i : Nat) (z : Value) :
  Kd.R (Kd.int .i64) 3 (W1.setCell ⟨c.g,i,none⟩ z) c.w0.heap.size (fun k => c.B ≤ k ∧ some k ≠ v1.ownBlock) u l:=by
 obtain ⟨b1,b2,b3,b4⟩:=hc.b0
 have h1:=Kd.R_tight2 rfl hu
 have hlt:=Kd.R_lt hu
 have h2:=Kd.R_step (w1:=W1.setCell ⟨c.g,i,none⟩ z) h1 (fun k hk hkl => (Below.heap_setCell W1 ⟨c.g,i,none⟩ z k (show k ≠ c.g from by have:=hk.2.1;omega)).trans (hg.block k hkl hk.2.2))
 refine rm_ h2 (fun k hk => ⟨hk.2.1,fun e => ?_⟩)
 rcases hat with hat|⟨b,hb,hle⟩
 ·rw [hat] at e;exact hk.2.2 e
 ·rw [hb] at e
  injection e with e
  have:=hlt k hk.1.symm
  omega
theorem ISt.took_ {c : NC} (hc : c.ok) {W W1 : World} {st : RN} {tv ov v1 : Value} {l : List Int} (h : ISt c W st tv ov) (hg : W.grownBy W1 tv.ownBlock) (hat : v1.ownBlock = tv.ownBlock ∨ ∃ b, v1.ownBlock = some b ∧ W.heap.size ≤ b)
  (hr : Kd.R (Kd.int .i64) 3 W1 c.w0.heap.size (fun k => c.B ≤ k ∧ some k ≠ ov.ownBlock) v1 l) : ISt c (W1.setCell ⟨c.g,6,none⟩ v1) { st with took:=l } v1 ov ∧ KeptT c W (W1.setCell ⟨c.g,6,none⟩ v1):=by
 obtain ⟨a1,a2,a3,a4,a5,a6,a7⟩:=h.appended hc (v1:=v1) (Or.inl rfl) hg 6
 obtain ⟨b1,b2,b3,b4⟩:=hc.b0
 exact ⟨⟨a1,a2,nb_setl a3 6 v1,a4,Kd.R_step hr (fun k hk _ => Below.heap_setCell W1 ⟨c.g,6,none⟩ v1 k (show k ≠ c.g from by have:=hk.1;omega)),ISt.other hc h.ov hg hat 6 v1,a5,a7⟩,a6⟩
theorem ISt.over_ {c : NC} (hc : c.ok) {W W1 : World} {st : RN} {tv ov v1 : Value} {l : List Int} (h : ISt c W st tv ov) (hg : W.grownBy W1 ov.ownBlock) (hat : v1.ownBlock = ov.ownBlock ∨ ∃ b, v1.ownBlock = some b ∧ W.heap.size ≤ b)
  (hr : Kd.R (Kd.int .i64) 3 W1 c.w0.heap.size (fun k => c.B ≤ k ∧ some k ≠ tv.ownBlock) v1 l) : ISt c (W1.setCell ⟨c.g,7,none⟩ v1) { st with over:=l } tv v1 ∧ KeptT c W (W1.setCell ⟨c.g,7,none⟩ v1):=by
 obtain ⟨a1,a2,a3,a4,a5,a6,a7⟩:=h.appended hc (v1:=v1) (Or.inr rfl) hg 7
 obtain ⟨b1,b2,b3,b4⟩:=hc.b0
 exact ⟨⟨a1,a2,nb_setl a3 7 v1,a4,ISt.other hc h.tk hg hat 7 v1,Kd.R_step hr (fun k hk _ => Below.heap_setCell W1 ⟨c.g,7,none⟩ v1 k (show k ≠ c.g from by have:=hk.1;omega)),a5,a7⟩,a6⟩
theorem ISt.put_ {c : NC} (hc : c.ok) {W W1 : World} {st : RN} {tv ov : Value} {T : TabN} {n : Nat} (h : ISt c W st tv ov) (hg : W.grownBy W1 (some c.gm)) (ht : tabW W1 c.gm n T) : ISt c W1 { st with T:=T,n:=n } tv ov ∧ KeptT c W W1:=by
 obtain ⟨b1,b2,b3,b4⟩:=hc.b0
 have hmg : c.gm ≠ c.g:=tabW_ne h.tab h.bx
 refine ⟨⟨below_grown h.bw hg (fun k hk => by injection hk with hk;omega),Nat.le_trans h.bB hg.size,blk_grown h.bx hg (fun e => by injection e with e;exact hmg e.symm),
  Kd.R_step h.tr (fun k hk hl => hg.block k hl (fun e => by injection e with e;exact hk.2.2 e)),Kd.R_step h.tk (fun k hk hl => hg.block k hl (fun e => by injection e with e;have:=hk.1;omega)),
  Kd.R_step h.ov (fun k hk hl => hg.block k hl (fun e => by injection e with e;have:=hk.1;omega)),ht,fun k hk h1 h2 => (hg.block k (Nat.lt_of_lt_of_le hk h.bB) (fun e => by injection e with e;exact h2 e)).trans (h.keep k hk h1 h2)⟩,hg.size,fun k cs t hk htt hkg => blk_grown hk hg (fun e => ?_)⟩
 injection e with e
 exact tabW_ne h.tab hk e.symm
set_option maxHeartbeats 4000000 in
set_option maxRecDepth 100000 in
theorem x_take {c : NC} (hc : c.ok) (fr rc po s : Int) {st : RN} {tv ov : Value} {W : World} (h : ISt c W st tv ov) (hl : st.took.length < 2000000000000) :
  Calls Try.prog 72 #[.pointer (some ⟨c.g,0,none⟩),.agg #[.int .i64 fr,.int .i64 rc,.int .i64 po],.int .i64 s] W fun e w' => e = .returned (.tuple #[]) ∧ ∃ tv',ISt c w' { st with took:=takeN fr rc s st.took } tv' ov ∧ KeptT c W w':=by
 have hu:=Try.underlying70
 have hu2:=Try.underlying37
 have hba:=ba_ (Below.refl W.heap.size W) (.cells #[.int .i64 fr,.int .i64 rc,.int .i64 po] 37)
 have hn:=blk_new W (.cells #[.int .i64 fr,.int .i64 rc,.int .i64 po] 37)
 have h2:=h.below hc hba
 have hk2:=KeptT.below (c:=c) hba
 have HT : Aside0 (takeN fr rc s st.took = if s ≠ fr ∧ (rc = s ∨ rc = 15) then st.took ++ [s] else st.took):=⟨rfl⟩
 generalize takeN fr rc s st.took = nt at HT ⊢
 have n0 : (W.alloc (.cells #[.int .i64 fr,.int .i64 rc,.int .i64 po] 37)).cell? ⟨W.heap.size,0,none⟩ = some (.int .i64 fr):=(bc_ hn 0).trans rfl
 have n1 : (W.alloc (.cells #[.int .i64 fr,.int .i64 rc,.int .i64 po] 37)).cell? ⟨W.heap.size,1,none⟩ = some (.int .i64 rc):=(bc_ hn 1).trans rfl
 have k6 : (W.alloc (.cells #[.int .i64 fr,.int .i64 rc,.int .i64 po] 37)).cell? ⟨c.g,6,none⟩ = some tv:=(bc_ h2.bx 6).trans rfl
 have hz : (W.alloc (.cells #[.int .i64 fr,.int .i64 rc,.int .i64 po] 37)).heap.size = W.heap.size + 1:=by simp
 obtain ⟨At,ct,rfl⟩:=Kd.R_slice h2.tk
 have f6:=bf_ h2.bx 6
 have HI:=mk_ h2
 have HK:=mk_ hk2
 clear h2 hk2 hn hba h
 by_cases c1 : s = fr
 ·subst c1
  rw [if_neg (fun h => h.1 rfl)] at HT
  have q1 : (s != s) = false:=by simp
  go_enter Try.func72,Try.ntmps72
  go_wp2_with fail
  (first|go_end0|((try simp only [Exit.inBlock,Exit.then]);refine bodyPost_ret (results_none rfl _ _ _) rfl ?_))
  exact ⟨rfl,_,by rw [HT.out];exact HI.out,HK.out⟩
 ·have q1 : (s != fr) = true:=by simp [c1]
  by_cases c2 : rc = s
  ·subst c2
   rw [if_pos ⟨c1,Or.inl rfl⟩] at HT
   have q2 : (rc == rc) = true:=by simp
   go_enter Try.func72,Try.ntmps72
   go_wp2_with ((with_reducible refine gate_builtin (b:=.append) (xs:=#[.tmp 25,.tmp 27]) rfl ?_);at_builtin;refine Kd.R_append (Kd.int .i64) (w0:=c.w0) c.w0.heap.size rfl (.tmp 25) (.tmp 27) 24 3 (.int .i64 0) 8 rfl Try.underlying24 (by kernel_rfl) rfl (by decide) (by omega) (.slice At st.took.length ct) st.took rc [.int .i64 rc] (fun k => c.B ≤ k ∧ some k ≠ ov.ownBlock) (fun _ => False) rfl ?aX ?aP (fun _ hk => hk.elim) ?aF ?aO ?aB ?aS ?aL ?_;(case aX => rw [hz];rfl);(case aP => exact rfl);(case aB => exact HI.out.bw);(case aF => exact (fun k hk => ⟨Nat.le_trans HI.out.bB hk,fun e => by have:=(HI.out.own_B.2 k e.symm).2;omega⟩));(case aO => exact HI.out.tk);(case aS => exact HI.out.bw.size);(case aL => omega);intro v1 w1 ho1 hb1 hg1 hat1;obtain ⟨A6,c6,rfl⟩:=Kd.R_slice ho1;have HAP:=mk_ (HI.out.took_ hc hg1 hat1 ho1);have hx1:=(HI.out.appended hc (v1:=.slice A6 (st.took ++ [rc]).length c6) (Or.inl rfl) hg1 6).2.2.1;have g6 : w1.cell? ⟨c.g,6,none⟩ = some (.slice At st.took.length ct):=(bc_ hx1 6).trans rfl;have fr6:=bf_ hx1 6;clear ho1 hb1 hg1 hat1 hx1)
   (first|go_end0|((try simp only [Exit.inBlock,Exit.then]);refine bodyPost_ret (results_none rfl _ _ _) rfl ?_))
   have hl4 : (st.took ++ [rc]).length = st.took.length + 1:=by simp
   rw [hl4] at HAP
   exact ⟨rfl,_,by rw [HT.out];exact HAP.out.1,HK.out.trans HAP.out.2⟩
  ·have q2 : (rc == s) = false:=beq_eq_false_iff_ne.mpr c2
   by_cases c3 : rc = 15
   ·subst c3
    rw [if_pos ⟨c1,Or.inr rfl⟩] at HT
    go_enter Try.func72,Try.ntmps72
    go_wp2_with ((with_reducible refine gate_builtin (b:=.append) (xs:=#[.tmp 25,.tmp 27]) rfl ?_);at_builtin;refine Kd.R_append (Kd.int .i64) (w0:=c.w0) c.w0.heap.size rfl (.tmp 25) (.tmp 27) 24 3 (.int .i64 0) 8 rfl Try.underlying24 (by kernel_rfl) rfl (by decide) (by omega) (.slice At st.took.length ct) st.took s [.int .i64 s] (fun k => c.B ≤ k ∧ some k ≠ ov.ownBlock) (fun _ => False) rfl ?aX ?aP (fun _ hk => hk.elim) ?aF ?aO ?aB ?aS ?aL ?_;(case aX => rw [hz];rfl);(case aP => exact rfl);(case aB => exact HI.out.bw);(case aF => exact (fun k hk => ⟨Nat.le_trans HI.out.bB hk,fun e => by have:=(HI.out.own_B.2 k e.symm).2;omega⟩));(case aO => exact HI.out.tk);(case aS => exact HI.out.bw.size);(case aL => omega);intro v1 w1 ho1 hb1 hg1 hat1;obtain ⟨A6,c6,rfl⟩:=Kd.R_slice ho1;have HAP:=mk_ (HI.out.took_ hc hg1 hat1 ho1);have hx1:=(HI.out.appended hc (v1:=.slice A6 (st.took ++ [s]).length c6) (Or.inl rfl) hg1 6).2.2.1;have g6 : w1.cell? ⟨c.g,6,none⟩ = some (.slice At st.took.length ct):=(bc_ hx1 6).trans rfl;have fr6:=bf_ hx1 6;clear ho1 hb1 hg1 hat1 hx1)
    (first|go_end0|((try simp only [Exit.inBlock,Exit.then]);refine bodyPost_ret (results_none rfl _ _ _) rfl ?_))
    have hl4 : (st.took ++ [s]).length = st.took.length + 1:=by simp
    rw [hl4] at HAP
    exact ⟨rfl,_,by rw [HT.out];exact HAP.out.1,HK.out.trans HAP.out.2⟩
   ·have q3 : (rc == 15) = false:=beq_eq_false_iff_ne.mpr c3
    rw [if_neg (fun h => h.2.elim c2 c3)] at HT
    go_enter Try.func72,Try.ntmps72
    go_wp2_with fail
    (first|go_end0|((try simp only [Exit.inBlock,Exit.then]);refine bodyPost_ret (results_none rfl _ _ _) rfl ?_))
    exact ⟨rfl,_,by rw [HT.out];exact HI.out,HK.out⟩
theorem isI_of {x : Int} (h1 : -9223372036854775808 ≤ x) (h2 : x ≤ 9223372036854775807) : IsI x:=by
 unfold IsI
 simp only [Lit.wf,Bool.and_eq_true,decide_eq_true_eq]
 exact ⟨h1,h2⟩
def RunsN (c : NC) (fn : Nat) (args : Array Value) (W : World) (st' : RN) : Prop :=
 Calls Try.prog fn args W fun e w' => e = .returned (.tuple #[]) ∧ ∃ tv' ov',ISt c w' st' tv' ov' ∧ KeptT c W w'
def ComesN (c : NC) (fr rc po : Int) (go : Int → Int → RN → Option RN) : Prop :=
 ∀ (o k : Int) (st st' : RN) (tv ov : Value) (W : World),IsI k → ISt c W st tv ov → go o k st = some st' → RunsN c 36 #[.pointer (some ⟨c.g,0,none⟩),.agg #[.int .i64 fr,.int .i64 rc,.int .i64 po],.int .i64 o,.int .i64 k] W st'
set_option maxHeartbeats 4000000 in
set_option maxRecDepth 100000 in
theorem x_send {c : NC} (hc : c.ok) (fr rc po : Int) {go : Int → Int → RN → Option RN} (hgo : ComesN c fr rc po go) {b : Int} {k : Nat} (hk : k < c.cs.length) {st st' : RN} {tv ov : Value} {W : World} (h : ISt c W st tv ov) (hs : sendN c.cs go b k st = some st') :
  RunsN c 73 #[.pointer (some ⟨c.g,0,none⟩),.agg #[.int .i64 fr,.int .i64 rc,.int .i64 po],.int .i64 b,.int .i64 k] W st':=by
 unfold RunsN
 unfold sendN at hs
 by_cases hlen : st.over.length < 1000000000000
 ·rw [if_pos hlen] at hs
  have hu:=Try.underlying70
  have hu2:=Try.underlying37
  have hu3:=Try.underlying83
  have hu4:=Try.underlying26
  have hba:=ba_ (Below.refl W.heap.size W) (.cells #[.int .i64 fr,.int .i64 rc,.int .i64 po] 37)
  have hn:=blk_new W (.cells #[.int .i64 fr,.int .i64 rc,.int .i64 po] 37)
  have h2:=h.below hc hba
  have hk2:=KeptT.below (c:=c) hba
  have hz : (W.alloc (.cells #[.int .i64 fr,.int .i64 rc,.int .i64 po] 37)).heap.size = W.heap.size + 1:=by simp
  obtain ⟨Av,cv,rfl⟩:=Kd.R_slice h2.ov
  have k7 : (W.alloc (.cells #[.int .i64 fr,.int .i64 rc,.int .i64 po] 37)).cell? ⟨c.g,7,none⟩ = some (.slice Av st.over.length cv):=(bc_ h2.bx 7).trans rfl
  have f7:=bf_ h2.bx 7
  have HGO:=mk_ hgo
  have HI:=mk_ h2
  have HK:=mk_ hk2
  have HN:=mk_ hn
  have HS:=mk_ hs
  have hwi : IsI (k : Int):=isI_of (by omega) (by have:=hc.ln;omega)
  have HWI:=mk_ hwi
  clear h2 hk2 hn hba h hgo hs hwi
  go_enter Try.func73,Try.ntmps73
  go_upto_region 2 with ((with_reducible refine gate_builtin (b:=.append) (xs:=#[.tmp 14,.tmp 16]) rfl ?_);at_builtin;refine Kd.R_append (Kd.int .i64) (w0:=c.w0) c.w0.heap.size rfl (.tmp 14) (.tmp 16) 24 3 (.int .i64 0) 8 rfl Try.underlying24 (by kernel_rfl) rfl (by decide) (by omega) (.slice Av st.over.length cv) st.over (k : Int) [.int .i64 (k : Int)] (fun k => c.B ≤ k ∧ some k ≠ tv.ownBlock) (fun _ => False) rfl ?aX ?aP (fun _ hk => hk.elim) ?aF ?aO ?aB ?aS ?aL ?_;(case aX => rw [hz];rfl);(case aP => exact rfl);(case aB => exact HI.out.bw);(case aF => exact (fun k hk => ⟨Nat.le_trans HI.out.bB hk,fun e => by have:=(HI.out.own_B.1 k e.symm).2;omega⟩));(case aO => exact HI.out.ov);(case aS => exact HI.out.bw.size);(case aL => omega);intro v1 w1 ho1 hb1 hg1 hat1;obtain ⟨A6,c6,rfl⟩:=Kd.R_slice ho1;have HAP:=mk_ (HI.out.over_ hc hg1 hat1 ho1);have hx1:=(HI.out.appended hc (v1:=.slice A6 (st.over ++ [(k : Int)]).length c6) (Or.inr rfl) hg1 7).2.2.1;have g7 : w1.cell? ⟨c.g,7,none⟩ = some (.slice Av st.over.length cv):=(bc_ hx1 7).trans rfl;have fr7:=bf_ hx1 7;clear ho1 hb1 hg1 hat1 hx1)
  have hl4 : (st.over ++ [(k : Int)]).length = st.over.length + 1:=by simp
  rw [hl4] at HAP
  have hko:=HAP.out.2.2 _ _ _ HN.out (by decide) (fun e => by have h1:=blk_lt HN.out;have:=hc.b0.2.2.1;have:=HI.out.bB;have h3:=HI.out.bx;rw [← e] at h3;rw [HN.out] at h3;cases h3)
  have HI2:=mk_ HAP.out.1
  have HK2:=mk_ (HK.out.trans HAP.out.2)
  have HN2:=mk_ hko
  clear HAP g7 fr7 k7 f7 HK HI HN hko hl4 hz
  generalize w1.setCell ⟨c.g,7,none⟩ (.slice A6 (st.over.length + 1) c6) = W2 at HI2 HK2 HN2 ⊢
  have k1 : W2.cell? ⟨c.g,1,none⟩ = some (.slice c.A1 c.cs.length c.c1):=(bc_ HI2.out.bx 1).trans rfl
  have n0 : W2.cell? ⟨W.heap.size,0,none⟩ = some (.int .i64 fr):=(bc_ HN2.out 0).trans rfl
  have n1 : W2.cell? ⟨W.heap.size,1,none⟩ = some (.int .i64 rc):=(bc_ HN2.out 1).trans rfl
  have n2 : W2.cell? ⟨W.heap.size,2,none⟩ = some (.int .i64 po):=(bc_ HN2.out 2).trans rfl
  obtain ⟨ad,ea,hx0,hx1,hx2⟩:=at_T83 (cb_ hc.r1 HI2.out.bw) (k : Int) (by omega) (by omega)
  rw [ea] at k1
  have hck:=hc.l1
  have hot:=fun W => impl_Cable_other.calls (rd_T83 c.cs k).f0 (rd_T83 c.cs k).f1 (rd_T83 c.cs k).f2 b _ _ W (iother_eq _ b)
  rw [Int.toNat_natCast] at hx0 hx1 hx2
  have HO:=mk_ hot
  generalize hoq : othX (rd_T83 c.cs k) b = oq at HS HO
  generalize (rd_T83 c.cs k).f0 = q0 at hx0 HO
  generalize (rd_T83 c.cs k).f1 = q1 at hx1 HO
  generalize (rd_T83 c.cs k).f2 = q2 at hx2 HO
  generalize oq.getD 0 = o1 at HS HO
  generalize oq.isSome = o2 at HO
  clear hot hoq n0 n1 n2
  go_wp2_with fail
  refine (HO.out _).mono ?_
  rintro e w3 ⟨rfl,hb3⟩
  have HI3:=mk_ (HI2.out.below hc hb3)
  have HK3:=mk_ (HK2.out.trans (KeptT.below hb3))
  have HN3:=mk_ (blk_below HN2.out hb3)
  clear hb3 HI2 HK2 HN2 HO k1 hx0 hx1 hx2
  have n0 : w3.cell? ⟨W.heap.size,0,none⟩ = some (.int .i64 fr):=(bc_ HN3.out 0).trans rfl
  have n1 : w3.cell? ⟨W.heap.size,1,none⟩ = some (.int .i64 rc):=(bc_ HN3.out 1).trans rfl
  have n2 : w3.cell? ⟨W.heap.size,2,none⟩ = some (.int .i64 po):=(bc_ HN3.out 2).trans rfl
  go_wp2_with fail
  refine (HGO.out o1 k _ st' _ _ w3 HWI.out HI3.out HS.out).mono ?_
  rintro e w4 ⟨rfl,tv4,ov4,hi4,hk4⟩
  go_wp2_with fail
  (first|go_end0|((try simp only [Exit.inBlock,Exit.then]);refine bodyPost_ret (results_none rfl _ _ _) rfl ?_))
  exact ⟨rfl,tv4,ov4,hi4,HK3.out.trans hk4⟩
 ·rw [if_neg hlen] at hs
  cases hs
theorem comeN_pos {cs : List S83} {tr hs vs : List Int} {v fr rc : Int} {f : Nat} {b by_ : Int} {st st' : RN} (h : comeN cs tr hs vs v fr rc (f + 1) b by_ st = some st') : st.n < 1000000000000 ∧ st.took.length < 1000000000000 ∧ 0 ≤ b ∧ b ≤ 1000:=by
 unfold comeN at h
 by_cases hc : st.n < 1000000000000 ∧ st.took.length < 1000000000000 ∧ 0 ≤ b ∧ b ≤ 1000
 ·exact hc
 ·rw [if_neg hc] at h;cases h
theorem ISt.hop_ne {c : NC} {W : World} {st : RN} {tv ov : Value} (h : ISt c W st tv ov) {k : Nat} {cs : Array Value} (hn : W.heap[k]? = some (.cells cs 37 (0,0))) : k ≠ c.g:=by
 rintro rfl
 have h1:=h.bx
 unfold NC.box at h1
 rw [hn] at h1
 injection h1 with h1
 injection h1 with _ h2 _
 exact absurd h2 (by decide)
set_option maxHeartbeats 16000000 in
set_option maxRecDepth 100000 in
theorem x_come {c : NC} (hc : c.ok) (fr : Nat) (rc po v : Int) (hfr : fr < c.hs.length) (hv : rd c.vs fr = v) (hwv : IsI v) (hwr : IsI rc) : ∀ f : Nat,ComesN c fr rc po (comeN c.cs c.tr c.hs c.vs v fr rc f):=by
  intro f
  induction f with
  | zero => intro o k st st' tv ov W _ _ h;cases h
  | succ f ih =>
    intro b by_ st st' tv ov W hwb h hs
    obtain ⟨hp1,hp2,hp3,hp4⟩:=comeN_pos hs
    have hwbb : IsI b:=isI_of (by omega) (by omega)
    have hwf : IsI (fr : Int):=isI_of (by omega) (by have:=hc.lh;omega)
    unfold comeN at hs
    rw [if_pos ⟨hp1,hp2,hp3,hp4⟩] at hs
    unfold RunsN
    have hu:=Try.underlying70
    have hu2:=Try.underlying37
    have hu3:=Try.underlying83
    have hu4:=Try.underlying26
    have hu5:=Try.underlying105
    have hba:=below_alloc (Below.refl W.heap.size W) (.cells #[.int .i64 fr,.int .i64 rc,.int .i64 po] 37)
    have hn:=blk_new W (.cells #[.int .i64 fr,.int .i64 rc,.int .i64 po] 37)
    have h2:=h.below hc hba
    have hk2:=KeptT.below (c:=c) hba
    have k3 : (W.alloc (.cells #[.int .i64 fr,.int .i64 rc,.int .i64 po] 37)).cell? ⟨c.g,3,none⟩ = some (.slice c.A3 c.vs.length c.c3):=(blk_cell h2.bx 3).trans rfl
    have n0 : (W.alloc (.cells #[.int .i64 fr,.int .i64 rc,.int .i64 po] 37)).cell? ⟨W.heap.size,0,none⟩ = some (.int .i64 fr):=(blk_cell hn 0).trans rfl
    have hl3:=hc.l3
    have hlv:=hc.lv
    have hlt8:=hc.lt
    obtain ⟨ad,ea,hx0⟩:=Kd.at_int (Kd.C_below hc.r3 h2.bw) (fr : Int) (by omega) (by omega)
    rw [Int.toNat_natCast] at hx0
    rw [hv] at hx0
    rw [ea] at k3
    have HI:=Aside0.mk h2
    have HK:=Aside0.mk hk2
    have HN:=Aside0.mk hn
    have HS:=Aside0.mk hs
    have HIH:=Aside0.mk ih
    clear h2 hk2 hn hba h hs ih
    go_enter Try.func36,Try.ntmps36
    go_upto_region 1 with (fail)
    go_quiet (fail)
    go_upto_region 2 with (fail)
    have hdr:=pw_below_drewN (Below.refl (W.alloc (.cells #[.int .i64 fr,.int .i64 rc,.int .i64 po] 37)).heap.size (W.alloc (.cells #[.int .i64 fr,.int .i64 rc,.int .i64 po] 37))) nq
    have HI2:=Aside0.mk (HI.out.below hc hdr)
    have HK2:=Aside0.mk (HK.out.trans (KeptT.below hdr))
    have HN2:=Aside0.mk (blk_below HN.out hdr)
    clear HI HK HN n0 k3 hx0 ea hdr
    generalize (W.alloc (.cells #[.int .i64 fr,.int .i64 rc,.int .i64 po] 37)).drewN nq = W2 at HI2 HK2 HN2 ⊢
    have k5 : W2.cell? ⟨c.g,5,none⟩ = some (.map (some c.gm)):=(blk_cell HI2.out.bx 5).trans rfl
    have n0 : W2.cell? ⟨W.heap.size,0,none⟩ = some (.int .i64 fr):=(blk_cell HN2.out 0).trans rfl
    go_still_tail 10,(by kernel_rfl)
    change wpList _ _ _ _ _ W2.drew
    have hdr:=below_drew (Below.refl W2.heap.size W2)
    have HI3:=Aside0.mk (HI2.out.below hc hdr)
    have HK3:=Aside0.mk (HK2.out.trans (KeptT.below hdr))
    have HN3:=Aside0.mk (blk_below HN2.out hdr)
    clear HI2 HK2 HN2 n0 k5 hdr
    generalize W2.drew = W3 at HI3 HK3 HN3 ⊢
    obtain ⟨W4,hrun,ht4,hg4⟩:=tab_put HI3.out.tab hwbb hwv hwf hwb (by omega)
    unfold keyV at hrun
    obtain ⟨hi4,hk4⟩:=HI3.out.put_ hc hg4 ht4
    have HI4:=Aside0.mk hi4
    have HK4:=Aside0.mk (HK3.out.trans hk4)
    have HN4:=Aside0.mk (hk4.2 _ _ _ HN3.out (by decide) (HI3.out.hop_ne HN3.out))
    clear HI3 HK3 HN3 hi4 hk4 ht4 hg4
    go_upto_region 3 with (fail)
    clear hrun
    have k5 : W4.cell? ⟨c.g,5,none⟩ = some (.map (some c.gm)):=(blk_cell HI4.out.bx 5).trans rfl
    have n1 : W4.cell? ⟨W.heap.size,1,none⟩ = some (.int .i64 rc):=(blk_cell HN4.out 1).trans rfl
    have hrun:=fun n : Nat => tab_look HI4.out.tab hwbb hwv hwr (W4.drewN n) rfl
    unfold keyV at hrun
    generalize hT : putN st.T b v (↑fr) by_ b v rc = Tx at HS hrun
    generalize putN st.T b v (↑fr) by_ = T5 at HS HI4
    have hx : ∀ y,Tx = some y → Tx.getD 0 = y:=fun y hy => by rw [hy];rfl
    generalize Tx.getD 0 = x at hrun hx
    have HX:=Aside0.mk hx
    clear hx
    go_quiet (fail)
    go_upto_region 17 with (fail)
    have hdr:=pw_below_drewN (Below.refl W4.heap.size W4) nq
    have HI5:=Aside0.mk (HI4.out.below hc hdr)
    have HK5:=Aside0.mk (HK4.out.trans (KeptT.below hdr))
    have HN5:=Aside0.mk (blk_below HN4.out hdr)
    clear HI4 HK4 HN4 n1 k5 hdr
    generalize W4.drewN nq = W5 at HI5 HK5 HN5 ⊢
    clear hrun hT
    have n0 : W5.cell? ⟨W.heap.size,0,none⟩ = some (.int .i64 fr):=(blk_cell HN5.out 0).trans rfl
    have n1 : W5.cell? ⟨W.heap.size,1,none⟩ = some (.int .i64 rc):=(blk_cell HN5.out 1).trans rfl
    have n2 : W5.cell? ⟨W.heap.size,2,none⟩ = some (.int .i64 po):=(blk_cell HN5.out 2).trans rfl
    by_cases hfl : rc = 15 ∨ Tx = none
    · have HF : Aside0 ((floodN c.cs (comeN c.cs c.tr c.hs c.vs v (↑fr) rc f) b by_ c.tr { T := T5, took := st.took, over := st.over, n := st.n + 1 }).bind (leaveN c.hs c.vs b v (↑fr) rc) = some st') := ⟨by
        have h1:=HS.out
        rcases hfl with h | h
        · rw [if_pos h] at h1;exact h1
        · rw [h,ite_self] at h1;exact h1⟩
      have hob : Tx.isSome = false ∨ (Tx.isSome = true ∧ rc = 15):=by
        cases e : Tx with
        | none => exact Or.inl rfl
        | some y => exact Or.inr ⟨rfl,hfl.resolve_right (by rw [e];simp)⟩
      clear HX HS hfl
      generalize Tx.isSome = ob at hob ⊢
      have k4 : W5.cell? ⟨c.g,4,none⟩ = some (.slice c.At c.tr.length c.ct):=(blk_cell HI5.out.bx 4).trans rfl
      rcases hob with rfl | ⟨rfl,h15⟩
      all_goals (
        try have q15 : (rc != 15) = false:=by simp [h15]
        try clear h15
        go_wp2_with fail
        clear k4 n0 n1 n2
        go_loopg [54] c.tr.length (fun gg s54 wr => ∃ (kk : Nat) (st2 : RN) (tv ov : Value),kk ≤ c.tr.length ∧ c.tr.length - kk ≤ gg ∧ s54 = .int .i64 (kk : Int) ∧ Aside0 (ISt c wr st2 tv ov) ∧ Aside0 (KeptT c W wr) ∧ Aside0 (wr.heap[W.heap.size]? = some (.cells #[.int .i64 fr,.int .i64 rc,.int .i64 po] 37 (0,0))) ∧
          Aside0 ((floodN c.cs (comeN c.cs c.tr c.hs c.vs v (↑fr) rc f) b by_ (c.tr.drop kk) st2).bind (leaveN c.hs c.vs b v (↑fr) rc) = some st'))
        case atStart => exact ⟨0,_,tv,ov,Nat.zero_le _,Nat.le_refl _,rfl,HI5,HK5,HN5,⟨by rw [List.drop_zero];exact HF.out⟩⟩
        case round =>
          clear HI5 HK5 HN5 HF
          obtain ⟨kk,st2,tv2,ov2,hkk,hgg,rfl,HI,HK,HN,HF⟩:=hrel
          by_cases hlt : kk < c.tr.length
          · obtain ⟨ad2,ea2,hx2⟩:=Kd.at_int (Kd.R_reads' HI.out.tr).2.2 (kk : Int) (by omega) (by omega)
            rw [Int.toNat_natCast,rd_get c.tr kk hlt] at hx2
            obtain ⟨hk0,hk1⟩:=hc.kt _ (List.getElem_mem hlt)
            have HF2 : Aside0 ((floodN c.cs (comeN c.cs c.tr c.hs c.vs v (↑fr) rc f) b by_ (c.tr[kk] :: c.tr.drop (kk + 1)) st2).bind (leaveN c.hs c.vs b v (↑fr) rc) = some st'):=⟨by rw [← HF.out,← List.drop_eq_getElem_cons hlt]⟩
            generalize c.tr[kk] = kz at hx2 hk0 hk1 HF2
            obtain ⟨K,rfl⟩ : ∃ K : Nat,kz = (K : Int):=⟨kz.toNat,by omega⟩
            obtain ⟨ad1,ea1,hy0,hy1,hy2⟩:=at_T83 (Kd.C_below hc.r1 HI.out.bw) (K : Int) (by omega) (by omega)
            have hl1:=hc.l1
            have k1 : wr.cell? ⟨c.g,1,none⟩ = some (.slice c.A1 c.cs.length c.c1):=(blk_cell HI.out.bx 1).trans rfl
            rw [ea1] at k1
            rw [ea2]
            have EA2:=Aside0.mk ea2
            rw [Int.toNat_natCast] at hy0 hy1 hy2
            have hfn : floodN c.cs (comeN c.cs c.tr c.hs c.vs v (↑fr) rc f) b by_ ((K : Int) :: c.tr.drop (kk + 1)) st2 = if (othX (rd_T83 c.cs K) b).isSome = true ∧ (K : Int) ≠ by_ then (sendN c.cs (comeN c.cs c.tr c.hs c.vs v (↑fr) rc f) b K st2).bind (floodN c.cs (comeN c.cs c.tr c.hs c.vs v (↑fr) rc f) b by_ (c.tr.drop (kk + 1))) else floodN c.cs (comeN c.cs c.tr c.hs c.vs v (↑fr) rc f) b by_ (c.tr.drop (kk + 1)) st2:=rfl
            have hf2:=HF2.out
            rw [hfn] at hf2
            have hot:=fun W => impl_Cable_other.calls (rd_T83 c.cs K).f0 (rd_T83 c.cs K).f1 (rd_T83 c.cs K).f2 b _ _ W (iother_eq _ b)
            have HO:=Aside0.mk hot
            have HFF:=Aside0.mk hf2
            clear HF2 hfn hf2 hot HF ea2 ea1
            generalize (othX (rd_T83 c.cs K) b).isSome = o2 at HFF HO
            generalize (othX (rd_T83 c.cs K) b).getD 0 = o1 at HO
            generalize (rd_T83 c.cs K).f0 = z0 at hy0 HO
            generalize (rd_T83 c.cs K).f1 = z1 at hy1 HO
            generalize (rd_T83 c.cs K).f2 = z2 at hy2 HO
            have p1 : ((kk : Int) < (c.tr.length : Int)) = True:=eq_true (by omega)
            have p2 : (kk < c.tr.length) = True:=eq_true hlt
            have hgo : (o2 = true ∧ (K : Int) ≠ by_) ∨ (o2 = false ∨ (K : Int) = by_):=by cases o2 <;> by_cases h : (K : Int) = by_ <;> simp [h]
            rcases hgo with ⟨rfl,hne⟩ | hno
            · have hf3:=HFF.out
              rw [if_pos ⟨rfl,hne⟩] at hf3
              have qk : ((K : Int) != by_) = true:=by simp [hne]
              obtain ⟨st4,hs4,hl4⟩:=Option.bind_eq_some_iff.1 hf3
              obtain ⟨st3,hs3,hl3'⟩:=Option.bind_eq_some_iff.1 hs4
              have HSD:=Aside0.mk (fun W6 (hW : ISt c W6 st2 tv2 ov2) => x_send hc fr rc po HIH.out (by omega) hW hs3)
              have HF3 : Aside0 ((floodN c.cs (comeN c.cs c.tr c.hs c.vs v (↑fr) rc f) b by_ (c.tr.drop (kk + 1)) st3).bind (leaveN c.hs c.vs b v (↑fr) rc) = some st'):=⟨by rw [hl3'];exact hl4⟩
              clear hs3 hs4 hl4 hl3' hf3 hne HFF
              go_wp2_with fail
              refine (HO.out _).mono ?_
              rintro e w3 ⟨rfl,hb3⟩
              have HI3:=Aside0.mk (HI.out.below hc hb3)
              have HK3:=Aside0.mk (HK.out.trans (KeptT.below hb3))
              have HN3:=Aside0.mk (blk_below HN.out hb3)
              clear hb3 HI HK HN HO k1 hx2 hy0 hy1 hy2
              have n0 : w3.cell? ⟨W.heap.size,0,none⟩ = some (.int .i64 fr):=(blk_cell HN3.out 0).trans rfl
              have n1 : w3.cell? ⟨W.heap.size,1,none⟩ = some (.int .i64 rc):=(blk_cell HN3.out 1).trans rfl
              have n2 : w3.cell? ⟨W.heap.size,2,none⟩ = some (.int .i64 po):=(blk_cell HN3.out 2).trans rfl
              go_wp2_with fail
              have hsd:=HSD.out _ HI3.out
              unfold RunsN at hsd
              refine hsd.mono ?_
              rintro e w6 ⟨rfl,tv6,ov6,hi6,hk6⟩
              have HI6:=Aside0.mk hi6
              have HK6:=Aside0.mk (HK3.out.trans hk6)
              have HN6:=Aside0.mk (hk6.2 _ _ _ HN3.out (by decide) (HI3.out.hop_ne HN3.out))
              clear hi6 hk6 n0 n1 n2 hsd HSD HI3 HK3 HN3
              go_wp2_with fail
              rw [← EA2.out]
              go_roundg (c.tr.length - (kk + 1))
              case measure => omega
              case rel => exact ⟨kk + 1,st3,tv6,ov6,by omega,by omega,by go_num,HI6,HK6,HN6,HF3⟩
            · have hf3:=HFF.out
              rw [if_neg (fun h => hno.elim (fun h2 => by rw [h2] at h;cases h.1) (fun h2 => h.2 h2))] at hf3
              have HF3:=Aside0.mk hf3
              clear hf3 HFF
              cases o2
              all_goals (
                try have qk : ((K : Int) != by_) = false:=by simp [hno.resolve_left (fun h => by cases h)]
                clear hno
                go_wp2_with fail
                refine (HO.out _).mono ?_
                rintro e w3 ⟨rfl,hb3⟩
                have HI3:=Aside0.mk (HI.out.below hc hb3)
                have HK3:=Aside0.mk (HK.out.trans (KeptT.below hb3))
                have HN3:=Aside0.mk (blk_below HN.out hb3)
                clear hb3 HI HK HN HO k1 hx2 hy0 hy1 hy2
                go_wp2_with fail
                rw [← EA2.out]
                go_roundg (c.tr.length - (kk + 1))
                case measure => omega
                case rel => exact ⟨kk + 1,st2,tv2,ov2,by omega,by omega,by go_num,HI3,HK3,HN3,HF3⟩)
          · have hkt : kk = c.tr.length:=by omega
            have hf3:=HF.out
            rw [hkt,List.drop_length] at hf3
            have hf4 : leaveN c.hs c.vs b v (↑fr) rc st2 = some st':=hf3
            unfold leaveN at hf4
            by_cases htl : st2.took.length < 1000000000000
            · rw [if_pos htl] at hf4
              have HS':=Aside0.mk (Option.some.inj hf4)
              have k2 : wr.cell? ⟨c.g,2,none⟩ = some (.slice c.A2 c.hs.length c.c2):=(blk_cell HI.out.bx 2).trans rfl
              have p1 : ((kk : Int) < (c.tr.length : Int)) = False:=eq_false (by omega)
              have p2 : (kk < c.tr.length) = False:=eq_false hlt
              clear hf3 hf4 HF hkt
              go_wp2_with fail
              clear k2 p1 p2
              go_loopg [89] c.hs.length (fun gg s89 wr => ∃ (jj : Nat) (l : List Int) (tv : Value),jj ≤ c.hs.length ∧ c.hs.length - jj ≤ gg ∧ s89 = .int .i64 (jj : Int) ∧ l.length ≤ 1000000000000 + jj ∧ Aside0 (ISt c wr { st2 with took:=l } tv ov2) ∧ Aside0 (KeptT c W wr) ∧ Aside0 (wr.heap[W.heap.size]? = some (.cells #[.int .i64 fr,.int .i64 rc,.int .i64 po] 37 (0,0))) ∧
                Aside0 (stN c.hs c.vs b v fr rc (c.hs.length - jj) jj l = stN c.hs c.vs b v fr rc c.hs.length 0 st2.took))
              case atStart => exact ⟨0,st2.took,tv2,Nat.zero_le _,Nat.le_refl _,rfl,by omega,HI,HK,HN,⟨rfl⟩⟩
              case round =>
                clear HI HK HN
                obtain ⟨jj,l,tv3,hjj,hg3,rfl,hll,HI,HK,HN,HL⟩:=hrel
                by_cases hlt2 : jj < c.hs.length
                · obtain ⟨ad2,ea2,hx2⟩:=Kd.at_int (Kd.C_below hc.r2 HI.out.bw) (jj : Int) (by omega) (by omega)
                  obtain ⟨ad3,ea3,hx3⟩:=Kd.at_int (Kd.C_below hc.r3 HI.out.bw) (jj : Int) (by omega) (by omega)
                  rw [Int.toNat_natCast] at hx2 hx3
                  have hl2:=hc.l2
                  have hh15:=hc.lh
                  have k3 : wr.cell? ⟨c.g,3,none⟩ = some (.slice c.A3 c.vs.length c.c3):=(blk_cell HI.out.bx 3).trans rfl
                  rw [ea3] at k3
                  rw [ea2]
                  have EA2:=Aside0.mk ea2
                  obtain ⟨d,hd⟩ : ∃ d,c.hs.length - jj = d + 1:=⟨c.hs.length - jj - 1,by omega⟩
                  have hd2 : c.hs.length - (jj + 1) = d:=by omega
                  have hL:=HL.out
                  rw [hd,stN] at hL
                  have HLL : Aside0 (stN c.hs c.vs b v fr rc (c.hs.length - (jj + 1)) ((jj + 1 : Nat) : Int) (if rd c.hs jj = b ∧ rd c.vs jj = v then takeN fr rc jj l else l) = stN c.hs c.vs b v fr rc c.hs.length 0 st2.took):=⟨by rw [hd2];exact hL⟩
                  have HTK:=Aside0.mk (fun W6 (hW : ISt c W6 { st2 with took:=l } tv3 ov2) => x_take hc fr rc po jj hW (by show l.length < 2000000000000;omega))
                  have hlen : (takeN fr rc jj l).length ≤ l.length + 1:=by unfold takeN;split <;> simp
                  have n0 : wr.cell? ⟨W.heap.size,0,none⟩ = some (.int .i64 fr):=(blk_cell HN.out 0).trans rfl
                  have n1 : wr.cell? ⟨W.heap.size,1,none⟩ = some (.int .i64 rc):=(blk_cell HN.out 1).trans rfl
                  have n2 : wr.cell? ⟨W.heap.size,2,none⟩ = some (.int .i64 po):=(blk_cell HN.out 2).trans rfl
                  clear hL hd hd2 ea2 ea3 HL
                  have p1 : ((jj : Int) < (c.hs.length : Int)) = True:=eq_true (by omega)
                  have p2 : (jj < c.hs.length) = True:=eq_true hlt2
                  generalize rd c.hs jj = hz at hx2 HLL
                  generalize rd c.vs jj = vz at hx3 HLL
                  by_cases ch : hz = b ∧ vz = v
                  · obtain ⟨rfl,rfl⟩:=ch
                    have hll2:=HLL.out
                    rw [if_pos ⟨rfl,rfl⟩] at hll2
                    have HL2:=Aside0.mk hll2
                    clear hll2 HLL
                    go_wp2_with fail
                    refine (HTK.out _ HI.out).mono ?_
                    rintro e w6 ⟨rfl,tv6,hi6,hk6⟩
                    have HI6:=Aside0.mk hi6
                    have HK6:=Aside0.mk (HK.out.trans hk6)
                    have HN6:=Aside0.mk (hk6.2 _ _ _ HN.out (by decide) (HI.out.hop_ne HN.out))
                    clear hi6 hk6 n0 n1 n2 HTK HI HK HN k3 hx2 hx3
                    go_wp2_with fail
                    rw [← EA2.out]
                    go_roundg (c.hs.length - (jj + 1))
                    case measure => omega
                    case rel => exact ⟨jj + 1,takeN fr rc jj l,tv6,by omega,by omega,by go_num,by omega,HI6,HK6,HN6,HL2⟩
                  · have hll2:=HLL.out
                    rw [if_neg ch] at hll2
                    have HL2:=Aside0.mk hll2
                    have hcc : (hz == b) = false ∨ ((hz == b) = true ∧ (vz == v) = false):=by
                      by_cases h1 : hz = b
                      · exact Or.inr ⟨by simp [h1],beq_eq_false_iff_ne.mpr (fun h2 => ch ⟨h1,h2⟩)⟩
                      · exact Or.inl (beq_eq_false_iff_ne.mpr h1)
                    clear hll2 HLL ch HTK n0 n1 n2
                    rcases hcc with q1 | ⟨q1,q2⟩
                    all_goals (
                      go_wp2_with fail
                      rw [← EA2.out]
                      go_roundg (c.hs.length - (jj + 1))
                      case measure => omega
                      case rel => exact ⟨jj + 1,l,tv3,by omega,by omega,by go_num,by omega,HI,HK,HN,HL2⟩)
                · have hjl : jj = c.hs.length:=by omega
                  have hL:=HL.out
                  rw [hjl,Nat.sub_self,stN] at hL
                  have p1 : ((jj : Int) < (c.hs.length : Int)) = False:=eq_false (by omega)
                  have p2 : (jj < c.hs.length) = False:=eq_false hlt2
                  clear HL hjl
                  have HLF:=Aside0.mk hL
                  clear hL
                  go_wp2_with fail
                  (first | go_end0 | ((try simp only [Exit.inBlock,Exit.then]);refine bodyPost_ret (results_none rfl _ _ _) rfl ?_))
                  exact ⟨rfl,tv3,ov2,by rw [← HS'.out,← HLF.out];exact HI.out,HK.out⟩
            · rw [if_neg htl] at hf4
              cases hf4)
    · obtain ⟨h15,hTx⟩ : rc ≠ 15 ∧ Tx ≠ none:=⟨fun h => hfl (Or.inl h),fun h => hfl (Or.inr h)⟩
      obtain ⟨y,rfl⟩:=Option.ne_none_iff_exists'.1 hTx
      obtain rfl:=HX.out y rfl
      have hs:=HS.out
      rw [if_neg h15] at hs
      simp only [] at hs
      have q15 : (rc != 15) = true:=by simp [h15]
      clear HX HS hTx hfl h15
      by_cases c1 : x = -1
      · subst c1
        rw [if_pos rfl] at hs
        have htk:=fun W6 (hW : ISt c W6 { T:=T5,took:=st.took,over:=st.over,n:=st.n + 1 } tv ov) => x_take hc fr rc po rc hW (by show st.took.length < 2000000000000;omega)
        have HTK:=Aside0.mk htk
        have HSS:=Aside0.mk (Option.some.inj hs)
        clear htk hs
        go_wp2_with fail
        refine (HTK.out _ HI5.out).mono ?_
        rintro e w6 ⟨rfl,tv6,hi6,hk6⟩
        have HI6:=Aside0.mk hi6
        have HK6:=Aside0.mk (HK5.out.trans hk6)
        clear hi6 hk6
        go_wp2_with fail
        (first | go_end0 | ((try simp only [Exit.inBlock,Exit.then]);refine bodyPost_ret (results_none rfl _ _ _) rfl ?_))
        exact ⟨rfl,tv6,ov,by rw [← HSS.out];exact HI6.out,HK6.out⟩
      · have q1 : (x == -1) = false:=beq_eq_false_iff_ne.mpr c1
        rw [if_neg c1] at hs
        by_cases c2 : x = by_
        · subst c2
          rw [if_pos rfl] at hs
          have q2 : (x != x) = false:=by simp
          have HSS:=Aside0.mk (Option.some.inj hs)
          clear hs
          go_wp2_with fail
          (first | go_end0 | ((try simp only [Exit.inBlock,Exit.then]);refine bodyPost_ret (results_none rfl _ _ _) rfl ?_))
          exact ⟨rfl,tv,ov,by rw [← HSS.out];exact HI5.out,HK5.out⟩
        · have q2 : (x != by_) = true:=by simp [c2]
          rw [if_neg c2] at hs
          by_cases c3 : 0 ≤ x ∧ x < c.cs.length
          · rw [if_pos c3] at hs
            obtain ⟨c4,c5⟩:=c3
            obtain ⟨k,rfl⟩ : ∃ k : Nat,x = (k : Int):=⟨x.toNat,by omega⟩
            have hsd:=fun W6 (hW : ISt c W6 { T:=T5,took:=st.took,over:=st.over,n:=st.n + 1 } tv ov) => x_send hc fr rc po HIH.out (by omega) hW hs
            unfold RunsN at hsd
            have HSD:=Aside0.mk hsd
            clear hsd hs
            go_wp2_with fail
            refine (HSD.out _ HI5.out).mono ?_
            rintro e w6 ⟨rfl,tv6,ov6,hi6,hk6⟩
            have HI6:=Aside0.mk hi6
            have HK6:=Aside0.mk (HK5.out.trans hk6)
            clear hi6 hk6
            go_wp2_with fail
            (first | go_end0 | ((try simp only [Exit.inBlock,Exit.then]);refine bodyPost_ret (results_none rfl _ _ _) rfl ?_))
            exact ⟨rfl,tv6,ov6,HI6.out,HK6.out⟩
          · rw [if_neg c3] at hs
            cases hs
theorem rdHop_get (l : List S37) (i : Nat) (h : i < l.length) : rd_T37 l (i : Int) = l[i]:=by simp [rd_T37,List.getD_eq_getElem?_getD,h]
theorem any_not_allh {α : Type} (p : α → Bool) (l : List α) : (!l.any fun x => !p x) = l.all p:=by
 induction l with
 | nil => rfl
 | cons x xs ih => simp only [List.any_cons,List.all_cons,Bool.not_or,Bool.not_not,ih]
def encHop (x : S37) : Value:=.agg #[.int .i64 x.f0,.int .i64 x.f1,.int .i64 x.f2]
set_option maxHeartbeats 4000000 in
set_option maxRecDepth 100000 in
theorem x_IndexFunc_hop (p : S37 → Bool) (g : Nat) (lb : Array Value) (eg : ∀ args w, (callFunc g args).run Try.prog w = .ok (.enter g args) w) (A0 : Option Addr) (c0 : Nat) (l0 : List S37) (w : World)
  (hp : PredB Try.prog g lb encHop p w) (hr0 : Kd.C k37 w A0 l0.length l0) :
  Calls Try.prog 95 #[.slice A0 l0.length c0,.func (.func g) #[] lb] w fun e w' => e = .returned (.int .i64 (idxL p l0 0)) ∧ Below w.heap.size w w':=by
 have hlen:=Kd.C_max hr0
 have HR:=mk_ hr0
 have HP:=mk_ hp
 clear hr0 hp
 have hu:=Try.underlying37
 go_enter Try.func95,Try.ntmps95
 go_wp2
 go_loopg [5,8] l0.length (fun gg _ s8 wr => ∃ kk : Nat,kk ≤ l0.length ∧ l0.length - kk ≤ gg ∧ s8 = .int .i64 kk ∧ Aside0 (Below w.heap.size w wr) ∧ Aside0 (idxL p (l0.drop kk) kk = idxL p l0 0))
 case atStart => exact ⟨0,Nat.zero_le _,by omega,rfl,⟨Below.refl _ w⟩,⟨rfl⟩⟩
 case round =>
  obtain ⟨kk,hkk,hg,rfl,BW,HI⟩:=hrel
  by_cases hlt : kk < l0.length
  ·obtain ⟨ad,e,hx0,hx1,hx2⟩:=at_T37 (cb_ HR.out BW.out) (kk : Int) (by omega) (by omega)
   cases e
   rw [Int.toNat_natCast] at hx0 hx1 hx2
   obtain ⟨y,hy⟩ : ∃ y,y = rd_T37 l0 (kk : Int):=⟨_,rfl⟩
   rw [← hy] at hx0 hx1 hx2
   have hcall:=HP.out wr y BW.out
   unfold encHop at hcall
   have HD : Aside0 (idxL p l0 0 = if p y then (kk : Int) else idxL p (l0.drop (kk + 1)) (kk + 1)):=⟨by rw [← HI.out,List.drop_eq_getElem_cons hlt,idxL,hy,rdHop_get l0 kk hlt]⟩
   clear hy
   cases hq : p y with
   | true =>
    rw [hq] at hcall
    have HQ:=mk_ hq
    clear hq
    go_wp2_with (go_at_fn g;refine hcall.mono ?_;rintro e w' ⟨rfl,hb'⟩)
    go_ret
    exact ⟨by rw [HD.out,HQ.out];rfl,st_ BW.out hb'⟩
   | false =>
    rw [hq] at hcall
    have HQ:=mk_ hq
    clear hq
    go_wp2_with (go_at_fn g;refine hcall.mono ?_;rintro e w' ⟨rfl,hb'⟩)
    go_roundg (l0.length - (kk + 1))
    case measure => omega
    case rel => exact ⟨kk + 1,by omega,by omega,by go_num,⟨st_ BW.out hb'⟩,⟨by rw [HD.out,HQ.out];rfl⟩⟩
  ·have e : kk = l0.length:=by omega
   subst e
   go_wp2
   go_ret
   exact ⟨by rw [← HI.out,List.drop_length];rfl,BW.out⟩
set_option maxHeartbeats 4000000 in
set_option maxRecDepth 100000 in
theorem x_ContainsFunc_hop (p : S37 → Bool) (g : Nat) (lb : Array Value) (eg : ∀ args w, (callFunc g args).run Try.prog w = .ok (.enter g args) w) (A0 : Option Addr) (c0 : Nat) (l0 : List S37) (w : World)
  (hp : PredB Try.prog g lb encHop p w) (hr0 : Kd.C k37 w A0 l0.length l0) :
  Calls Try.prog 68 #[.slice A0 l0.length c0,.func (.func g) #[] lb] w fun e w' => e = .returned (.bool (l0.any p)) ∧ Below w.heap.size w w':=by
 have hcall:=x_IndexFunc_hop p g lb eg A0 c0 l0 w hp hr0
 have HA:=mk_ (idxL_any p l0 0)
 obtain ⟨z,hz⟩ : ∃ z,z = idxL p l0 0:=⟨_,rfl⟩
 rw [← hz] at hcall HA
 clear hp hr0 hz
 go_enter Try.func68,Try.ntmps68
 go_wp2_with (go_at_call 95;refine hcall.mono ?_;rintro e w' ⟨rfl,hb'⟩)
 go_ret
 exact ⟨by rw [← HA.out];rfl,hb'⟩
set_option maxHeartbeats 4000000 in
set_option maxRecDepth 100000 in
theorem x_all_hop_1 {p : S37 → Bool} {g : Nat} {lb : Array Value} (eg : ∀ args w, (callFunc g args).run Try.prog w = .ok (.enter g args) w) {b : Nat} {w : World}
  (hp : PredB Try.prog g lb encHop p w) (hb : b < w.heap.size) (hc : w.cell? ⟨b,0,none⟩ = some (.func (.func g) #[] lb)) :
  PredB Try.prog 69 #[.pointer (some ⟨b,0,none⟩)] encHop (fun x => !p x) w:=by
 intro W x hB
 have hu:=Try.underlying37
 have hB2 : Below W.heap.size W (W.alloc (.cells #[.int .i64 x.f0,.int .i64 x.f1,.int .i64 x.f2] 37)):=(Below.refl _ W).alloc (Nat.le_refl _) _
 have hc':=(hB.cell (p:=⟨b,0,none⟩) hb).trans hc
 have hbW : b < W.heap.size:=Nat.lt_of_lt_of_le hb hB.size
 have hcall:=hp _ x (st_ hB hB2)
 have HB2:=mk_ hB2
 clear hp hc hB hb hB2
 unfold encHop at hcall ⊢
 go_enter Try.func69,Try.ntmps69
 go_wp2_with (go_at_fn g;refine hcall.mono ?_;rintro e w' ⟨rfl,hb'⟩)
 go_ret
 exact ⟨rfl,st_ HB2.out hb'⟩
set_option maxHeartbeats 4000000 in
set_option maxRecDepth 100000 in
theorem x_all_hop (p : S37 → Bool) (g : Nat) (lb : Array Value) (eg : ∀ args w, (callFunc g args).run Try.prog w = .ok (.enter g args) w) (A0 : Option Addr) (c0 : Nat) (l0 : List S37) (w : World)
  (hp : PredB Try.prog g lb encHop p w) (hr0 : Kd.C k37 w A0 l0.length l0) :
  Calls Try.prog 32 #[.slice A0 l0.length c0,.func (.func g) #[] lb] w fun e w' => e = .returned (.bool (l0.all p)) ∧ Below w.heap.size w w':=by
 have hmf : ∀ (fn : Fn) (first cap : Array Value) (w : World),(Instr.makeFunc fn first cap).run Try.prog w = .ok (.func fn first cap) w:=fun _ _ _ _ => rfl
 have hb0 : Below w.heap.size w (w.alloc (.cells #[.func (.func g) #[] lb] 65)):=(Below.refl _ w).alloc (Nat.le_refl _) _
 have hcall:=x_ContainsFunc_hop (fun x => !p x) 69 #[.pointer (some ⟨w.heap.size,0,none⟩)] (enters_of Try.func69 (by kernel_rfl) rfl) A0 c0 l0 _ (x_all_hop_1 eg (hp.later hb0) (by simp) (by simp)) (cb_ hr0 hb0)
 have HB0:=mk_ hb0
 clear hp hr0 hb0
 go_enter Try.func32,Try.ntmps32
 go_wp2_with (go_at_call 68;refine hcall.mono ?_;rintro e w' ⟨rfl,hb'⟩)
 go_ret
 exact ⟨by rw [any_not_allh];rfl,st_ HB0.out hb'⟩
def stB (nb : Int) (cs : List S83) (hs vs : List Int) (s : Int) : Bool:=decide (netB nb cs hs vs = true ∧ 0 ≤ s ∧ s < hs.length)
def hopB (nb : Int) (cs : List S83) (hs vs : List Int) (x : S37) : Bool:=stB nb cs hs vs x.f0 && (stB nb cs hs vs x.f1 || x.f1 == 15)
set_option maxHeartbeats 4000000 in
set_option maxRecDepth 100000 in
theorem x_RunNet_1 {nb : Int} {A1 : Option Addr} {c1 : Nat} {cs : List S83} {A2 : Option Addr} {c2 : Nat} {hs : List Int} {A3 : Option Addr} {c3 : Nat} {vs : List Int} {b : Nat} {w : World}
  (hr1 : Kd.C k83 w A1 cs.length cs) (hc1 : cs.length ≤ c1) (hr2 : Kd.C (Kd.int .i64) w A2 hs.length hs) (hc2 : hs.length ≤ c2) (hr3 : Kd.C (Kd.int .i64) w A3 vs.length vs) (hc3 : vs.length ≤ c3)
  (hn : w.heap[b]? = some (.cells #[.int .i64 nb,.slice A1 cs.length c1,.slice A2 hs.length c2,.slice A3 vs.length c3] 26 (0,0))) :
  PredB Try.prog 33 #[.pointer (some ⟨b,0,none⟩)] encHop (hopB nb cs hs vs) w:=by
 intro W x hB
 have hu:=Try.underlying26
 have hu2:=Try.underlying37
 have hnW:=blk_below hn hB
 have HN:=mk_ hnW
 have HST:=mk_ (fun (s : Int) (W2 : World) (h2 : Below W.heap.size W W2) => impl_Net_station.calls nb A1 c1 cs A2 c2 hs A3 c3 vs s _ W2 (cb_ (cb_ hr1 hB) h2) hc1 (cb_ (cb_ hr2 hB) h2) hc2 (cb_ (cb_ hr3 hB) h2) hc3 (istation_eq nb cs hs vs s))
 have HZ : Aside0 (hopB nb cs hs vs x = (stB nb cs hs vs x.f0 && (stB nb cs hs vs x.f1 || x.f1 == 15))):=⟨rfl⟩
 have HZ0 : Aside0 (decide (netB nb cs hs vs = true ∧ 0 ≤ x.f0 ∧ x.f0 < hs.length) = stB nb cs hs vs x.f0):=⟨rfl⟩
 have HZ1 : Aside0 (decide (netB nb cs hs vs = true ∧ 0 ≤ x.f1 ∧ x.f1 < hs.length) = stB nb cs hs vs x.f1):=⟨rfl⟩
 have h0:=HST.out x.f0
 have h1:=HST.out x.f1
 rw [HZ0.out] at h0
 rw [HZ1.out] at h1
 have H0:=mk_ h0
 have H1:=mk_ h1
 clear HST HZ0 HZ1 hr1 hr2 hr3 hc1 hc2 hc3 hn hnW hB h0 h1
 generalize hopB nb cs hs vs x = z at HZ ⊢
 generalize stB nb cs hs vs x.f0 = z0 at HZ H0
 generalize stB nb cs hs vs x.f1 = z1 at HZ H1
 unfold encHop
 have hba:=ba_ (Below.refl W.heap.size W) (.cells #[.int .i64 x.f0,.int .i64 x.f1,.int .i64 x.f2] 37)
 have HBA:=mk_ hba
 have hnx:=blk_new W (.cells #[.int .i64 x.f0,.int .i64 x.f1,.int .i64 x.f2] 37)
 have hn2:=blk_below HN.out hba
 have HX:=mk_ hnx
 have m0 : (W.alloc (.cells #[.int .i64 x.f0,.int .i64 x.f1,.int .i64 x.f2] 37)).cell? ⟨W.heap.size,0,none⟩ = some (.int .i64 x.f0):=(bc_ hnx 0).trans rfl
 have m1 : (W.alloc (.cells #[.int .i64 x.f0,.int .i64 x.f1,.int .i64 x.f2] 37)).cell? ⟨W.heap.size,1,none⟩ = some (.int .i64 x.f1):=(bc_ hnx 1).trans rfl
 have b0 : (W.alloc (.cells #[.int .i64 x.f0,.int .i64 x.f1,.int .i64 x.f2] 37)).cell? ⟨b,0,none⟩ = some (.int .i64 nb):=(bc_ hn2 0).trans rfl
 have b1 : (W.alloc (.cells #[.int .i64 x.f0,.int .i64 x.f1,.int .i64 x.f2] 37)).cell? ⟨b,1,none⟩ = some (.slice A1 cs.length c1):=(bc_ hn2 1).trans rfl
 have b2 : (W.alloc (.cells #[.int .i64 x.f0,.int .i64 x.f1,.int .i64 x.f2] 37)).cell? ⟨b,2,none⟩ = some (.slice A2 hs.length c2):=(bc_ hn2 2).trans rfl
 have b3 : (W.alloc (.cells #[.int .i64 x.f0,.int .i64 x.f1,.int .i64 x.f2] 37)).cell? ⟨b,3,none⟩ = some (.slice A3 vs.length c3):=(bc_ hn2 3).trans rfl
 clear hba hnx hn2
 go_enter Try.func33,Try.ntmps33
 go_wp2_with fail
 refine (H0.out _ HBA.out).mono ?_
 rintro e w1 ⟨rfl,hb1⟩
 have HN1:=mk_ (blk_below (blk_below HN.out HBA.out) hb1)
 have HX1:=mk_ (blk_below HX.out hb1)
 have HB1:=mk_ (st_ HBA.out hb1)
 clear hb1 m0 m1 b0 b1 b2 b3 HX HN HBA H0
 cases z0 with
 | false =>
  go_wp2_with fail
  go_ret
  exact ⟨by rw [HZ.out];rfl,HB1.out⟩
 | true =>
  have m1 : w1.cell? ⟨W.heap.size,1,none⟩ = some (.int .i64 x.f1):=(bc_ HX1.out 1).trans rfl
  have b0 : w1.cell? ⟨b,0,none⟩ = some (.int .i64 nb):=(bc_ HN1.out 0).trans rfl
  have b1 : w1.cell? ⟨b,1,none⟩ = some (.slice A1 cs.length c1):=(bc_ HN1.out 1).trans rfl
  have b2 : w1.cell? ⟨b,2,none⟩ = some (.slice A2 hs.length c2):=(bc_ HN1.out 2).trans rfl
  have b3 : w1.cell? ⟨b,3,none⟩ = some (.slice A3 vs.length c3):=(bc_ HN1.out 3).trans rfl
  go_wp2_with fail
  refine (H1.out _ HB1.out).mono ?_
  rintro e w2 ⟨rfl,hb2⟩
  have HX2:=mk_ (blk_below HX1.out hb2)
  have HB2:=mk_ (st_ HB1.out hb2)
  clear hb2 m1 b0 b1 b2 b3 HX1 HN1 HB1 H1
  have m1 : w2.cell? ⟨W.heap.size,1,none⟩ = some (.int .i64 x.f1):=(bc_ HX2.out 1).trans rfl
  cases z1 with
  | true =>
   go_wp2_with fail
   go_ret
   exact ⟨by rw [HZ.out];rfl,HB2.out⟩
  | false =>
   go_wp2_with fail
   go_ret
   exact ⟨by rw [HZ.out];rfl,HB2.out⟩
def uL (u : Nat → Int) : Nat → Nat → List Int
 | 0,_ => []
 | d + 1,b => if 0 ≤ u b then u b :: uL u d (b + 1) else uL u d (b + 1)
def tB (u : Nat → Int) (i : Int) : Nat → Nat → List Int
 | 0,_ => []
 | d + 1,b => if u b = i then i :: tB u i d (b + 1) else tB u i d (b + 1)
def tI (u : Nat → Int) (N : Nat) : Nat → Nat → List Int
 | 0,_ => []
 | d + 1,i => tB u (i : Int) N 0 ++ tI u N d (i + 1)
def nB (u : Nat → Int) (v : Int) : Nat → Nat → Nat
 | 0,_ => 0
 | d + 1,b => (if u b = v then 1 else 0) + nB u v d (b + 1)
theorem uL_len (u : Nat → Int) (d : Nat) : ∀ b,(uL u d b).length ≤ d:=by
  induction d with
  | zero => exact fun _ => Nat.le_refl _
  | succ d ih => intro b; have := ih (b + 1); rw [uL]; split
                 · rw [List.length_cons];omega
                 · omega
theorem uL_count (u : Nat → Int) (v : Int) (d : Nat) : ∀ b,(uL u d b).count v = if 0 ≤ v then nB u v d b else 0:=by
 induction d with
 | zero => intro b;rw [uL,nB];simp
 | succ d ih =>
  intro b
  rw [uL,nB]
  by_cases c : 0 ≤ u b
  ·rw [if_pos c,List.count_cons,ih]
   by_cases e : u b = v
   ·rw [if_pos (show 0 ≤ v by omega),if_pos (show 0 ≤ v by omega),if_pos e,if_pos (by simp [e])];omega
   ·rw [if_neg (show ¬ (u b == v) = true by simp [e]),if_neg e];split <;> omega
  ·rw [if_neg c,ih]
   by_cases e : 0 ≤ v
   ·rw [if_pos e,if_pos e,if_neg (show ¬ u b = v by omega)];omega
   ·rw [if_neg e,if_neg e]
theorem tB_count (u : Nat → Int) (i v : Int) (d : Nat) : ∀ b,(tB u i d b).count v = if v = i then nB u i d b else 0:=by
 induction d with
 | zero => intro b;rw [tB,nB];simp
 | succ d ih =>
  intro b
  rw [tB,nB]
  by_cases c : u b = i
  ·rw [if_pos c,List.count_cons,ih,if_pos c]
   by_cases e : v = i
   ·rw [if_pos e,if_pos e,if_pos (by simp [e])];omega
   ·rw [if_neg e,if_neg e,if_neg (by simp;exact fun x => e x.symm)]
  ·rw [if_neg c,ih,if_neg c];split <;> omega
theorem tI_count (u : Nat → Int) (N : Nat) (v : Int) (d : Nat) : ∀ i : Nat,(tI u N d i).count v = if (i : Int) ≤ v ∧ v < i + d then nB u v N 0 else 0:=by
 induction d with
 | zero => intro i;rw [tI,if_neg (by omega)];rfl
 | succ d ih =>
  intro i
  rw [tI,List.count_append,tB_count,ih]
  by_cases e : v = (i : Int)
  ·subst e
   rw [if_pos rfl,if_neg (by omega),if_pos (by omega)];omega
  ·rw [if_neg e]
   by_cases c : ((i + 1 : Nat) : Int) ≤ v ∧ v < ((i + 1 : Nat) : Int) + d
   ·rw [if_pos c,if_pos (by omega)];omega
   ·rw [if_neg c,if_neg (by omega)]
theorem nB_none (u : Nat → Int) (v : Int) (d : Nat) : ∀ b,(∀ x,b ≤ x → x < b + d → u x ≠ v) → nB u v d b = 0:=by
 induction d with
 | zero => exact fun _ _ => rfl
 | succ d ih => intro b h;rw [nB,if_neg (h b (by omega) (by omega)),ih (b + 1) (fun x h1 h2 => h x (by omega) (by omega))]
theorem tB_mem (u : Nat → Int) (i : Int) (d : Nat) : ∀ b x,x ∈ tB u i d b → x = i:=by
 induction d with
 | zero => intro b x h;cases h
 | succ d ih =>
  intro b x h
  rw [tB] at h
  split at h
  ·rcases List.mem_cons.1 h with e|h
   ·exact e
   ·exact ih _ _ h
  ·exact ih _ _ h
theorem tI_ge (u : Nat → Int) (N : Nat) (d : Nat) : ∀ i x,x ∈ tI u N d i → (i : Int) ≤ x ∧ x < i + d:=by
 induction d with
 | zero => intro i x h;cases h
 | succ d ih =>
  intro i x h
  rw [tI] at h
  rcases List.mem_append.1 h with h|h
  ·have:=tB_mem u _ N 0 x h;omega
  ·have:=ih (i + 1) x h;omega
theorem tB_sorted (u : Nat → Int) (i : Int) (d : Nat) : ∀ b,(tB u i d b).Pairwise (· ≤ ·):=by
 induction d with
 | zero => exact fun _ => List.Pairwise.nil
 | succ d ih =>
  intro b
  rw [tB]
  split
  ·exact List.Pairwise.cons (fun x hx => by rw [tB_mem u i d _ x hx];exact Int.le_refl _) (ih _)
  ·exact ih _
theorem tI_sorted (u : Nat → Int) (N : Nat) (d : Nat) : ∀ i,(tI u N d i).Pairwise (· ≤ ·):=by
 induction d with
 | zero => exact fun _ => List.Pairwise.nil
 | succ d ih =>
  intro i
  rw [tI,List.pairwise_append]
  refine ⟨tB_sorted u _ N 0,ih _,fun x hx y hy => ?_⟩
  have e1:=tB_mem u _ N 0 x hx
  have e2:=tI_ge u N d (i + 1) y hy
  omega
theorem tree_perm (u : Nat → Int) (N M : Nat) (h : ∀ b,b < N → u b < (M : Int)) : (uL u N 0).Perm (tI u N M 0):=by
 rw [List.perm_iff_count]
 intro v
 rw [uL_count,tI_count]
 by_cases c : 0 ≤ v
 ·rw [if_pos c]
  by_cases e : v < (M : Int)
  ·rw [if_pos (by omega)]
  ·rw [if_neg (by omega),nB_none u v N 0 (fun x _ hx => by have:=h x (by omega);omega)]
 ·rw [if_neg c,if_neg (by omega)]
theorem upS_lt {cs : List S83} {o : List Int} {b : Int} (d : Nat) : ∀ (i : Nat) (best at_ : Int),i + d = cs.length → -1 ≤ best → best < (cs.length : Int) → -1 ≤ (upS cs o b d i best at_).1 ∧ (upS cs o b d i best at_).1 < (cs.length : Int):=by
 induction d with
 | zero => exact fun _ _ _ _ h1 h2 => ⟨h1,h2⟩
 | succ d ih =>
  intro i best at_ h0 h1 h2
  rw [upS]
  split
  ·split
   ·exact ih _ _ _ (by omega) (by omega) (by omega)
   ·exact ih _ _ _ (by omega) h1 h2
  ·exact ih _ _ _ (by omega) h1 h2
theorem upX_lt (cs : List S83) (o : List Int) (b : Int) : -1 ≤ (upX cs o b).1 ∧ (upX cs o b).1 < (cs.length : Int):=upS_lt cs.length 0 (-1) (-1) (by omega) (by omega) (by omega)
def upN (N : Nat) (cs : List S83) (b : Nat) : Int:=(upX cs (costsN N cs) (b : Int)).1
def treeX (n : Int) (cs : List S83) : List Int:=if cabsB n cs = true then tI (upN n.toNat cs) n.toNat cs.length 0 else []
theorem itree_at {N : Nat} {cs : List S83} (hv : cabsB (N : Int) cs = true) (d : Nat) : ∀ (k b : Nat) (acc : List Int), b + d = N → acc = (uL (upN N cs) N 0).take acc.length → acc ++ uL (upN N cs) d b = uL (upN N cs) N 0 → acc.length ≤ 8 → d + 300 < k →
  impl_TreeOf.l0 k cs acc (costsN N cs) (N : Int) (b : Int) = some (tI (upN N cs) N cs.length 0):=by
 obtain ⟨f1,f2,f3,_⟩:=cabsB_facts hv
 have hs:=sound_of hv
 have ho:=costs_ok hv
 induction d with
 | zero =>
  intro k b acc h1 _ h2 h3 hk
  obtain ⟨k,rfl⟩ : ∃ m,k = m + 1:=⟨k - 1,by omega⟩
  rw [uL,List.append_nil] at h2
  have hlen:=uL_len (upN N cs) N 0
  obtain ⟨r,r1,r2,r3⟩:=sort_ok acc (by omega)
  have hp : acc.Perm (tI (upN N cs) N cs.length 0):=by rw [h2];exact tree_perm _ _ _ (fun x _ => (upX_lt cs _ _).2)
  simp only [impl_TreeOf.l0]
  rw [if_neg (by omega),r3 k (by omega),Option.bind_some,sort_uniq r2 (tI_sorted _ _ _ _) (r1.trans hp)]
 | succ d ih =>
  intro k b acc h1 h0 h2 h3 hk
  obtain ⟨k,rfl⟩ : ∃ m,k = m + 1:=⟨k - 1,by omega⟩
  have hb : b < N:=by omega
  have hlen:=uL_len (upN N cs) N 0
  have hu : (upX cs (costsN N cs) (b : Int)).1 = upN N cs b:=rfl
  simp only [impl_TreeOf.l0]
  rw [if_pos (by omega),iup_eq hs (by omega) ho hb k (by omega),Option.bind_some,wrap_succ hb (by omega),hu]
  rw [uL] at h2
  by_cases c : 0 ≤ upN N cs b
  ·rw [if_pos c] at h2
   have h2' : (acc ++ [upN N cs b]) ++ uL (upN N cs) d (b + 1) = uL (upN N cs) N 0:=by rw [List.append_assoc];exact h2
   have hl2 : (acc ++ [upN N cs b]).length ≤ 8:=by
    have:=congrArg List.length h2'
    rw [List.length_append] at this
    omega
   rw [if_pos c,if_pos (by omega)]
   exact ih k (b + 1) _ (by omega) (by rw [← h2',List.take_left]) h2' hl2 (by omega)
  ·rw [if_neg c] at h2
   rw [if_neg c]
   exact ih k (b + 1) acc (by omega) h0 h2 h3 (by omega)
theorem itree_eq (n : Int) (cs : List S83) (k : Nat) (hk : 400 < k) : impl_TreeOf.f k n cs = some (treeX n cs):=by
 have e : impl_CablesValid.f n cs = some (cabsB n cs):=rfl
 unfold impl_TreeOf.f treeX
 rw [e,Option.bind_some]
 cases hv : cabsB n cs with
 | false => rw [if_neg (by decide),if_neg (by decide)]
 | true =>
  obtain ⟨f1,f2,f3,_⟩:=cabsB_facts hv
  obtain ⟨N,hN⟩ : ∃ N : Nat,n = (N : Int):=⟨n.toNat,by omega⟩
  subst hN
  rw [if_pos rfl,if_pos rfl,icosts_eq N cs hv k (by omega),Option.bind_some,Int.toNat_natCast]
  exact itree_at hv N k 0 [] (by omega) rfl rfl (by simp) (by omega)
theorem stree_l1 {N : Nat} {cs : List S83} (hv : cabsB (N : Int) cs = true) (i : Nat) (d : Nat) : ∀ (k b : Nat) (acc : List Int), b + d = N → acc.length + d ≤ 1000 → d + 100 < k →
  spec_TreeOf.l1 k (N : Int) cs acc (costsN N cs) (i : Int) (b : Int) = spec_TreeOf.l0 (k - d - 1) (N : Int) cs (acc ++ tB (upN N cs) (i : Int) d b) (costsN N cs) (wrap64 ((i : Int) + 1)):=by
 obtain ⟨f1,f2,f3,_⟩:=cabsB_facts hv
 have hs:=sound_of hv
 have ho:=costs_ok hv
 induction d with
 | zero =>
  intro k b acc h1 h2 hk
  obtain ⟨k,rfl⟩ : ∃ m,k = m + 1:=⟨k - 1,by omega⟩
  simp only [spec_TreeOf.l1]
  rw [if_neg (by omega),tB,List.append_nil]
  rfl
 | succ d ih =>
  intro k b acc h1 h2 hk
  obtain ⟨k,rfl⟩ : ∃ m,k = m + 1:=⟨k - 1,by omega⟩
  have hb : b < N:=by omega
  have hu : (upX cs (costsN N cs) (b : Int)).1 = upN N cs b:=rfl
  simp only [spec_TreeOf.l1]
  rw [if_pos (by omega),sup_eq hs (by omega) ho hb k (by omega),Option.bind_some,wrap_succ hb (by omega),hu,tB,show k + 1 - (d + 1) - 1 = k - d - 1 by omega]
  by_cases c : upN N cs b = (i : Int)
  ·rw [if_pos c,if_pos (by omega),if_pos c,ih k (b + 1) _ (by omega) (by simp;omega) (by omega),List.append_assoc];rfl
  ·rw [if_neg c,if_neg c,ih k (b + 1) acc (by omega) (by omega) (by omega)]
theorem tB_len (u : Nat → Int) (i : Int) (d : Nat) : ∀ b,(tB u i d b).length ≤ d:=by
  induction d with
  | zero => exact fun _ => Nat.le_refl _
  | succ d ih => intro b; have := ih (b + 1); rw [tB]; split
                 · rw [List.length_cons];omega
                 · omega
theorem stree_l0 {N : Nat} {cs : List S83} (hv : cabsB (N : Int) cs = true) (d : Nat) : ∀ (k i : Nat) (acc : List Int), i + d = cs.length → acc.length + d * 8 ≤ 500 → d * 20 + 200 < k →
  spec_TreeOf.l0 k (N : Int) cs acc (costsN N cs) (i : Int) = some (acc ++ tI (upN N cs) N d i):=by
 obtain ⟨f1,f2,f3,_⟩:=cabsB_facts hv
 induction d with
 | zero =>
  intro k i acc h1 h2 hk
  obtain ⟨k,rfl⟩ : ∃ m,k = m + 1:=⟨k - 1,by omega⟩
  simp only [spec_TreeOf.l0]
  rw [if_neg (by omega),tI,List.append_nil]
 | succ d ih =>
  intro k i acc h1 h2 hk
  obtain ⟨k,rfl⟩ : ∃ m,k = m + 1:=⟨k - 1,by omega⟩
  have hl:=tB_len (upN N cs) (i : Int) N 0
  simp only [spec_TreeOf.l0]
  rw [if_pos (by omega)]
  have e:=stree_l1 hv i N k 0 acc (by omega) (by omega) (by omega)
  refine e.trans ?_
  rw [wrap_succ (show i < cs.length by omega) (by omega),ih _ (i + 1) _ (by omega) (by rw [List.length_append];omega) (by omega),tI,List.append_assoc]
theorem stree_eq (n : Int) (cs : List S83) (hl : cs.length ≤ 1048576) (k : Nat) (hk : cs.length + 1000 < k) : spec_TreeOf.f k n cs = some (treeX n cs):=by
 unfold spec_TreeOf.f treeX
 rw [Option.bind_some,scabs_eq n cs (by omega) k (by omega),Option.bind_some]
 cases hv : cabsB n cs with
 | false => rw [if_neg (by decide),if_neg (by decide)]
 | true =>
  obtain ⟨f1,f2,f3,_⟩:=cabsB_facts hv
  obtain ⟨N,hN⟩ : ∃ N : Nat,n = (N : Int):=⟨n.toNat,by omega⟩
  subst hN
  rw [if_pos rfl,if_pos rfl,scosts_eq N cs hv k (by omega),Option.bind_some,Int.toNat_natCast]
  exact stree_l0 hv cs.length k 0 [] (by omega) (by simp;omega) (by omega)
def mateB (n : Int) (cs : List S83) (hs vs : List Int) (s o : Int) : Bool:=decide (o ≠ s) && (decide (rd vs o = rd vs s) && decide (rd (rootsL n.toNat cs) (rd hs o) = rd (rootsL n.toNat cs) (rd hs s)))
def matesX (n : Int) (cs : List S83) (hs vs : List Int) (s : Int) : List Int:=if netB n cs hs vs = true ∧ 0 ≤ s ∧ s < hs.length then filM (mateB n cs hs vs s) hs.length 0 else []
theorem matesX_len (n : Int) (cs : List S83) (hs vs : List Int) (s : Int) : (matesX n cs hs vs s).length ≤ 15:=by
 unfold matesX
 split
 ·rename_i h
  have:=filM_len (mateB n cs hs vs s) hs.length 0
  have:=(netB_facts h.1).2.1
  omega
 ·simp
theorem filM_snoc (p : Int → Bool) (d : Nat) : ∀ i : Int,filM p (d + 1) i = filM p d i ++ (if p (i + (d : Int)) = true then [i + (d : Int)] else []):=by
 induction d with
 | zero =>
  intro i
  simp only [filM,List.nil_append]
  rw [show i + ((0 : Nat) : Int) = i by omega]
 | succ d ih =>
  intro i
  have h:=ih (i + 1)
  rw [show i + 1 + (d : Int) = i + ((d + 1 : Nat) : Int) by omega] at h
  rw [filM,h]
  conv => rhs;rw [filM]
  split
  ·rw [List.cons_append]
  ·rfl
theorem mxInfo : (Try.prog.info? 3).map (fun i => (i.zero,i.size,i.bytes)) = some (some (.int .i64 0),1,8):=by kernel_rfl
theorem mbx4 {W : World} {b t : Nat} {a0 a1 a2 a3 : Value} (h : W.heap[b]? = some (.cells #[a0, a1, a2, a3] t (0, 0))) :
  W.cell? ⟨b,0,none⟩ = some a0 ∧ W.cell? ⟨b,1,none⟩ = some a1 ∧ W.cell? ⟨b,2,none⟩ = some a2 ∧ W.cell? ⟨b,3,none⟩ = some a3 :=
 ⟨(bc_ h 0).trans rfl,(bc_ h 1).trans rfl,(bc_ h 2).trans rfl,(bc_ h 3).trans rfl⟩
theorem treeX_len (n : Int) (cs : List S83) : (treeX n cs).length ≤ 8:=by
 unfold treeX
 split
 ·rename_i hv
  obtain ⟨f1,f2,_,_⟩:=cabsB_facts hv
  have h:=(tree_perm (upN n.toNat cs) n.toNat cs.length (fun x _ => (upX_lt cs _ _).2)).length_eq
  have:=uL_len (upN n.toNat cs) n.toNat 0
  omega
 ·simp
theorem treeX_in {n : Int} {cs : List S83} {k : Int} (h : k ∈ treeX n cs) : 0 ≤ k ∧ k < cs.length:=by
 unfold treeX at h
 split at h
 ·have:=tI_ge _ _ _ _ _ h;omega
 ·cases h
def floodB (n : Int) (cs : List S83) (hs : List Int) (s k : Int) : Bool:=decide (rd (rootsL n.toNat cs) (rd_T83 cs k).f0 = rd (rootsL n.toNat cs) (rd hs s))
def floodX (n : Int) (cs : List S83) (hs vs : List Int) (s : Int) : List Int:=if netB n cs hs vs = true ∧ 0 ≤ s ∧ s < hs.length then (treeX n cs).filter (floodB n cs hs s) else []
theorem results_ct2 {P : Program} {fn : Func} {p q : Tmp} {ty : TypeId} (h : fn.results = #[.cell p ty, .tmp q]) (tmps : Array Value) (w : World) (g : Nat) (t : TypeId) (cs : Array Value) (fr : Nat × Nat) (d : TypeDesc)
  (hp : tmps.getD p undef = .pointer (some ⟨g,0,none⟩)) (hg : w.heap[g]? = some (.cells cs t fr))
  (hu : P.underlying ty = some d) (hd : (match d with|.struct _|.array _ _ => true|_ => false) = true) (hi : (P.info? ty).map (·.size) = some cs.size) :
  (results fn tmps).run P w = .ok (.tuple #[.agg cs,tmps.getD q undef]) w:=by
 have hp' : tmps[p]?.getD undef = .pointer (some ⟨g,0,none⟩):=by simpa using hp
 simp [results,h,hp',asAddr,run_loadVar_row w g t ty cs fr d hg hu hd hi]
def framesN (cs : List S83) (tr hs vs : List Int) : List S37 → TabN → Nat → Option (List (List Int) × List (List Int))
 | [],_,_ => some ([],[])
 | h :: l,T,n => (comeN cs tr hs vs (rd vs h.f0) h.f0 h.f1 20 (rd hs h.f0) (-1) ⟨T,[],[],n⟩).bind fun st => if st.took.length ≤ 10000000000000 ∧ st.over.length ≤ 10000000000000 then (framesN cs tr hs vs l st.T st.n).map fun p => (onceL st.took :: p.1,onceL st.over :: p.2) else none
def runB (nb : Int) (cs : List S83) (hs vs : List Int) (l : List S37) : Bool:=netB nb cs hs vs && (decide (l.length ≤ 60) && l.all (hopB nb cs hs vs))
theorem netB_more {nb : Int} {cs : List S83} {hs vs : List Int} (h : netB nb cs hs vs = true) : cs.length ≤ 20 ∧ hs.length ≤ 15 ∧ vs.length = hs.length ∧ (∀ i : Nat,i < hs.length → 0 ≤ rd hs i ∧ rd hs i < nb) ∧ ∀ i : Nat,i < hs.length → 1 ≤ rd vs i ∧ rd vs i ≤ 9:=by
 obtain ⟨q1,q2,q3,q4⟩:=netB_facts h
 obtain ⟨p1,p2,p3,p4⟩:=cabsB_facts q1
 have hv : ∀ x ∈ vs,1 ≤ x ∧ x ≤ 9:=by
  unfold netB at h
  simp only [Bool.and_eq_true,decide_eq_true_eq,List.all_eq_true] at h
  intro x hx
  have:=h.2.2.2.2 x hx
  unfold vlB at this
  simp only [Bool.and_eq_true,decide_eq_true_eq] at this
  exact this
 exact ⟨p3,q2,q3,fun i hi => by rw [rd_get hs i hi];exact q4 _ (List.getElem_mem hi),fun i hi => by rw [rd_get vs i (by omega)];exact hv _ (List.getElem_mem (by omega))⟩
theorem rt_grown {α : Type} {d : Kd α} {e base : Nat} {ok : Nat → Prop} {W W1 : World} {v : Value} {xs : List α} {row : Option Nat} {t : Nat} (h : d.R e W base ok v xs) (hg : W.grownBy W1 row) (hrow : ∀ k,row = some k → ∃ cells,W.heap[k]? = some (.cells cells t (0,0))) (ht : ∀ q,q ∈ e :: d.E → q ≠ t) : d.R e W1 base ok v xs:=by
 refine rm_ (Kd.R_step (Kd.R_bound h) (fun k hk hl => hg.block k hl (fun e1 => ?_))) (fun k hk => hk.1)
 obtain ⟨_,_,_,q,hq,cs,hcs⟩:=hk
 obtain ⟨cs2,hc2⟩:=hrow k e1.symm
 rw [hc2] at hcs
 injection hcs with hcs
 injection hcs with _ h2 _
 exact ht q hq h2.symm
theorem bt_grown {W W1 : World} {row : Option Nat} {t t2 g : Nat} {cs : Array Value} (h : W.heap[g]? = some (.cells cs t2 (0,0))) (hg : W.grownBy W1 row) (hrow : ∀ k,row = some k → ∃ cells,W.heap[k]? = some (.cells cells t (0,0))) (ht : t2 ≠ t) : W1.heap[g]? = some (.cells cs t2 (0,0)):=by
 refine blk_grown h hg (fun e1 => ?_)
 obtain ⟨cs2,hc2⟩:=hrow g e1.symm
 rw [h] at hc2
 injection hc2 with hc2
 injection hc2 with _ h2 _
 exact ht h2
theorem tt_grown {W W1 : World} {row : Option Nat} {t m n : Nat} {T : TabN} (h : tabW W m n T) (hg : W.grownBy W1 row) (hrow : ∀ k,row = some k → ∃ cells,W.heap[k]? = some (.cells cells t (0,0))) : tabW W1 m n T:=by
 refine tabW_stays h (hg.block _ (tabW_lt h) (fun e1 => ?_))
 obtain ⟨cs2,hc2⟩:=hrow m e1.symm
 exact tabW_ne h hc2 rfl
set_option maxHeartbeats 8000000 in
set_option maxRecDepth 1000000 in
theorem x_RunNet_no (nb : Int) (A1 : Option Addr) (c1 : Nat) (cs : List S83) (A2 : Option Addr) (c2 : Nat) (hs : List Int) (A3 : Option Addr) (c3 : Nat) (vs : List Int) (A4 : Option Addr) (c4 : Nat) (l4 : List S37) (w : World) (hok : runB nb cs hs vs l4 = false)
  (hr1 : Kd.C k83 w A1 cs.length cs) (hc1 : cs.length ≤ c1) (hr2 : Kd.C (Kd.int .i64) w A2 hs.length hs) (hc2 : hs.length ≤ c2) (hr3 : Kd.C (Kd.int .i64) w A3 vs.length vs) (hc3 : vs.length ≤ c3) (hr4 : Kd.C k37 w A4 l4.length l4) (hc4 : l4.length ≤ c4) :
  Calls Try.prog 9 #[.agg #[.int .i64 nb,.slice A1 cs.length c1,.slice A2 hs.length c2,.slice A3 vs.length c3],.slice A4 l4.length c4] w fun e w' =>
   e = .returned (.tuple #[.agg #[.slice none 0 0,.slice none 0 0],.bool false]) ∧ Below w.heap.size w w':=by
 have hu:=Try.underlying32
 have hu2:=Try.underlying26
 have hmf : ∀ (fn : Fn) (first cap : Array Value) (w : World),(Instr.makeFunc fn first cap).run Try.prog w = .ok (.func fn first cap) w:=fun _ _ _ _ => rfl
 have hb0 : Below w.heap.size w ((w.alloc (.cells #[.int .i64 nb,.slice A1 cs.length c1,.slice A2 hs.length c2,.slice A3 vs.length c3] 26)).alloc (.cells #[.slice none 0 0,.slice none 0 0] 32)):=ba_ (ba_ (Below.refl _ w) _) _
 have hn0:=ka_ (blk_new w (.cells #[.int .i64 nb,.slice A1 cs.length c1,.slice A2 hs.length c2,.slice A3 vs.length c3] 26)) (.cells #[.slice none 0 0,.slice none 0 0] 32)
 have hz1 : (w.alloc (.cells #[.int .i64 nb,.slice A1 cs.length c1,.slice A2 hs.length c2,.slice A3 vs.length c3] 26)).heap.size = w.heap.size + 1:=by simp
 have hs0:=blk_new (w.alloc (.cells #[.int .i64 nb,.slice A1 cs.length c1,.slice A2 hs.length c2,.slice A3 vs.length c3] 26)) (.cells #[.slice none 0 0,.slice none 0 0] 32)
 rw [hz1] at hs0
 have hnv:=fun W (hW : Below w.heap.size w W) => impl_NetValid.calls nb A1 c1 cs A2 c2 hs A3 c3 vs (netB nb cs hs vs) W (cb_ hr1 hW) hc1 (cb_ hr2 hW) hc2 (cb_ hr3 hW) hc3 rfl
 have hall:=fun W (hW : Below w.heap.size w W) (hn : W.heap[w.heap.size]? = some (.cells #[.int .i64 nb,.slice A1 cs.length c1,.slice A2 hs.length c2,.slice A3 vs.length c3] 26 (0,0))) => x_all_hop (hopB nb cs hs vs) 33 #[.pointer (some ⟨w.heap.size,0,none⟩)] (enters_of Try.func33 (by kernel_rfl) rfl) A4 c4 l4 W (x_RunNet_1 (cb_ hr1 hW) hc1 (cb_ hr2 hW) hc2 (cb_ hr3 hW) hc3 hn) (cb_ hr4 hW)
 have HB0:=mk_ hb0
 have HN0:=mk_ hn0
 have HS0:=mk_ hs0
 have HNV:=mk_ hnv
 have HALL:=mk_ hall
 have HOK : Aside0 ((netB nb cs hs vs && (decide (l4.length ≤ 60) && l4.all (hopB nb cs hs vs))) = false):=⟨hok⟩
 have hl4:=Kd.C_max hr4
 clear hr1 hr2 hr3 hr4 hc1 hc2 hc3 hc4 hb0 hn0 hs0 hnv hall hok hz1
 generalize netB nb cs hs vs = z1 at HOK HNV
 generalize l4.all (hopB nb cs hs vs) = z3 at HOK HALL
 go_enter Try.func9,Try.ntmps9
 go_upto_region 1 with (fail)
 generalize (w.alloc (.cells #[.int .i64 nb,.slice A1 cs.length c1,.slice A2 hs.length c2,.slice A3 vs.length c3] 26)).alloc (.cells #[.slice none 0 0,.slice none 0 0] 32) = W0 at HB0 HN0 HS0 ⊢
 have n0 : W0.cell? ⟨w.heap.size,0,none⟩ = some (.int .i64 nb):=(bc_ HN0.out 0).trans rfl
 have n1 : W0.cell? ⟨w.heap.size,1,none⟩ = some (.slice A1 cs.length c1):=(bc_ HN0.out 1).trans rfl
 have n2 : W0.cell? ⟨w.heap.size,2,none⟩ = some (.slice A2 hs.length c2):=(bc_ HN0.out 2).trans rfl
 have n3 : W0.cell? ⟨w.heap.size,3,none⟩ = some (.slice A3 vs.length c3):=(bc_ HN0.out 3).trans rfl
 have hnv0:=HNV.out W0 HB0.out
 cases z1 with
 | false =>
  clear HOK HALL
  go_wp2_with fail
  refine hnv0.mono ?_
  rintro e w1 ⟨rfl,hb1⟩
  have HS1:=mk_ (blk_below HS0.out hb1)
  have HB1:=mk_ (st_ HB0.out hb1)
  clear hb1 n0 n1 n2 n3 HN0 hnv0 HNV HS0 HB0
  have e0 : w1.cell? ⟨w.heap.size + 1,0,none⟩ = some (.slice none 0 0):=(bc_ HS1.out 0).trans rfl
  have e1 : w1.cell? ⟨w.heap.size + 1,1,none⟩ = some (.slice none 0 0):=(bc_ HS1.out 1).trans rfl
  have g0:=bf_ HS1.out 0
  have g1:=bf_ HS1.out 1
  go_wp2_with fail
  have HY:=nb_setl (nb_setl HS1.out 0 (.slice none 0 0)) 1 (.slice none 0 0)
  have BWY:=mk_ ((HB1.out.setCell (p:=⟨w.heap.size + 1,0,none⟩) (Nat.le_succ _) (.slice none 0 0)).setCell (p:=⟨w.heap.size + 1,1,none⟩) (Nat.le_succ _) (.slice none 0 0))
  clear e0 e1 g0 g1 HS1 HB1
  generalize (w1.setCell ⟨w.heap.size + 1,0,none⟩ (.slice none 0 0)).setCell ⟨w.heap.size + 1,1,none⟩ (.slice none 0 0) = W10 at HY BWY ⊢
  refine bodyPost_ret (results_ct2 rfl _ _ (w.heap.size + 1) 32 #[.slice none 0 0,.slice none 0 0] (0,0) _ rfl HY hu rfl (by kernel_rfl)) rfl ?_
  exact ⟨rfl,BWY.out⟩
 | true =>
  by_cases h60 : l4.length ≤ 60
  ·obtain rfl : z3 = false:=by have:=HOK.out;rw [decide_eq_true h60] at this;exact this
   have q1 : ((l4.length : Int) > 60) = False:=eq_false (by omega)
   have q2 : ((60 : Int) < (l4.length : Int)) = False:=eq_false (by omega)
   clear HOK
   go_wp2_with (first|(go_at_call 31;refine hnv0.mono ?_;rintro e w1 ⟨rfl,hb1⟩;have HS1:=mk_ (blk_below HS0.out hb1);have HN1:=mk_ (blk_below HN0.out hb1);have HB1:=mk_ (st_ HB0.out hb1);have ha:=HALL.out w1 HB1.out HN1.out;clear hb1 n0 n1 n2 n3)|(go_at_call 32;refine ha.mono ?_;rintro e w2 ⟨rfl,hb2⟩;have HS2:=mk_ (blk_below HS1.out hb2);have HB2:=mk_ (st_ HB1.out hb2);clear hb2;have e0 : w2.cell? ⟨w.heap.size + 1,0,none⟩ = some (.slice none 0 0):=(bc_ HS2.out 0).trans rfl;have e1 : w2.cell? ⟨w.heap.size + 1,1,none⟩ = some (.slice none 0 0):=(bc_ HS2.out 1).trans rfl;have g0:=bf_ HS2.out 0;have g1:=bf_ HS2.out 1))
   have HY:=nb_setl (nb_setl HS2.out 0 (.slice none 0 0)) 1 (.slice none 0 0)
   have BWY:=mk_ ((HB2.out.setCell (p:=⟨w.heap.size + 1,0,none⟩) (Nat.le_succ _) (.slice none 0 0)).setCell (p:=⟨w.heap.size + 1,1,none⟩) (Nat.le_succ _) (.slice none 0 0))
   clear e0 e1 g0 g1 HS2 HB2
   generalize (w2.setCell ⟨w.heap.size + 1,0,none⟩ (.slice none 0 0)).setCell ⟨w.heap.size + 1,1,none⟩ (.slice none 0 0) = W10 at HY BWY ⊢
   refine bodyPost_ret (results_ct2 rfl _ _ (w.heap.size + 1) 32 #[.slice none 0 0,.slice none 0 0] (0,0) _ rfl HY hu rfl (by kernel_rfl)) rfl ?_
   exact ⟨rfl,BWY.out⟩
  ·have q1 : ((l4.length : Int) > 60) = True:=eq_true (by omega)
   have q2 : ((60 : Int) < (l4.length : Int)) = True:=eq_true (by omega)
   clear HOK HALL
   go_wp2_with fail
   refine hnv0.mono ?_
   rintro e w1 ⟨rfl,hb1⟩
   have HS1:=mk_ (blk_below HS0.out hb1)
   have HB1:=mk_ (st_ HB0.out hb1)
   clear hb1 n0 n1 n2 n3 HN0 hnv0 HNV HS0 HB0
   have e0 : w1.cell? ⟨w.heap.size + 1,0,none⟩ = some (.slice none 0 0):=(bc_ HS1.out 0).trans rfl
   have e1 : w1.cell? ⟨w.heap.size + 1,1,none⟩ = some (.slice none 0 0):=(bc_ HS1.out 1).trans rfl
   have g0:=bf_ HS1.out 0
   have g1:=bf_ HS1.out 1
   go_wp2_with fail
   have HY:=nb_setl (nb_setl HS1.out 0 (.slice none 0 0)) 1 (.slice none 0 0)
   have BWY:=mk_ ((HB1.out.setCell (p:=⟨w.heap.size + 1,0,none⟩) (Nat.le_succ _) (.slice none 0 0)).setCell (p:=⟨w.heap.size + 1,1,none⟩) (Nat.le_succ _) (.slice none 0 0))
   clear e0 e1 g0 g1 HS1 HB1
   generalize (w1.setCell ⟨w.heap.size + 1,0,none⟩ (.slice none 0 0)).setCell ⟨w.heap.size + 1,1,none⟩ (.slice none 0 0) = W10 at HY BWY ⊢
   refine bodyPost_ret (results_ct2 rfl _ _ (w.heap.size + 1) 32 #[.slice none 0 0,.slice none 0 0] (0,0) _ rfl HY hu rfl (by kernel_rfl)) rfl ?_
   exact ⟨rfl,BWY.out⟩
set_option maxHeartbeats 16000000 in
set_option maxRecDepth 1000000 in
theorem x_RunNet (nb : Int) (A1 : Option Addr) (c1 : Nat) (cs : List S83) (A2 : Option Addr) (c2 : Nat) (hs : List Int) (A3 : Option Addr) (c3 : Nat) (vs : List Int) (A4 : Option Addr) (c4 : Nat) (l4 : List S37) (w : World) (hok : runB nb cs hs vs l4 = true) (fin : List (List Int) × List (List Int)) (hfin : framesN cs (treeX nb cs) hs vs l4 (fun _ _ _ => none) 0 = some fin)
  (hr1 : Kd.C k83 w A1 cs.length cs) (hc1 : cs.length ≤ c1) (hr2 : Kd.C (Kd.int .i64) w A2 hs.length hs) (hc2 : hs.length ≤ c2) (hr3 : Kd.C (Kd.int .i64) w A3 vs.length vs) (hc3 : vs.length ≤ c3) (hr4 : Kd.C k37 w A4 l4.length l4) (hc4 : l4.length ≤ c4) :
  Calls Try.prog 9 #[.agg #[.int .i64 nb,.slice A1 cs.length c1,.slice A2 hs.length c2,.slice A3 vs.length c3],.slice A4 l4.length c4] w fun e w' =>
   ∃ (v1 v2 : Value) (P Q : Nat → Prop),e = .returned (.tuple #[.agg #[v1,v2],.bool true]) ∧ (∀ k,P k → ¬ Q k) ∧ Kd.S (Kd.slice 3 (Kd.int .i64)) 24 w' w.heap.size P v1 fin.1 ∧ Kd.S (Kd.slice 3 (Kd.int .i64)) 24 w' w.heap.size Q v2 fin.2 ∧ Below w.heap.size w w':=by
 have hu:=Try.underlying32
 have hu2:=Try.underlying26
 have hmm : ∀ (t : TypeId) (w : World),(Instr.makeMap t none).run Try.prog w = .ok (.map (some w.heap.size)) (w.alloc (.map #[] 0)):=fun _ _ => rfl
 have hmf : ∀ (fn : Fn) (first cap : Array Value) (w : World),(Instr.makeFunc fn first cap).run Try.prog w = .ok (.func fn first cap) w:=fun _ _ _ _ => rfl
 have hb0 : Below w.heap.size w ((w.alloc (.cells #[.int .i64 nb,.slice A1 cs.length c1,.slice A2 hs.length c2,.slice A3 vs.length c3] 26)).alloc (.cells #[.slice none 0 0,.slice none 0 0] 32)):=ba_ (ba_ (Below.refl _ w) _) _
 have hn0:=ka_ (blk_new w (.cells #[.int .i64 nb,.slice A1 cs.length c1,.slice A2 hs.length c2,.slice A3 vs.length c3] 26)) (.cells #[.slice none 0 0,.slice none 0 0] 32)
 have hz1 : (w.alloc (.cells #[.int .i64 nb,.slice A1 cs.length c1,.slice A2 hs.length c2,.slice A3 vs.length c3] 26)).heap.size = w.heap.size + 1:=by simp
 have hs0:=blk_new (w.alloc (.cells #[.int .i64 nb,.slice A1 cs.length c1,.slice A2 hs.length c2,.slice A3 vs.length c3] 26)) (.cells #[.slice none 0 0,.slice none 0 0] 32)
 rw [hz1] at hs0
 have hnv:=fun W (hW : Below w.heap.size w W) => impl_NetValid.calls nb A1 c1 cs A2 c2 hs A3 c3 vs (netB nb cs hs vs) W (cb_ hr1 hW) hc1 (cb_ hr2 hW) hc2 (cb_ hr3 hW) hc3 rfl
 have hall:=fun W (hW : Below w.heap.size w W) (hn : W.heap[w.heap.size]? = some (.cells #[.int .i64 nb,.slice A1 cs.length c1,.slice A2 hs.length c2,.slice A3 vs.length c3] 26 (0,0))) => x_all_hop (hopB nb cs hs vs) 33 #[.pointer (some ⟨w.heap.size,0,none⟩)] (enters_of Try.func33 (by kernel_rfl) rfl) A4 c4 l4 W (x_RunNet_1 (cb_ hr1 hW) hc1 (cb_ hr2 hW) hc2 (cb_ hr3 hW) hc3 hn) (cb_ hr4 hW)
 have HB0:=mk_ hb0
 have HN0:=mk_ hn0
 have HS0:=mk_ hs0
 have HNV:=mk_ hnv
 have HALL:=mk_ hall
 have HOK : Aside0 ((netB nb cs hs vs && (decide (l4.length ≤ 60) && l4.all (hopB nb cs hs vs))) = true):=⟨hok⟩
 have hl4:=Kd.C_max hr4
 have HR1:=mk_ hr1
 have HR2:=mk_ hr2
 have HR3:=mk_ hr3
 have HR4:=mk_ hr4
 have HC1:=mk_ hc1
 have HC2:=mk_ hc2
 have HC3:=mk_ hc3
 have HC4:=mk_ hc4
 have HOK0:=mk_ hok
 have HFIN:=mk_ hfin
 clear hr1 hr2 hr3 hr4 hc1 hc2 hc3 hc4 hb0 hn0 hs0 hnv hall hok hz1 hfin
 generalize netB nb cs hs vs = z1 at HOK HNV
 generalize l4.all (hopB nb cs hs vs) = z3 at HOK HALL
 go_enter Try.func9,Try.ntmps9
 go_upto_region 1 with (fail)
 generalize (w.alloc (.cells #[.int .i64 nb,.slice A1 cs.length c1,.slice A2 hs.length c2,.slice A3 vs.length c3] 26)).alloc (.cells #[.slice none 0 0,.slice none 0 0] 32) = W0 at HB0 HN0 HS0 ⊢
 have n0 : W0.cell? ⟨w.heap.size,0,none⟩ = some (.int .i64 nb):=(bc_ HN0.out 0).trans rfl
 have n1 : W0.cell? ⟨w.heap.size,1,none⟩ = some (.slice A1 cs.length c1):=(bc_ HN0.out 1).trans rfl
 have n2 : W0.cell? ⟨w.heap.size,2,none⟩ = some (.slice A2 hs.length c2):=(bc_ HN0.out 2).trans rfl
 have n3 : W0.cell? ⟨w.heap.size,3,none⟩ = some (.slice A3 vs.length c3):=(bc_ HN0.out 3).trans rfl
 have hnv0:=HNV.out W0 HB0.out
 obtain ⟨rfl,h60,rfl⟩ : z1 = true ∧ l4.length ≤ 60 ∧ z3 = true:=by
  have:=HOK.out
  simp only [Bool.and_eq_true,decide_eq_true_eq] at this
  exact ⟨this.1,this.2.1,this.2.2⟩
 have q1 : ((l4.length : Int) > 60) = False:=eq_false (by omega)
 have q2 : ((60 : Int) < (l4.length : Int)) = False:=eq_false (by omega)
 clear HOK
 go_upto_region 3 with (first|(go_at_call 31;refine hnv0.mono ?_;rintro e w1 ⟨rfl,hb1⟩;have HS1:=mk_ (blk_below HS0.out hb1);have HN1:=mk_ (blk_below HN0.out hb1);have HB1:=mk_ (st_ HB0.out hb1);have ha:=HALL.out w1 HB1.out HN1.out;clear hb1 n0 n1 n2 n3)|(go_at_call 32;refine ha.mono ?_;rintro e w2 ⟨rfl,hb2⟩;have HS2:=mk_ (blk_below HS1.out hb2);have HN2:=mk_ (blk_below HN1.out hb2);have HB2:=mk_ (st_ HB1.out hb2);clear hb2))
 clear HS1 HN1 HB1 HS0 HN0 HB0 ha hnv0 HNV HALL q1 q2
 have htc:=fun W (hW : Below w.heap.size w W) => impl_TreeOf.calls 1000 nb A1 c1 cs (treeX nb cs) W (cb_ HR1.out hW) HC1.out (itree_eq nb cs 1000 (by omega))
 have HTC:=mk_ htc
 clear htc
 go_cut [6] from 25 to 33 (fun s6 wx => ∃ (g gm : Nat) (At : Option Addr) (ct : Nat),s6 = .pointer (some ⟨g,0,none⟩) ∧ Aside0 (wx.heap[g]? = some (.cells #[.int .i64 nb,.slice A1 cs.length c1,.slice A2 hs.length c2,.slice A3 vs.length c3,.slice At (treeX nb cs).length ct,.map (some gm),.slice none 0 0,.slice none 0 0] 70 (0,0))) ∧
  Aside0 (Kd.R (Kd.int .i64) 3 wx w.heap.size (fun k => k ≠ g ∧ k ≠ gm) (.slice At (treeX nb cs).length ct) (treeX nb cs)) ∧ Aside0 (tabW wx gm 0 (fun _ _ _ => none)) ∧ Aside0 (Below w.heap.size w wx) ∧ Aside0 (w2.heap.size ≤ g ∧ w2.heap.size ≤ gm) ∧ Aside0 (Below w2.heap.size w2 wx))
 case first =>
  have n0 : w2.cell? ⟨w.heap.size,0,none⟩ = some (.int .i64 nb):=(bc_ HN2.out 0).trans rfl
  have n1 : w2.cell? ⟨w.heap.size,1,none⟩ = some (.slice A1 cs.length c1):=(bc_ HN2.out 1).trans rfl
  have n2 : w2.cell? ⟨w.heap.size,2,none⟩ = some (.slice A2 hs.length c2):=(bc_ HN2.out 2).trans rfl
  have n3 : w2.cell? ⟨w.heap.size,3,none⟩ = some (.slice A3 vs.length c3):=(bc_ HN2.out 3).trans rfl
  go_region_held3 (fun w' => w'.cell? ⟨w.heap.size,0,none⟩ = some (.int .i64 nb) ∧ w'.cell? ⟨w.heap.size,1,none⟩ = some (.slice A1 cs.length c1) ∧ w'.cell? ⟨w.heap.size,2,none⟩ = some (.slice A2 hs.length c2) ∧ w'.cell? ⟨w.heap.size,3,none⟩ = some (.slice A3 vs.length c3)) (go_keep)
   (first
    | (go_at_call 35;refine (HTC.out w2.drew (below_drew HB2.out)).mono ?_;rintro e w3 ⟨v3,rfl,hr3,hb3⟩;obtain ⟨At,ct,rfl⟩:=Kd.R_slice hr3;have HW3:=mk_ (st_ (below_drew (Below.refl w2.heap.size w2)) hb3);have HR3A:=mk_ (show Kd.R (Kd.int .i64) 3 w3 w2.heap.size (fun _ => True) (.slice At (treeX nb cs).length ct) (treeX nb cs) from hr3);have hn3:=blk_below HN2.out HW3.out;have m0 : w3.cell? ⟨w.heap.size,0,none⟩ = some (.int .i64 nb):=(bc_ hn3 0).trans rfl;have m1 : w3.cell? ⟨w.heap.size,1,none⟩ = some (.slice A1 cs.length c1):=(bc_ hn3 1).trans rfl;have m2 : w3.cell? ⟨w.heap.size,2,none⟩ = some (.slice A2 hs.length c2):=(bc_ hn3 2).trans rfl;have m3 : w3.cell? ⟨w.heap.size,3,none⟩ = some (.slice A3 vs.length c3):=(bc_ hn3 3).trans rfl;have hm3 : 0 < 1:=Nat.one_pos;clear hr3 hb3 hn3)
    | (go_at_call 35;refine (HTC.out (w2.drew.alloc (.map #[] 0)) (ba_ (below_drew HB2.out) _)).mono ?_;rintro e w3 ⟨v3,rfl,hr3,hb3⟩;obtain ⟨At,ct,rfl⟩:=Kd.R_slice hr3;have HW3:=mk_ (st_ (ba_ (below_drew (Below.refl w2.heap.size w2)) (.map #[] 0)) hb3);have HR3A:=mk_ (show Kd.R (Kd.int .i64) 3 w3 (w2.drew.alloc (.map #[] 0)).heap.size (fun _ => True) (.slice At (treeX nb cs).length ct) (treeX nb cs) from hr3);have HM3:=mk_ (tabW_stays (tabW_made w2.drew) (hb3.block _ (by simp)));have hn3:=blk_below HN2.out HW3.out;have m0 : w3.cell? ⟨w.heap.size,0,none⟩ = some (.int .i64 nb):=(bc_ hn3 0).trans rfl;have m1 : w3.cell? ⟨w.heap.size,1,none⟩ = some (.slice A1 cs.length c1):=(bc_ hn3 1).trans rfl;have m2 : w3.cell? ⟨w.heap.size,2,none⟩ = some (.slice A2 hs.length c2):=(bc_ hn3 2).trans rfl;have m3 : w3.cell? ⟨w.heap.size,3,none⟩ = some (.slice A3 vs.length c3):=(bc_ hn3 3).trans rfl;clear hr3 hb3 hn3))
  all_goals (go_wp2_with fail;go_meet)
  ·have hz : (w3.alloc (.map #[] 0)).heap.size = w3.heap.size + 1:=by simp
   have hsz:=HW3.out.size
   have hR:=rm_ (Kd.R_bound (Kd.R_lower HR3A.out HB2.out.size)) (ok':=fun k => k ≠ w3.heap.size + 1 ∧ k ≠ w3.heap.size) (fun k hk => by obtain ⟨_,_,h3,_⟩:=hk;exact ⟨by omega,by omega⟩)
   exact ⟨w3.heap.size + 1,w3.heap.size,At,ct,rfl,⟨blk_new_at _ _ hz⟩,⟨rb_ (rb_ hR (ba_ (Below.refl _ _) _)) (ba_ (Below.refl _ _) _)⟩,⟨tabW_stays (tabW_made w3) ((ba_ (Below.refl _ _) _).block _ (by rw [hz];omega))⟩,⟨ba_ (ba_ (st_ HB2.out HW3.out) _) _⟩,⟨by omega,by omega⟩,⟨ba_ (ba_ HW3.out _) _⟩⟩
  ·have hz : (w2.drew.alloc (.map #[] 0)).heap.size = w2.heap.size + 1:=by simp
   have hsz:=HW3.out.size
   have hM:=HM3.out
   have hlt:=tabW_lt hM
   have hlt2 : w2.heap.size < w3.heap.size:=hlt
   have hr3a:=HR3A.out
   rw [hz] at hr3a
   have hR:=rm_ (Kd.R_bound (base:=w.heap.size) (rm_ (Kd.R_lower (Kd.R_bound hr3a) (Nat.le_trans HB2.out.size (Nat.le_succ _))) (ok':=fun k => w2.heap.size + 1 ≤ k) (fun k hk => hk.2.1))) (ok':=fun k => k ≠ w3.heap.size ∧ k ≠ w2.heap.size) (fun k hk => by obtain ⟨h1,_,h3,_⟩:=hk;exact ⟨by omega,by omega⟩)
   exact ⟨w3.heap.size,w2.heap.size,At,ct,rfl,⟨blk_new _ _⟩,⟨rb_ hR (ba_ (Below.refl _ _) _)⟩,⟨tabW_stays hM ((ba_ (Below.refl _ _) _).block _ hlt)⟩,⟨ba_ (st_ HB2.out HW3.out) _⟩,⟨by omega,by omega⟩,⟨ba_ HW3.out _⟩⟩
 case rest =>
  obtain ⟨g,gm,At,ct,rfl,HG,HT,HM,HB,HGE,HW⟩:=hcut
  have HN:=mk_ (blk_below HN2.out HW.out)
  have HS:=mk_ (blk_below HS2.out HW.out)
  have hsg : w.heap.size + 1 < w2.heap.size:=blk_lt HS2.out
  clear HN2 HS2 HB2 HTC HW
  go_upto_region 5 with (fail)
  have hal:=ba_ (Below.refl wc.heap.size wc) (.cells #[.slice none 0 0,.slice none 0 0] 32)
  have HO:=mk_ (blk_new wc (.cells #[.slice none 0 0,.slice none 0 0] 32))
  have HN1:=mk_ (blk_below HN.out hal)
  have HS1:=mk_ (blk_below HS.out hal)
  have HG1:=mk_ (blk_below HG.out hal)
  have HT1:=mk_ (rb_ HT.out hal)
  have HM1:=mk_ (tabW_stays HM.out (hal.block _ (tabW_lt HM.out)))
  have HB1:=mk_ (st_ HB.out hal)
  have hgo : w.heap.size + 1 < wc.heap.size:=blk_lt HS.out
  clear HN HS HG HT HM HB hal
  generalize wc.alloc (.cells #[.slice none 0 0,.slice none 0 0] 32) = wd at HO HN1 HS1 HG1 HT1 HM1 HB1 ⊢
  generalize wc.heap.size = go at hgo HO ⊢
  go_wp2_with fail
  go_loopg [36] l4.length (fun gg s36 wr => ∃ (kk n : Nat) (T : TabN) (oT oO : List (List Int)) (v1 v2 tv ov : Value) (P Q : Nat → Prop),kk ≤ l4.length ∧ l4.length - kk ≤ gg ∧ s36 = .int .i64 (kk : Int) ∧ oT.length = kk ∧ oO.length = kk ∧
   Aside0 ((framesN cs (treeX nb cs) hs vs (l4.drop kk) T n).map (fun p => (oT ++ p.1,oO ++ p.2)) = some fin) ∧ Aside0 (∀ k,P k → ¬ Q k) ∧ Aside0 (Kd.S (Kd.slice 3 (Kd.int .i64)) 24 wr w.heap.size P v1 oT) ∧ Aside0 (Kd.S (Kd.slice 3 (Kd.int .i64)) 24 wr w.heap.size Q v2 oO) ∧
   Aside0 (wr.heap[go]? = some (.cells #[v1,v2] 32 (0,0))) ∧ Aside0 (wr.heap[w.heap.size]? = some (.cells #[.int .i64 nb,.slice A1 cs.length c1,.slice A2 hs.length c2,.slice A3 vs.length c3] 26 (0,0))) ∧ Aside0 (wr.heap[w.heap.size + 1]? = some (.cells #[.slice none 0 0,.slice none 0 0] 32 (0,0))) ∧
   Aside0 (wr.heap[g]? = some (.cells #[.int .i64 nb,.slice A1 cs.length c1,.slice A2 hs.length c2,.slice A3 vs.length c3,.slice At (treeX nb cs).length ct,.map (some gm),tv,ov] 70 (0,0))) ∧
   Aside0 (Kd.R (Kd.int .i64) 3 wr w.heap.size (fun k => k ≠ g ∧ k ≠ gm) (.slice At (treeX nb cs).length ct) (treeX nb cs)) ∧ Aside0 (tabW wr gm n T) ∧ Aside0 (Below w.heap.size w wr))
  case atStart => exact ⟨0,0,fun _ _ _ => none,[],[],_,_,_,_,fun _ => True,fun _ => False,Nat.zero_le _,Nat.le_refl _,rfl,rfl,rfl,⟨by rw [List.drop_zero,HFIN.out];rfl⟩,⟨fun _ _ h => h⟩,⟨Kd.S_nil _ _ _ _ _⟩,⟨Kd.S_nil _ _ _ _ _⟩,HO,HN1,HS1,HG1,HT1,HM1,HB1⟩
  case round =>
   clear HO HN1 HS1 HG1 HT1 HM1 HB1 HFIN
   obtain ⟨kk,n,T,oT,oO,v1,v2,tv,ov,P,Q,hkk,hgg,rfl,hlT,hlO,HF,HPQ,HR1',HR2',HO,HN,HS,HG,HT,HM,HB⟩:=hrel
   have HLT:=mk_ hlT
   have HLO:=mk_ hlO
   clear hlT hlO
   by_cases hlt : kk < l4.length
   ·obtain ⟨ad,ea,hx0,hx1,hx2⟩:=at_T37 (cb_ HR4.out HB.out) (kk : Int) (by omega) (by omega)
    cases ea
    rw [Int.toNat_natCast] at hx0 hx1 hx2
    have hlc4:=HC4.out
    have hhp : hopB nb cs hs vs l4[kk] = true:=by
     have:=HOK0.out
     unfold runB at this
     simp only [Bool.and_eq_true,List.all_eq_true] at this
     exact this.2.2 _ (List.getElem_mem hlt)
    have HHP:=mk_ hhp
    have hF:=HF.out
    rw [List.drop_eq_getElem_cons hlt] at hF
    rw [rdHop_get l4 kk hlt] at hx0 hx1 hx2
    have HFF:=mk_ hF
    clear hF HF hhp
    have p1 : ((kk : Int) < (l4.length : Int)) = True:=eq_true (by omega)
    have p2 : (kk < l4.length) = True:=eq_true hlt
    generalize l4[kk] = hp at hx0 hx1 hx2 HHP HFF
    go_upto_region 8 with (fail)
    have hal:=ba_ (Below.refl wr.heap.size wr) (.cells #[.int .i64 hp.f0,.int .i64 hp.f1,.int .i64 hp.f2] 37)
    have HH1:=mk_ (blk_new wr (.cells #[.int .i64 hp.f0,.int .i64 hp.f1,.int .i64 hp.f2] 37))
    have HO1:=mk_ (blk_below HO.out hal)
    have HN1:=mk_ (blk_below HN.out hal)
    have HS1:=mk_ (blk_below HS.out hal)
    have HG1:=mk_ (blk_below HG.out hal)
    have HT1:=mk_ (rb_ HT.out hal)
    have HM1:=mk_ (tabW_stays HM.out (hal.block _ (tabW_lt HM.out)))
    have HB1:=mk_ (st_ HB.out hal)
    have HRT:=mk_ (Kd.S_below HR1'.out hal)
    have HRO:=mk_ (Kd.S_below HR2'.out hal)
    clear HO HN HS HG HT HM HB HR1' HR2' hal hx0 hx1 hx2 p1 p2
    generalize wr.alloc (.cells #[.int .i64 hp.f0,.int .i64 hp.f1,.int .i64 hp.f2] 37) = W1 at HH1 HO1 HN1 HS1 HG1 HT1 HM1 HB1 HRT HRO ⊢
    generalize wr.heap.size = gh at HH1 ⊢
    have k6 : W1.cell? ⟨g,6,none⟩ = some tv:=(bc_ HG1.out 6).trans rfl
    have k7 : W1.cell? ⟨g,7,none⟩ = some ov:=(bc_ HG1.out 7).trans rfl
    have f6:=bf_ HG1.out 6
    have f7:=bf_ HG1.out 7
    go_upto_region 9 with (fail)
    have hgw : w.heap.size ≤ g:=by have:=HGE.out;omega
    have hmg : gm ≠ g:=tabW_ne HM1.out HG1.out
    have ne_g : ∀ {k : Nat} {cs : Array Value} {t : TypeId},W1.heap[k]? = some (.cells cs t (0,0)) → t ≠ 70 → k ≠ g:=fun hk ht e => by rw [e,HG1.out] at hk;injection hk with hk;injection hk with _ h2 _;exact ht h2.symm
    have hOg:=ne_g HO1.out (by decide)
    have hNg:=ne_g HN1.out (by decide)
    have hSg:=ne_g HS1.out (by decide)
    have hHg:=ne_g HH1.out (by decide)
    have HO2:=mk_ (nb_seto (nb_seto HO1.out hOg 6 (.slice none 0 0)) hOg 7 (.slice none 0 0))
    have HN2:=mk_ (nb_seto (nb_seto HN1.out hNg 6 (.slice none 0 0)) hNg 7 (.slice none 0 0))
    have HS2:=mk_ (nb_seto (nb_seto HS1.out hSg 6 (.slice none 0 0)) hSg 7 (.slice none 0 0))
    have HH2:=mk_ (nb_seto (nb_seto HH1.out hHg 6 (.slice none 0 0)) hHg 7 (.slice none 0 0))
    have HG2:=mk_ (nb_setl (nb_setl HG1.out 6 (.slice none 0 0)) 7 (.slice none 0 0))
    have HT2:=mk_ (rf_ (p:=⟨g,7,none⟩) (rf_ (p:=⟨g,6,none⟩) HT1.out (fun k hk => hk.1) (.slice none 0 0)) (fun k hk => hk.1) (.slice none 0 0))
    have HM2:=mk_ (tabW_stays HM1.out ((Below.heap_setCell (W1.setCell ⟨g,6,none⟩ (.slice none 0 0)) ⟨g,7,none⟩ (.slice none 0 0) gm hmg).trans (Below.heap_setCell W1 ⟨g,6,none⟩ (.slice none 0 0) gm hmg)))
    have HB2:=mk_ ((HB1.out.setCell (p:=⟨g,6,none⟩) hgw (.slice none 0 0)).setCell (p:=⟨g,7,none⟩) hgw (.slice none 0 0))
    have HRT2:=mk_ (Kd.S_set (Kd.S_set HRT.out HG1.out (by decide) 6 (.slice none 0 0)) (nb_setl HG1.out 6 (.slice none 0 0)) (by decide) 7 (.slice none 0 0))
    have HRO2:=mk_ (Kd.S_set (Kd.S_set HRO.out HG1.out (by decide) 6 (.slice none 0 0)) (nb_setl HG1.out 6 (.slice none 0 0)) (by decide) 7 (.slice none 0 0))
    clear HH1 HO1 HN1 HS1 HG1 HT1 HM1 HB1 HRT HRO k6 k7 f6 f7 ne_g hmg
    generalize (W1.setCell ⟨g,6,none⟩ (.slice none 0 0)).setCell ⟨g,7,none⟩ (.slice none 0 0) = W2 at HO2 HN2 HS2 HH2 HG2 HT2 HM2 HB2 HRT2 HRO2 ⊢
    have hh:=HHP.out
    unfold hopB stB at hh
    simp only [Bool.and_eq_true,Bool.or_eq_true,decide_eq_true_eq,beq_iff_eq] at hh
    obtain ⟨⟨hnv,hf0,hf1⟩,hto⟩:=hh
    obtain ⟨nf1,nf2,nf3,nf4,nf5⟩:=netB_more hnv
    have HNF3:=mk_ nf3
    clear nf3
    have hff:=HFF.out
    rw [framesN] at hff
    have HFF2:=mk_ hff
    have hto2 : 0 ≤ hp.f1 ∧ hp.f1 ≤ 15:=by
     rcases hto with h|h
     ·exact ⟨h.2.1,by omega⟩
     ·omega
    clear hff HFF HHP hto
    generalize hp.f0 = x0 at HFF2 HH2 hf0 hf1 ⊢
    generalize hp.f1 = x1 at HFF2 HH2 hto2 ⊢
    generalize hp.f2 = x2 at HH2 ⊢
    obtain ⟨F,rfl⟩ : ∃ F : Nat,x0 = (F : Int):=⟨x0.toNat,by omega⟩
    obtain ⟨ad2,ea2,hx2⟩:=Kd.at_int (cb_ HR2.out HB2.out) (F : Int) (by omega) (by omega)
    rw [Int.toNat_natCast] at hx2
    have hvF : IsI (rd vs F):=isI_of (by have:=(nf5 F (by omega)).1;omega) (by have:=(nf5 F (by omega)).2;omega)
    have hlc2:=HC2.out
    have m0 : W2.cell? ⟨gh,0,none⟩ = some (.int .i64 F):=(bc_ HH2.out 0).trans rfl
    have m1 : W2.cell? ⟨gh,1,none⟩ = some (.int .i64 x1):=(bc_ HH2.out 1).trans rfl
    have m2 : W2.cell? ⟨gh,2,none⟩ = some (.int .i64 x2):=(bc_ HH2.out 2).trans rfl
    have n2 : W2.cell? ⟨w.heap.size,2,none⟩ = some (.slice A2 hs.length c2):=(bc_ HN2.out 2).trans rfl
    rw [ea2] at n2
    clear ea2
    go_still_tail 8,(by kernel_rfl)
    change wpList _ _ _ _ _ W2.drew
    have hdr:=below_drew (Below.refl W2.heap.size W2)
    have HO3:=mk_ (blk_below HO2.out hdr)
    have HN3:=mk_ (blk_below HN2.out hdr)
    have HS3:=mk_ (blk_below HS2.out hdr)
    have HG3:=mk_ (blk_below HG2.out hdr)
    have HT3:=mk_ (rb_ HT2.out hdr)
    have HM3:=mk_ (tabW_stays HM2.out (hdr.block _ (tabW_lt HM2.out)))
    have HB3:=mk_ (st_ HB2.out hdr)
    have HRT3:=mk_ (Kd.S_below HRT2.out hdr)
    have HRO3:=mk_ (Kd.S_below HRO2.out hdr)
    clear HO2 HN2 HS2 HG2 HT2 HM2 HB2 HRT2 HRO2 HH2 hdr m0 m1 m2 n2 hx2
    generalize W2.drew = W3 at HO3 HN3 HS3 HG3 HT3 HM3 HB3 HRT3 HRO3 ⊢
    obtain ⟨c,hcd⟩ : ∃ c : NC,c = { w0:=w,wB:=W3,nb:=nb,A1:=A1,c1:=c1,cs:=cs,A2:=A2,c2:=c2,hs:=hs,A3:=A3,c3:=c3,vs:=vs,At:=At,ct:=ct,tr:=treeX nb cs,g:=g,gm:=gm,B:=W3.heap.size }:=⟨_,rfl⟩
    have hcok : c.ok:=by
     subst hcd
     exact ⟨HR1.out,HR2.out,HR3.out,HC1.out,HC2.out,HC3.out,nf1,nf2,HNF3.out,treeX_len nb cs,fun k hk => treeX_in hk,⟨hgw,by have:=HGE.out;show w.heap.size ≤ gm;omega,blk_lt HG3.out,tabW_lt HM3.out⟩⟩
    have hist : ISt c W3 ⟨T,[],[],n⟩ (.slice none 0 0) (.slice none 0 0):=by
     subst hcd
     exact ⟨HB3.out,Nat.le_refl _,HG3.out,rm_ (Kd.R_bound HT3.out) (fun k hk => ⟨hk.2.2.1,hk.1.1,hk.1.2⟩),Kd.R_nil _ _ _ _ _,Kd.R_nil _ _ _ _ _,HM3.out,fun _ _ _ _ => rfl⟩
    obtain ⟨q,hq1,hq2⟩:=Option.map_eq_some_iff.1 HFF2.out
    obtain ⟨st,hst,hq3⟩:=Option.bind_eq_some_iff.1 hq1
    by_cases hlen : st.took.length ≤ 10000000000000 ∧ st.over.length ≤ 10000000000000
    rotate_left
    ·rw [if_neg hlen] at hq3
     cases hq3
    rw [if_pos hlen] at hq3
    obtain ⟨hlen1,hlen2⟩:=hlen
    obtain ⟨q2,hq4,hq5⟩:=Option.map_eq_some_iff.1 hq3
    have hcome:=x_come hcok F x1 x2 (rd vs F) (by subst hcd;show F < hs.length;omega) (by subst hcd;rfl) hvF (isI_of (by omega) (by omega)) 20 (rd hs F) (-1) _ st _ _ W3 (isI_of (by omega) (by omega)) hist (by subst hcd;exact hst)
    have hgc : c.g = g:=by rw [hcd]
    unfold RunsN at hcome
    rw [hgc] at hcome
    have HCOME:=mk_ hcome
    have HFN : Aside0 ((framesN cs (treeX nb cs) hs vs (l4.drop (kk + 1)) st.T st.n).map (fun p => ((oT ++ [onceL st.took]) ++ p.1,(oO ++ [onceL st.over]) ++ p.2)) = some fin):=⟨by rw [hq4,← hq2,← hq5];simp⟩
    clear hcome hist hq1 hq2 hst hq3 hq4 hq5 HFF2
    go_wp2_with fail
    refine HCOME.out.mono ?_
    rintro e W5 ⟨rfl,tv5,ov5,hi5,hk5⟩
    have HO5:=mk_ (hk5.2 _ _ _ HO3.out (by decide) (by rw [hgc];exact hOg))
    have HN5:=mk_ (hk5.2 _ _ _ HN3.out (by decide) (by rw [hgc];exact hNg))
    have HS5:=mk_ (hk5.2 _ _ _ HS3.out (by decide) (by rw [hgc];exact hSg))
    have hgB:=hcok.b0
    subst hcd
    have HG5:=mk_ (show W5.heap[g]? = some (.cells #[.int .i64 nb,.slice A1 cs.length c1,.slice A2 hs.length c2,.slice A3 vs.length c3,.slice At (treeX nb cs).length ct,.map (some gm),tv5,ov5] 70 (0,0)) from hi5.bx)
    have HT5:=mk_ (show Kd.R (Kd.int .i64) 3 W5 w.heap.size (fun k => k ≠ g ∧ k ≠ gm) (.slice At (treeX nb cs).length ct) (treeX nb cs) from rm_ hi5.tr (fun k hk => hk.2))
    have HM5:=mk_ (show tabW W5 gm st.n st.T from hi5.tab)
    have HB5:=mk_ (show Below w.heap.size w W5 from hi5.bw)
    have hmv : ∀ (ok : Nat → Prop) (v : Value) (xs : List (List Int)),Kd.S (Kd.slice 3 (Kd.int .i64)) 24 W3 w.heap.size ok v xs → Kd.S (Kd.slice 3 (Kd.int .i64)) 24 W5 w.heap.size (fun k => ok k ∧ k < W5.heap.size) v xs:=fun ok v xs h =>
     Kd.S_mono (Kd.S_move (Kd.S_bound h) (fun k hk => hi5.keep k hk.2.2.1 (by
      obtain ⟨_,_,_,q,hq,cs,hcs⟩:=hk
      show k ≠ g
      rintro rfl
      rw [HG3.out] at hcs
      injection hcs with hcs
      injection hcs with _ h2 _
      exact absurd (h2 ▸ hq) (by decide)) (by
      obtain ⟨_,_,_,q,hq,cs,hcs⟩:=hk
      exact fun e => tabW_ne HM3.out hcs e.symm))) (fun k hk => ⟨hk.1,Nat.lt_of_lt_of_le hk.2.2.1 hk5.1⟩)
    have HRT5:=mk_ (hmv P v1 oT HRT3.out)
    have HRO5:=mk_ (hmv Q v2 oO HRO3.out)
    have HTK5:=mk_ (show Kd.R (Kd.int .i64) 3 W5 w.heap.size (fun _ => True) tv5 st.took from rm_ hi5.tk (fun _ _ => trivial))
    have HOV5:=mk_ (show Kd.R (Kd.int .i64) 3 W5 w.heap.size (fun _ => True) ov5 st.over from rm_ hi5.ov (fun _ _ => trivial))
    clear hmv hi5 hk5 hcok hgB HO3 HN3 HS3 HG3 HT3 HM3 HB3 HRT3 HRO3 HCOME hOg hNg hSg hHg hto2 hf0 hf1 hvF
    generalize st.took = tk at HTK5 HFN hlen1
    generalize st.over = ovl at HOV5 HFN hlen2
    generalize st.n = n' at HM5 HFN
    generalize st.T = T' at HM5 HFN
    obtain ⟨Ar,cr,rfl⟩:=Kd.S_slice HRT5.out
    obtain ⟨Ao,co,rfl⟩:=Kd.S_slice HRO5.out
    obtain ⟨Atk,ctk,rfl⟩:=Kd.R_slice HTK5.out
    obtain ⟨Aov,cov,rfl⟩:=Kd.R_slice HOV5.out
    go_upto_region 10 with (fail)
    have hrd:=rr_ HTK5.out
    have hon:=x_once Atk ctk tk W5.drew (cb_ hrd.2.2 (below_drew (Below.refl _ _))) hrd.2.1 hlen1
    have HON:=mk_ hon
    have kr0 : W5.drew.cell? ⟨go,0,none⟩ = some (.slice Ar oT.length cr):=(bc_ HO5.out 0).trans rfl
    have kt0 : W5.drew.cell? ⟨g,6,none⟩ = some (.slice Atk tk.length ctk):=(bc_ HG5.out 6).trans rfl
    clear hrd hon
    refine start_ (n:=11) (S:=fun w' => w'.cell? ⟨go,0,none⟩ = some (.slice Ar oT.length cr) ∧ w'.cell? ⟨g,6,none⟩ = some (.slice Atk tk.length ctk)) (ds:=[10]) #[false,false,false,false,false,false,false,false,false,false,false] (by kernel_rfl) rfl rfl ⟨kr0,kt0⟩ (fun hHeld => ?_)
    refine pu_ (i:=0) (N:=some 55) 11 1 ?_
    refine pu_ (i:=2) (N:=some 57) 11 5 ?_
    refine pu_ (i:=3) (N:=some 58) 11 13 ?_
    refine pu_ (i:=4) (N:=some 59) 11 29 ?_
    refine ta2_ (i:=1) (N:=some 56) 11 31 hHeld ?_
    refine ta2_ (i:=5) (N:=some 60) 11 63 hHeld ?_
    refine on_ (i:=6) (N:=some 61) 11 127 (fun K hK => ?_)
    refine goes_ Try.func37 (by kernel_rfl) rfl #[.slice Atk tk.length ctk] (by rfl) rfl rfl (by simp only [List.map_toArray,List.map_cons,List.map_nil];rfl) ?_
    with_reducible refine (HON.out).mono ?_
    rintro e w6 ⟨vr,rfl,hr6,hb6⟩
    refine ⟨_,rfl,?_⟩
    obtain ⟨A6,c6,rfl⟩:=Kd.R_slice hr6
    have HD6:=mk_ (st_ (below_drew (Below.refl W5.heap.size W5)) hb6)
    have HR6:=mk_ (show Kd.R (Kd.int .i64) 3 w6 W5.heap.size (fun _ => True) (.slice A6 (onceL tk).length c6) (onceL tk) from hr6)
    clear hr6 hb6
    have kr6 : w6.cell? ⟨go,0,none⟩ = some (.slice Ar oT.length cr):=(bc_ (blk_below HO5.out HD6.out) 0).trans rfl
    have kt6 : w6.cell? ⟨g,6,none⟩ = some (.slice Atk tk.length ctk):=(bc_ (blk_below HG5.out HD6.out) 6).trans rfl
    refine hK.out _ _ ⟨kr6,kt6⟩ (fun hHeld => ?_)
    clear hK K
    refine norm_ (a':=?_) ?_ ?_
    rotate_left
    ·show Act.put _ (some 61) _ = _
     simp only [Act.put,sx_,sy_,sz_,i64_w,i32_w]
     rfl
    refine on_ (i:=7) (N:=some 62) 11 255 (fun K hK => ?_)
    refine value_ (w1:=?_) (v:=?_) (by rfl) rfl ?_ ?_
    rotate_left 2
    ·go_simp
     constructor
     ·rfl
     ·rfl
    have kr7 : (w6.alloc (.cells #[.slice A6 (onceL tk).length c6] 24)).cell? ⟨go,0,none⟩ = some (.slice Ar oT.length cr):=(bc_ (ka_ (blk_below HO5.out HD6.out) _) 0).trans rfl
    have kt7 : (w6.alloc (.cells #[.slice A6 (onceL tk).length c6] 24)).cell? ⟨g,6,none⟩ = some (.slice Atk tk.length ctk):=(bc_ (ka_ (blk_below HG5.out HD6.out) _) 6).trans rfl
    refine hK.out _ _ ⟨kr7,kt7⟩ (fun hHeld => ?_)
    clear hK K
    refine norm_ (a':=?_) ?_ ?_
    rotate_left
    ·show Act.put _ (some 62) _ = _
     simp only [Act.put,sx_,sy_,sz_,i64_w,i32_w]
     rfl
    refine on_ (i:=8) (N:=some 63) 11 511 (fun K hK => ?_)
    refine Kd.S_append_step (Kd.slice 3 (Kd.int .i64)) (w0:=w) w.heap.size (by rfl) (.tmp 56) (.tmp 62) 30 24 (.slice none 0 0) 24 rfl Try.underlying30 (by kernel_rfl) rfl (by decide) (by omega) (.slice Ar oT.length cr) oT (onceL tk) [.slice A6 (onceL tk).length c6] (fun k => (P k ∧ k < W5.heap.size) ∨ W5.heap.size ≤ k) (fun k_ => some k_ = (Value.slice A6 (onceL tk).length c6).ownBlock) (by rfl) (by rfl) ?aP ?aK ?aF ?aO ?aB ?aS ?aL ?_
    case aP => exact Kd.M_row (Kd.R_lower (Kd.R_tight rfl HR6.out) HB5.out.size)
    case aK => exact fun k hk => ⟨Or.inr (Kd.R_base HR6.out k hk.symm),fun he => by have h1:=Kd.R_base HR6.out k hk.symm;have h2:=Kd.S_lt HRT5.out k he.symm;omega⟩
    case aF => exact fun k hk => Or.inr (Nat.le_trans HD6.out.size hk)
    case aO => exact Kd.S_mono (Kd.S_below HRT5.out HD6.out) (fun k hk => ⟨Or.inl hk,fun he => by have h1:=Kd.R_base HR6.out k he.symm;omega⟩)
    case aB => exact st_ HB5.out HD6.out
    case aS => exact Nat.le_trans HB5.out.size HD6.out.size
    case aL => have:=HLT.out;omega
    intro v7 w7 ho7 hb7 hg7 hat7
    obtain ⟨A7,c7,rfl⟩:=Kd.S_slice ho7
    have hty:=Kd.S_typed (Kd.S_below HRT5.out HD6.out)
    have HO7:=mk_ (bt_grown (blk_below HO5.out HD6.out) hg7 hty (by decide))
    have HN7:=mk_ (bt_grown (blk_below HN5.out HD6.out) hg7 hty (by decide))
    have HS7:=mk_ (bt_grown (blk_below HS5.out HD6.out) hg7 hty (by decide))
    have HG7:=mk_ (bt_grown (blk_below HG5.out HD6.out) hg7 hty (by decide))
    have HT7:=mk_ (rt_grown (rb_ HT5.out HD6.out) hg7 hty (by decide))
    have HM7:=mk_ (tt_grown (tabW_stays HM5.out (HD6.out.block _ (tabW_lt HM5.out))) hg7 hty)
    have HB7:=mk_ hb7
    have HV7:=mk_ (rt_grown (rb_ HOV5.out HD6.out) hg7 hty (by decide))
    have HX7:=mk_ (Kd.S_grown (Kd.S_below HRO5.out HD6.out) hg7 (fun k hk e1 => HPQ.out k (by rw [show P k ↔ P k from Iff.rfl];exact (HRT5.out.elim fun f hf => (hf.1 k e1.symm).1)) hk.1))
    have HR7:=mk_ ho7
    have kr8 : w7.cell? ⟨go,0,none⟩ = some (.slice Ar oT.length cr):=(bc_ HO7.out 0).trans rfl
    have kt8 : w7.cell? ⟨g,6,none⟩ = some (.slice Atk tk.length ctk):=(bc_ HG7.out 6).trans rfl
    have fr8:=bf_ HO7.out 0
    clear ho7 hb7 hg7 hat7 hty kr6 kt6 kr7 kt7
    refine hK.out _ _ ⟨kr8,kt8⟩ (fun hHeld => ?_)
    clear hK K
    refine norm_ (a':=?_) ?_ ?_
    rotate_left
    ·show Act.put _ (some 63) _ = _
     simp only [Act.put,sx_,sy_,sz_,i64_w,i32_w]
     rfl
    refine pu_ (i:=9) (N:=some 64) 11 1023 ?_
    refine last_ (i:=10) (N:=none) #[true,true,true,true,true,true,true,true,true,true,true] rfl rfl (by kernel_rfl) (by decide) (fun K hK => ?_)
    refine skip_ (w1:=?_) (by rfl) rfl ?_ ?_
    rotate_left
    ·go_simp
     rfl
    refine hK.out _ _ ?_
    clear hK K
    refine done_ (by kernel_rfl) ?_
    have hl7 : (oT ++ [onceL tk]).length = oT.length + 1:=by simp
    have hr7:=HR7.out
    rw [hl7] at hr7
    have hgno : g ≠ go:=fun e => by
     have h1:=HG7.out
     rw [e,HO7.out] at h1
     injection h1 with h1
     injection h1 with _ h2 _
     exact absurd h2 (by decide)
    have hmno:=tabW_ne HM7.out HO7.out
    have HN8:=mk_ (nb_seto HN7.out (show w.heap.size ≠ go by omega) 0 (.slice A7 (oT.length + 1) c7))
    have HS8:=mk_ (nb_seto HS7.out (show w.heap.size + 1 ≠ go by omega) 0 (.slice A7 (oT.length + 1) c7))
    have HG8:=mk_ (nb_seto HG7.out hgno 0 (.slice A7 (oT.length + 1) c7))
    have HO8:=mk_ (nb_setl HO7.out 0 (.slice A7 (oT.length + 1) c7))
    have HT8:=mk_ (Kd.R_set HT7.out HO7.out (by decide) 0 (.slice A7 (oT.length + 1) c7))
    have HM8:=mk_ (tabW_stays HM7.out (Below.heap_setCell w7 ⟨go,0,none⟩ (.slice A7 (oT.length + 1) c7) gm hmno))
    have HB8:=mk_ (HB7.out.setCell (p:=⟨go,0,none⟩) (show w.heap.size ≤ go by omega) (.slice A7 (oT.length + 1) c7))
    have HR8:=mk_ (Kd.S_set hr7 HO7.out (by decide) 0 (.slice A7 (oT.length + 1) c7))
    have HX8:=mk_ (Kd.S_set HX7.out HO7.out (by decide) 0 (.slice A7 (oT.length + 1) c7))
    have HV8:=mk_ (Kd.R_set HV7.out HO7.out (by decide) 0 (.slice A7 (oT.length + 1) c7))
    have hpq : ∀ k,(P k ∧ k < W5.heap.size ∨ W5.heap.size ≤ k) → ¬ (Q k ∧ k < W5.heap.size):=fun k h1 h2 => h1.elim (fun h => HPQ.out k h.1 h2.1) (fun h => by omega)
    clear hr7 hl7 hmno kr8 kt8 fr8 hHeld HO7 HN7 HS7 HG7 HT7 HM7 HB7 HV7 HX7 HR7 HD6 HR6 HON kr0 kt0 HO5 HN5 HS5 HG5 HT5 HM5 HB5 HRT5 HRO5 HTK5 HOV5
    generalize w7.setCell ⟨go,0,none⟩ (.slice A7 (oT.length + 1) c7) = W8 at HN8 HS8 HG8 HO8 HT8 HM8 HB8 HR8 HX8 HV8 ⊢
    obtain ⟨P2,HRT5,hP2⟩ : ∃ P2 : Nat → Prop,Aside0 (Kd.S (Kd.slice 3 (Kd.int .i64)) 24 W8 w.heap.size (fun k => P2 k ∧ k < W8.heap.size) (.slice A7 (oT.length + 1) c7) (oT ++ [onceL tk])) ∧ ∀ k,P2 k → (P k ∧ k < W5.heap.size ∨ W5.heap.size ≤ k):=⟨_,⟨Kd.S_mono (Kd.S_bound HR8.out) (fun k hk => ⟨hk.1,hk.2.2.1⟩)⟩,fun _ h => h⟩
    obtain ⟨Q2,HRO5,hQ2⟩ : ∃ Q2 : Nat → Prop,Aside0 (Kd.S (Kd.slice 3 (Kd.int .i64)) 24 W8 w.heap.size (fun k => Q2 k ∧ k < W8.heap.size) (.slice Ao oO.length co) oO) ∧ ∀ k,Q2 k → (Q k ∧ k < W5.heap.size):=⟨_,⟨Kd.S_mono (Kd.S_bound HX8.out) (fun k hk => ⟨hk.1,hk.2.2.1⟩)⟩,fun _ h => h⟩
    have HPQ2 : Aside0 (∀ k,P2 k → ¬ Q2 k):=⟨fun k h1 h2 => hpq k (hP2 k h1) (hQ2 k h2)⟩
    have HO5:=HO8
    have HN5:=HN8
    have HS5:=HS8
    have HG5:=HG8
    have HT5:=HT8
    have HM5:=HM8
    have HB5:=HB8
    have HOV5:=HV8
    clear HO8 HN8 HS8 HG8 HT8 HM8 HB8 HV8 HR8 HX8 hpq hP2 hQ2 HPQ
    go_upto_region 11 with (fail)
    have hrd:=rr_ HOV5.out
    have hon:=x_once Aov cov ovl W8.drew (cb_ hrd.2.2 (below_drew (Below.refl _ _))) hrd.2.1 hlen2
    have HON:=mk_ hon
    have kr0 : W8.drew.cell? ⟨go,1,none⟩ = some (.slice Ao oO.length co):=(bc_ HO5.out 1).trans rfl
    have kt0 : W8.drew.cell? ⟨g,7,none⟩ = some (.slice Aov ovl.length cov):=(bc_ HG5.out 7).trans rfl
    clear hrd hon
    refine start_ (n:=11) (S:=fun w' => w'.cell? ⟨go,1,none⟩ = some (.slice Ao oO.length co) ∧ w'.cell? ⟨g,7,none⟩ = some (.slice Aov ovl.length cov)) (ds:=[10]) #[false,false,false,false,false,false,false,false,false,false,false] (by kernel_rfl) rfl rfl ⟨kr0,kt0⟩ (fun hHeld => ?_)
    refine pu_ (i:=0) (N:=some 65) 11 1 ?_
    refine pu_ (i:=2) (N:=some 67) 11 5 ?_
    refine pu_ (i:=3) (N:=some 68) 11 13 ?_
    refine pu_ (i:=4) (N:=some 69) 11 29 ?_
    refine ta2_ (i:=1) (N:=some 66) 11 31 hHeld ?_
    refine ta2_ (i:=5) (N:=some 70) 11 63 hHeld ?_
    refine on_ (i:=6) (N:=some 71) 11 127 (fun K hK => ?_)
    refine goes_ Try.func37 (by kernel_rfl) rfl #[.slice Aov ovl.length cov] (by rfl) rfl rfl (by simp only [List.map_toArray,List.map_cons,List.map_nil];rfl) ?_
    with_reducible refine (HON.out).mono ?_
    rintro e w6 ⟨vr,rfl,hr6,hb6⟩
    refine ⟨_,rfl,?_⟩
    obtain ⟨A6,c6,rfl⟩:=Kd.R_slice hr6
    have HD6:=mk_ (st_ (below_drew (Below.refl W8.heap.size W8)) hb6)
    have HR6:=mk_ (show Kd.R (Kd.int .i64) 3 w6 W8.heap.size (fun _ => True) (.slice A6 (onceL ovl).length c6) (onceL ovl) from hr6)
    clear hr6 hb6
    have kr6 : w6.cell? ⟨go,1,none⟩ = some (.slice Ao oO.length co):=(bc_ (blk_below HO5.out HD6.out) 1).trans rfl
    have kt6 : w6.cell? ⟨g,7,none⟩ = some (.slice Aov ovl.length cov):=(bc_ (blk_below HG5.out HD6.out) 7).trans rfl
    refine hK.out _ _ ⟨kr6,kt6⟩ (fun hHeld => ?_)
    clear hK K
    refine norm_ (a':=?_) ?_ ?_
    rotate_left
    ·show Act.put _ (some 71) _ = _
     simp only [Act.put,sx_,sy_,sz_,i64_w,i32_w]
     rfl
    refine on_ (i:=7) (N:=some 72) 11 255 (fun K hK => ?_)
    refine value_ (w1:=?_) (v:=?_) (by rfl) rfl ?_ ?_
    rotate_left 2
    ·go_simp
     constructor
     ·rfl
     ·rfl
    have kr7 : (w6.alloc (.cells #[.slice A6 (onceL ovl).length c6] 24)).cell? ⟨go,1,none⟩ = some (.slice Ao oO.length co):=(bc_ (ka_ (blk_below HO5.out HD6.out) _) 1).trans rfl
    have kt7 : (w6.alloc (.cells #[.slice A6 (onceL ovl).length c6] 24)).cell? ⟨g,7,none⟩ = some (.slice Aov ovl.length cov):=(bc_ (ka_ (blk_below HG5.out HD6.out) _) 7).trans rfl
    refine hK.out _ _ ⟨kr7,kt7⟩ (fun hHeld => ?_)
    clear hK K
    refine norm_ (a':=?_) ?_ ?_
    rotate_left
    ·show Act.put _ (some 72) _ = _
     simp only [Act.put,sx_,sy_,sz_,i64_w,i32_w]
     rfl
    refine on_ (i:=8) (N:=some 73) 11 511 (fun K hK => ?_)
    refine Kd.S_append_step (Kd.slice 3 (Kd.int .i64)) (w0:=w) w.heap.size (by rfl) (.tmp 66) (.tmp 72) 30 24 (.slice none 0 0) 24 rfl Try.underlying30 (by kernel_rfl) rfl (by decide) (by omega) (.slice Ao oO.length co) oO (onceL ovl) [.slice A6 (onceL ovl).length c6] (fun k => (Q2 k ∧ k < W8.heap.size) ∨ W8.heap.size ≤ k) (fun k_ => some k_ = (Value.slice A6 (onceL ovl).length c6).ownBlock) (by rfl) (by rfl) ?aP ?aK ?aF ?aO ?aB ?aS ?aL ?_
    case aP => exact Kd.M_row (Kd.R_lower (Kd.R_tight rfl HR6.out) HB5.out.size)
    case aK => exact fun k hk => ⟨Or.inr (Kd.R_base HR6.out k hk.symm),fun he => by have h1:=Kd.R_base HR6.out k hk.symm;have h2:=Kd.S_lt HRO5.out k he.symm;omega⟩
    case aF => exact fun k hk => Or.inr (Nat.le_trans HD6.out.size hk)
    case aO => exact Kd.S_mono (Kd.S_below HRO5.out HD6.out) (fun k hk => ⟨Or.inl hk,fun he => by have h1:=Kd.R_base HR6.out k he.symm;omega⟩)
    case aB => exact st_ HB5.out HD6.out
    case aS => exact Nat.le_trans HB5.out.size HD6.out.size
    case aL => have h1:=HLT.out;have h2:=HLO.out;omega
    intro v7 w7 ho7 hb7 hg7 hat7
    obtain ⟨A9,c9,rfl⟩:=Kd.S_slice ho7
    have hty:=Kd.S_typed (Kd.S_below HRO5.out HD6.out)
    have HO7:=mk_ (bt_grown (blk_below HO5.out HD6.out) hg7 hty (by decide))
    have HN7:=mk_ (bt_grown (blk_below HN5.out HD6.out) hg7 hty (by decide))
    have HS7:=mk_ (bt_grown (blk_below HS5.out HD6.out) hg7 hty (by decide))
    have HG7:=mk_ (bt_grown (blk_below HG5.out HD6.out) hg7 hty (by decide))
    have HT7:=mk_ (rt_grown (rb_ HT5.out HD6.out) hg7 hty (by decide))
    have HM7:=mk_ (tt_grown (tabW_stays HM5.out (HD6.out.block _ (tabW_lt HM5.out))) hg7 hty)
    have HB7:=mk_ hb7
    have HX7:=mk_ (Kd.S_grown (Kd.S_below HRT5.out HD6.out) hg7 (fun k hk e1 => HPQ2.out k hk.1 (by exact (HRO5.out.elim fun f hf => (hf.1 k e1.symm).1))))
    have HR7:=mk_ ho7
    have kr8 : w7.cell? ⟨go,1,none⟩ = some (.slice Ao oO.length co):=(bc_ HO7.out 1).trans rfl
    have kt8 : w7.cell? ⟨g,7,none⟩ = some (.slice Aov ovl.length cov):=(bc_ HG7.out 7).trans rfl
    have fr8:=bf_ HO7.out 1
    clear ho7 hb7 hg7 hat7 hty kr6 kt6 kr7 kt7
    refine hK.out _ _ ⟨kr8,kt8⟩ (fun hHeld => ?_)
    clear hK K
    refine norm_ (a':=?_) ?_ ?_
    rotate_left
    ·show Act.put _ (some 73) _ = _
     simp only [Act.put,sx_,sy_,sz_,i64_w,i32_w]
     rfl
    refine pu_ (i:=9) (N:=some 74) 11 1023 ?_
    refine last_ (i:=10) (N:=none) #[true,true,true,true,true,true,true,true,true,true,true] rfl rfl (by kernel_rfl) (by decide) (fun K hK => ?_)
    refine skip_ (w1:=?_) (by rfl) rfl ?_ ?_
    rotate_left
    ·go_simp
     rfl
    refine hK.out _ _ ?_
    clear hK K
    refine done_ (by kernel_rfl) ?_
    have hl7 : (oO ++ [onceL ovl]).length = oO.length + 1:=by simp
    have hr7:=HR7.out
    rw [hl7] at hr7
    have hgno : g ≠ go:=fun e => by
     have h1:=HG7.out
     rw [e,HO7.out] at h1
     injection h1 with h1
     injection h1 with _ h2 _
     exact absurd h2 (by decide)
    have hmno:=tabW_ne HM7.out HO7.out
    have HN8:=mk_ (nb_seto HN7.out (show w.heap.size ≠ go by omega) 1 (.slice A9 (oO.length + 1) c9))
    have HS8:=mk_ (nb_seto HS7.out (show w.heap.size + 1 ≠ go by omega) 1 (.slice A9 (oO.length + 1) c9))
    have HG8:=mk_ (nb_seto HG7.out hgno 1 (.slice A9 (oO.length + 1) c9))
    have HO8:=mk_ (nb_setl HO7.out 1 (.slice A9 (oO.length + 1) c9))
    have HT8:=mk_ (Kd.R_set HT7.out HO7.out (by decide) 1 (.slice A9 (oO.length + 1) c9))
    have HM8:=mk_ (tabW_stays HM7.out (Below.heap_setCell w7 ⟨go,1,none⟩ (.slice A9 (oO.length + 1) c9) gm hmno))
    have HB8:=mk_ (HB7.out.setCell (p:=⟨go,1,none⟩) (show w.heap.size ≤ go by omega) (.slice A9 (oO.length + 1) c9))
    have HR8:=mk_ (Kd.S_set hr7 HO7.out (by decide) 1 (.slice A9 (oO.length + 1) c9))
    have HX8:=mk_ (Kd.S_set HX7.out HO7.out (by decide) 1 (.slice A9 (oO.length + 1) c9))
    have hpq : ∀ k,(P2 k ∧ k < W8.heap.size) → ¬ (Q2 k ∧ k < W8.heap.size ∨ W8.heap.size ≤ k):=fun k h1 h2 => h2.elim (fun h => HPQ2.out k h1.1 h.1) (fun h => by omega)
    have HPQ3:=mk_ hpq
    clear hr7 hl7 hmno kr8 kt8 fr8 hHeld HO7 HN7 HS7 HG7 HT7 HM7 HB7 HX7 HR7 HD6 HR6 HON kr0 kt0 HO5 HN5 HS5 HG5 HT5 HM5 HB5 HRT5 HRO5 HOV5 hpq
    go_wp2_with fail
    go_roundg (l4.length - (kk + 1))
    case measure => omega
    case rel => exact ⟨kk + 1,n',T',oT ++ [onceL tk],oO ++ [onceL ovl],.slice A7 (oT.length + 1) c7,.slice A9 (oO.length + 1) c9,_,_,_,_,by omega,by omega,by go_num,by rw [List.length_append,HLT.out];rfl,by rw [List.length_append,HLO.out];rfl,HFN,HPQ3,HX8,HR8,HO8,HN8,HS8,HG8,HT8,HM8,HB8⟩
   ·have hkl : kk = l4.length:=by omega
    have hF:=HF.out
    rw [hkl,List.drop_length,framesN] at hF
    have hfe : fin = (oT,oO):=by
     have:=Option.some.inj hF
     simpa using this.symm
    have HFE:=mk_ hfe
    clear hF hfe hkl HF HLT HLO HG HT HM
    obtain ⟨Ar,cr,rfl⟩:=Kd.S_slice HR1'.out
    obtain ⟨Ao,co,rfl⟩:=Kd.S_slice HR2'.out
    have p1 : ((kk : Int) < (l4.length : Int)) = False:=eq_false (by omega)
    have p2 : (kk < l4.length) = False:=eq_false hlt
    have k0 : wr.cell? ⟨go,0,none⟩ = some (.slice Ar oT.length cr):=(bc_ HO.out 0).trans rfl
    have k1 : wr.cell? ⟨go,1,none⟩ = some (.slice Ao oO.length co):=(bc_ HO.out 1).trans rfl
    have e0 : wr.cell? ⟨w.heap.size + 1,0,none⟩ = some (.slice none 0 0):=(bc_ HS.out 0).trans rfl
    have e1 : wr.cell? ⟨w.heap.size + 1,1,none⟩ = some (.slice none 0 0):=(bc_ HS.out 1).trans rfl
    have g0:=bf_ HS.out 0
    have g1:=bf_ HS.out 1
    go_wp2_with fail
    have HY:=nb_setl (nb_setl HS.out 0 (.slice Ar oT.length cr)) 1 (.slice Ao oO.length co)
    have BWY:=mk_ ((HB.out.setCell (p:=⟨w.heap.size + 1,0,none⟩) (Nat.le_succ _) (.slice Ar oT.length cr)).setCell (p:=⟨w.heap.size + 1,1,none⟩) (Nat.le_succ _) (.slice Ao oO.length co))
    have HX1:=mk_ (Kd.S_set (Kd.S_set HR1'.out HS.out (by decide) 0 (.slice Ar oT.length cr)) (nb_setl HS.out 0 (.slice Ar oT.length cr)) (by decide) 1 (.slice Ao oO.length co))
    have HX2:=mk_ (Kd.S_set (Kd.S_set HR2'.out HS.out (by decide) 0 (.slice Ar oT.length cr)) (nb_setl HS.out 0 (.slice Ar oT.length cr)) (by decide) 1 (.slice Ao oO.length co))
    clear k0 k1 e0 e1 g0 g1 HS HB HN HO HR1' HR2'
    generalize (wr.setCell ⟨w.heap.size + 1,0,none⟩ (.slice Ar oT.length cr)).setCell ⟨w.heap.size + 1,1,none⟩ (.slice Ao oO.length co) = W10 at HY BWY HX1 HX2 ⊢
    refine bodyPost_ret (results_ct2 rfl _ _ (w.heap.size + 1) 32 #[.slice Ar oT.length cr,.slice Ao oO.length co] (0,0) _ rfl HY hu rfl (by kernel_rfl)) rfl ?_
    exact ⟨_,_,P,Q,rfl,HPQ.out,by rw [HFE.out];exact HX1.out,by rw [HFE.out];exact HX2.out,BWY.out⟩
end Go.Proofs.Ytblcnbnphjnhdaa.PAll
