/- Proved here: contracts of functions of the given program, or lemmas on them, for the laws of this seat. Written by xprint.py, a program of this session, on the ground of the kit's print; parts by hand: wip/x/ext. -/
import Derived.Test.YtdpnloibbimblaaPAllx0
import Derived.Test.YtdpnloibbimblaaPAllx1
import Derived.Test.YtdpnloibbimblaaPAllx2
import Derived.Test.YtdpnloibbimblaaPAllx6
namespace Go.Proofs.Ytdpnloibbimblaa.PAll
open Go.RowKit Go.Proofs.YtdpnloibbimblaaW.PrintWords Go.Proofs.YtdpnloibbimblaaW.PrintLast Go.Proofs.YtdpnloibbimblaaW.PrintMore
attribute [local go_sem] max2_int min2_int max_two min_two max_three min_three max_four min_four   -- for this text's walks alone
set_option linter.unusedVariables false
set_option linter.unusedSimpArgs false

-- LIB linkdraw
theorem l1s_at {b : List Int} (hb : Bytes b) (n : Nat) (d : Nat) : ∀ (i : Nat) (x : List Int) (p : Int), i + d = n → n ≤ 1000 → 0 ≤ p → p + 2 * d ≤ 1000000 → BytesL x → x.length + d ≤ 100000 →
    ∃ x' p',BytesL x' ∧ x'.length = x.length + d ∧ p ≤ p' ∧ p' ≤ p + 2 * d ∧ ∀ k,d + 2 < k → spec_l1Some.l0 k (n : Int) x (i : Int) b p = some (x',p'):=by
  induction d with
  | zero =>
    intro i x p hi hn hp0 hp1 hx hl
    refine ⟨x,p,hx,rfl,Int.le_refl _,by omega,fun k hk => ?_⟩
    obtain ⟨k,rfl⟩ : ∃ m,k = m + 1:=⟨k - 1,by omega⟩
    simp only [spec_l1Some.l0]
    rw [if_neg (by omega)]
  | succ d ih =>
    intro i x p hi hn hp0 hp1 hx hl
    obtain ⟨r1,q1,q2,_,e1⟩:=pick_ok hb 4 hp0 (by omega)
    have hb1 : ∀ y : Int,BytesL (x ++ [y % 256]):=by
      intro y z hz
      rcases List.mem_append.1 hz with hz | hz
      · exact hx z hz
      · rw [List.mem_singleton.1 hz];omega
    by_cases h0 : r1 = 0
    · obtain ⟨r2,_,e2⟩:=num_ok hb [0,1,125,126,127,128,255,94,93] (show 0 ≤ p + 1 by omega) (by omega) (by simp)
      obtain ⟨x',p',a1,a2,a3,a4,a5⟩:=ih (i + 1) (x ++ [r2 % 256]) (p + 1 + 1) (by omega) hn (by omega) (by omega) (hb1 r2) (by simp;omega)
      simp only [List.length_append,List.length_singleton] at a2
      refine ⟨x',p',a1,by omega,by omega,by omega,fun k hk => ?_⟩
      obtain ⟨k,rfl⟩ : ∃ m,k = m + 1:=⟨k - 1,by omega⟩
      simp only [spec_l1Some.l0]
      rw [if_pos (by omega),e1 k (by omega),Option.bind_some,if_pos h0,e2 k (by omega),Option.bind_some,if_pos (by omega),wrap_eq (x:=(i : Int) + 1) (by omega) (by omega)]
      exact a5 k (by omega)
    · obtain ⟨r2,_,_,_,e2⟩:=pick_ok hb 256 (show 0 ≤ p + 1 by omega) (by omega)
      obtain ⟨x',p',a1,a2,a3,a4,a5⟩:=ih (i + 1) (x ++ [r2 % 256]) (p + 1 + 1) (by omega) hn (by omega) (by omega) (hb1 r2) (by simp;omega)
      simp only [List.length_append,List.length_singleton] at a2
      refine ⟨x',p',a1,by omega,by omega,by omega,fun k hk => ?_⟩
      obtain ⟨k,rfl⟩ : ∃ m,k = m + 1:=⟨k - 1,by omega⟩
      simp only [spec_l1Some.l0]
      rw [if_pos (by omega),e1 k (by omega),Option.bind_some,if_neg h0,e2 k (by omega),Option.bind_some,if_pos (by omega),wrap_eq (x:=(i : Int) + 1) (by omega) (by omega)]
      exact a5 k (by omega)
theorem l4s_at {b : List Int} (hb : Bytes b) (d : Nat) : ∀ (x : List (List Int)) (p : Int), d ≤ 100 → 0 ≤ p → p + 9 * d ≤ 100000 → (∀ y ∈ x, BytesL y) → x.length + d ≤ 1000 →
    ∃ x' p',(∀ y ∈ x',BytesL y) ∧ x'.length = x.length + d ∧ p ≤ p' ∧ p' ≤ p + 9 * d ∧ ∀ k,d + 20 < k → spec_l4Sent.l0 k x (d : Int) b p = some (x',p'):=by
  induction d with
  | zero =>
    intro x p hd hp0 hp1 hx hl
    refine ⟨x,p,hx,rfl,Int.le_refl _,by omega,fun k hk => ?_⟩
    obtain ⟨k,rfl⟩ : ∃ m,k = m + 1:=⟨k - 1,by omega⟩
    simp only [spec_l4Sent.l0]
    rw [if_neg (by omega)]
  | succ d ih =>
    intro x p hd hp0 hp1 hx hl
    obtain ⟨n,hn,e1⟩:=num_ok hb [1,2,0,4] hp0 (by omega) (by simp)
    have hn2 : 0 ≤ n ∧ n ≤ 4:=by simp at hn;omega
    obtain ⟨N,rfl⟩:=Int.eq_ofNat_of_zero_le hn2.1
    obtain ⟨y,p1,b1,b2,b3,b4,b5⟩:=l1s_at hb N N 0 [] (p + 1) (by omega) (by omega) (by omega) (by omega) (fun z hz => by simp at hz) (by simp;omega)
    obtain ⟨x',p',a1,a2,a3,a4,a5⟩:=ih (x ++ [y]) p1 (by omega) (by omega) (by omega) (fun z hz => by
      rcases List.mem_append.1 hz with hz | hz
      · exact hx z hz
      · rw [List.mem_singleton.1 hz];exact b1) (by simp;omega)
    simp only [List.length_append,List.length_singleton] at a2
    refine ⟨x',p',a1,by omega,by omega,by omega,fun k hk => ?_⟩
    obtain ⟨k,rfl⟩ : ∃ m,k = m + 1:=⟨k - 1,by omega⟩
    simp only [spec_l4Sent.l0]
    have b6 : spec_l1Some.f k b (p + 1) (N : Int) = some (y,p1):=by
      have:=b5 k (by omega)
      unfold spec_l1Some.f
      exact this
    rw [if_pos (by omega),e1 k (by omega),Option.bind_some,b6,Option.bind_some,if_pos (by omega),wrap_eq (x:=((d + 1 : Nat) : Int) - 1) (by omega) (by omega),show ((d + 1 : Nat) : Int) - 1 = (d : Int) by omega]
    exact a5 k (by omega)
theorem sent_ok {b : List Int} (hb : Bytes b) {p : Int} (h0 : 0 ≤ p) (h1 : p ≤ 10000) : ∃ x p',(∀ y ∈ x,BytesL y) ∧ x.length ≤ 14 ∧ p ≤ p' ∧ p' ≤ p + 200 ∧ ∀ k,100 < k → spec_l4Sent.f k b p = some (x,p'):=by
  obtain ⟨n,hn,e1⟩:=num_ok hb [3,5,0,8,1,14] h0 (by omega) (by simp)
  have hn2 : 0 ≤ n ∧ n ≤ 14:=by simp at hn;omega
  obtain ⟨N,rfl⟩:=Int.eq_ofNat_of_zero_le hn2.1
  obtain ⟨x',p',a1,a2,a3,a4,a5⟩:=l4s_at hb N [] (p + 1) (by omega) (by omega) (by omega) (fun z hz => by simp at hz) (by simp;omega)
  refine ⟨x',p',a1,by simp at a2;omega,by omega,by omega,fun k hk => ?_⟩
  unfold spec_l4Sent.f
  rw [e1 k (by omega),Option.bind_some]
  exact a5 k (by omega)
theorem l4f_at {b : List Int} (hb : Bytes b) (bad : Int) (d : Nat) : ∀ (x : List Int) (p : Int), d ≤ 100 → 0 ≤ p → p + 2 * d ≤ 100000 → x.length + d ≤ 1000 →
    ∃ x' p',x'.length = x.length + d ∧ p ≤ p' ∧ p' ≤ p + 2 * d ∧ ∀ k,d + 2 < k → spec_l4Fates.l0 k x bad (d : Int) b p = some (x',p'):=by
  induction d with
  | zero =>
    intro x p hd hp0 hp1 hl
    refine ⟨x,p,rfl,Int.le_refl _,by omega,fun k hk => ?_⟩
    obtain ⟨k,rfl⟩ : ∃ m,k = m + 1:=⟨k - 1,by omega⟩
    simp only [spec_l4Fates.l0]
    rw [if_neg (by omega)]
  | succ d ih =>
    intro x p hd hp0 hp1 hl
    obtain ⟨r1,_,_,_,e1⟩:=pick_ok hb bad hp0 (by omega)
    by_cases h0 : r1 = 0
    · obtain ⟨r2,_,_,_,e2⟩:=pick_ok hb 5 (show 0 ≤ p + 1 by omega) (by omega)
      obtain ⟨x',p',a2,a3,a4,a5⟩:=ih (x ++ [r2]) (p + 1 + 1) (by omega) (by omega) (by omega) (by simp;omega)
      simp only [List.length_append,List.length_singleton] at a2
      refine ⟨x',p',by omega,by omega,by omega,fun k hk => ?_⟩
      obtain ⟨k,rfl⟩ : ∃ m,k = m + 1:=⟨k - 1,by omega⟩
      simp only [spec_l4Fates.l0]
      rw [if_pos (by omega),e1 k (by omega),Option.bind_some,if_pos h0,e2 k (by omega),Option.bind_some,if_pos (by omega),wrap_eq (x:=((d + 1 : Nat) : Int) - 1) (by omega) (by omega),show ((d + 1 : Nat) : Int) - 1 = (d : Int) by omega]
      exact a5 k (by omega)
    · obtain ⟨x',p',a2,a3,a4,a5⟩:=ih (x ++ [0]) (p + 1) (by omega) (by omega) (by omega) (by simp;omega)
      simp only [List.length_append,List.length_singleton] at a2
      refine ⟨x',p',by omega,by omega,by omega,fun k hk => ?_⟩
      obtain ⟨k,rfl⟩ : ∃ m,k = m + 1:=⟨k - 1,by omega⟩
      simp only [spec_l4Fates.l0]
      rw [if_pos (by omega),e1 k (by omega),Option.bind_some,if_neg h0,if_pos (by omega),wrap_eq (x:=((d + 1 : Nat) : Int) - 1) (by omega) (by omega),show ((d + 1 : Nat) : Int) - 1 = (d : Int) by omega]
      exact a5 k (by omega)
theorem fates_ok {b : List Int} (hb : Bytes b) {p : Int} (h0 : 0 ≤ p) (h1 : p ≤ 10000) : ∃ x p',x.length ≤ 30 ∧ p ≤ p' ∧ p' ≤ p + 100 ∧ ∀ k,100 < k → spec_l4Fates.f k b p = some (x,p'):=by
  obtain ⟨bad,_,e0⟩:=num_ok hb [2,1,3,8] h0 (by omega) (by simp)
  obtain ⟨n,hn,e1⟩:=num_ok hb [6,0,12,3,30] (show 0 ≤ p + 1 by omega) (by omega) (by simp)
  have hn2 : 0 ≤ n ∧ n ≤ 30:=by simp at hn;omega
  obtain ⟨N,rfl⟩:=Int.eq_ofNat_of_zero_le hn2.1
  obtain ⟨x',p',a2,a3,a4,a5⟩:=l4f_at hb bad N [] (p + 1 + 1) (by omega) (by omega) (by omega) (by simp;omega)
  refine ⟨x',p',by simp at a2;omega,by omega,by omega,fun k hk => ?_⟩
  unfold spec_l4Fates.f
  rw [e0 k (by omega),Option.bind_some,e1 k (by omega),Option.bind_some]
  exact a5 k (by omega)
/-- What l5Draw draws. -/
theorem l5d_ok {b : List Int} (hb : Bytes b) {p : Int} (h0 : 0 ≤ p) (h1 : p ≤ 1000) : ∃ (w : Int) (x : List (List Int)) (f g : List Int) (p' : Int),(∀ y ∈ x,BytesL y) ∧ x.length ≤ 15 ∧ f.length ≤ 31 ∧ g.length ≤ 31 ∧ 0 ≤ p' ∧ p' ≤ p + 1000 ∧ ∀ k,100 < k → spec_l5Draw.f k b p = some (w,x,f,g,p'):=by
  obtain ⟨x,p1,a1,a2,a3,a4,a5⟩:=sent_ok hb h0 (by omega)
  obtain ⟨w,_,e1⟩:=num_ok hb [4,1,2,8,3] (show 0 ≤ p1 by omega) (by omega) (by simp)
  obtain ⟨f,p2,f1,f2,f3,f4⟩:=fates_ok hb (show 0 ≤ p1 + 1 by omega) (by omega)
  obtain ⟨g,p3,g1,g2,g3,g4⟩:=fates_ok hb (show 0 ≤ p2 by omega) (by omega)
  obtain ⟨r,_,_,_,e2⟩:=pick_ok hb 48 (show 0 ≤ p3 by omega) (by omega)
  obtain ⟨w2,_,e3⟩:=num_ok hb [0,9] (show 0 ≤ p3 + 1 by omega) (by omega) (by simp)
  by_cases h : r = 0
  · refine ⟨w2,x,f,g,p3 + 1 + 1,a1,by omega,by omega,by omega,by omega,by omega,fun k hk => ?_⟩
    unfold spec_l5Draw.f
    rw [a5 k hk,Option.bind_some,e1 k (by omega),Option.bind_some,f4 k hk,Option.bind_some,g4 k hk,Option.bind_some,e2 k (by omega),Option.bind_some,if_pos h,e3 k (by omega),Option.bind_some]
  · by_cases h2 : r = 1
    · refine ⟨w,x ++ [List.replicate 598 0],f,g,p3 + 1,?_,by rw [List.length_append];show _ + 1 ≤ _;omega,by omega,by omega,by omega,by omega,fun k hk => ?_⟩
      · intro y hy
        rcases List.mem_append.1 hy with hy | hy
        · exact a1 y hy
        · rw [List.mem_singleton.1 hy]
          intro z hz
          rw [(List.mem_replicate.1 hz).2]
          omega
      · unfold spec_l5Draw.f
        rw [a5 k hk,Option.bind_some,e1 k (by omega),Option.bind_some,f4 k hk,Option.bind_some,g4 k hk,Option.bind_some,e2 k (by omega),Option.bind_some,if_neg h,if_pos h2,if_pos (by omega),if_pos (by show x.length < 5864062014805;omega)]
    · by_cases h3 : r = 2
      · refine ⟨w,x,f ++ [7],g,p3 + 1,a1,by omega,by simp;omega,by omega,by omega,by omega,fun k hk => ?_⟩
        unfold spec_l5Draw.f
        rw [a5 k hk,Option.bind_some,e1 k (by omega),Option.bind_some,f4 k hk,Option.bind_some,g4 k hk,Option.bind_some,e2 k (by omega),Option.bind_some,if_neg h,if_neg h2,if_pos h3,if_pos (by show f.length < 17592186044416;omega)]
      · by_cases h4 : r = 3
        · refine ⟨w,x,f,g ++ [-1],p3 + 1,a1,by omega,by omega,by simp;omega,by omega,by omega,fun k hk => ?_⟩
          unfold spec_l5Draw.f
          rw [a5 k hk,Option.bind_some,e1 k (by omega),Option.bind_some,f4 k hk,Option.bind_some,g4 k hk,Option.bind_some,e2 k (by omega),Option.bind_some,if_neg h,if_neg h2,if_neg h3,if_pos h4,if_pos (by show g.length < 17592186044416;omega)]
        · refine ⟨w,x,f,g,p3 + 1,a1,by omega,by omega,by omega,by omega,by omega,fun k hk => ?_⟩
          unfold spec_l5Draw.f
          rw [a5 k hk,Option.bind_some,e1 k (by omega),Option.bind_some,f4 k hk,Option.bind_some,g4 k hk,Option.bind_some,e2 k (by omega),Option.bind_some,if_neg h,if_neg h2,if_neg h3,if_neg h4]
theorem drawRun_ok (l : List Int) (h : ∀ x ∈ l,(Lit.int .u8 x).wf = true) : ∃ (w : Int) (x : List (List Int)) (f g : List Int) (r : Int),(∀ y ∈ x,BytesL y) ∧ x.length ≤ 15 ∧ f.length ≤ 31 ∧ g.length ≤ 31 ∧ ∀ k,100 < k → spec_DrawRunLink.f k l = some (w,x,f,g,r):=by
  obtain ⟨b,e0,hb⟩:=open_ok l h
  obtain ⟨w,x,f,g,p,a1,a2,a3,a4,a5,a6,a7⟩:=l5d_ok hb (show (0 : Int) ≤ 0 by omega) (by omega)
  obtain ⟨r,_,e1⟩:=num_ok hb [20,3,1,60,0,400,401,(-1)] a5 (by omega) (by simp)
  refine ⟨w,x,f,g,r,a1,a2,a3,a4,fun k hk => ?_⟩
  unfold spec_DrawRunLink.f
  rw [e0,Option.bind_some,a7 k hk,Option.bind_some,e1 k (by omega),Option.bind_some]
theorem drawRounds_ok (l : List Int) (h : ∀ x ∈ l,(Lit.int .u8 x).wf = true) : ∃ (w : Int) (x : List (List Int)) (f g : List Int),(∀ y ∈ x,BytesL y) ∧ x.length ≤ 15 ∧ f.length ≤ 31 ∧ g.length ≤ 31 ∧ ∀ k,100 < k → spec_DrawLinkRounds.f k l = some (w,x,f,g):=by
  obtain ⟨b,e0,hb⟩:=open_ok l h
  obtain ⟨w,x,f,g,p,a1,a2,a3,a4,a5,a6,a7⟩:=l5d_ok hb (show (0 : Int) ≤ 0 by omega) (by omega)
  refine ⟨w,x,f,g,a1,a2,a3,a4,fun k hk => ?_⟩
  unfold spec_DrawLinkRounds.f
  rw [e0,Option.bind_some,a7 k hk,Option.bind_some]
theorem drawBound_ok (l : List Int) (h : ∀ x ∈ l,(Lit.int .u8 x).wf = true) : ∃ (w m : Int) (f g : List Int),f.length ≤ 31 ∧ g.length ≤ 31 ∧ ∀ k,100 < k → spec_DrawLinkBound.f k l = some (w,m,f,g):=by
  obtain ⟨b,e0,hb⟩:=open_ok l h
  obtain ⟨w,x,f,g,p,a1,a2,a3,a4,a5,a6,a7⟩:=l5d_ok hb (show (0 : Int) ≤ 0 by omega) (by omega)
  obtain ⟨r,_,e1⟩:=num_ok hb [(x.length : Int),0,60,61,(-1),9] a5 (by omega) (by simp)
  refine ⟨w,r,f,g,a3,a4,fun k hk => ?_⟩
  unfold spec_DrawLinkBound.f
  rw [e0,Option.bind_some,a7 k hk,Option.bind_some,e1 k (by omega),Option.bind_some]

end Go.Proofs.Ytdpnloibbimblaa.PAll
