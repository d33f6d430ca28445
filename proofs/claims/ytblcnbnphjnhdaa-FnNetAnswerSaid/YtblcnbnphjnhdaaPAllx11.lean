/- Proved here: contracts of functions of the given program, or lemmas on them, for the laws of this seat. Written by xprint.py, a program of this session, on the ground of the kit's print; parts by hand: wip/x/ext. -/
import Derived.Test.YtblcnbnphjnhdaaPAllx0
import Derived.Test.YtblcnbnphjnhdaaPAllx1
import Derived.Test.YtblcnbnphjnhdaaPAllx2
import Derived.Test.YtblcnbnphjnhdaaPAllx5
import Derived.Test.YtblcnbnphjnhdaaPAllx6
import Derived.Test.YtblcnbnphjnhdaaPAllx7
import Derived.Test.YtblcnbnphjnhdaaPAllx8
import Derived.Test.YtblcnbnphjnhdaaPAllx9
import Derived.Test.YtblcnbnphjnhdaaPAllx10
namespace Go.Proofs.Ytblcnbnphjnhdaa.PAll
open Go.RowKit Go.Proofs.YtblcnbnphjnhdaaW.PrintWords Go.Proofs.YtblcnbnphjnhdaaW.PrintLast Go.Proofs.YtblcnbnphjnhdaaW.PrintMore
attribute [local go_sem] max2_int min2_int max_two min_two max_three min_three max_four min_four   -- for this text's walks alone
set_option linter.unusedVariables false
set_option linter.unusedSimpArgs false
section
variable {N : Nat} {cs : List S83} {hs vs : List Int} {F : Nat} {v rc : Int}
theorem NV.cab (h : NV N cs hs vs F v rc) : cabsB (N : Int) cs = true:=(netB_facts h.hn).1
theorem NV.home (h : NV N cs hs vs F v rc) {S : Nat} (hS : S < hs.length) : rd hs S = (hmN hs S : Int) ∧ hmN hs S < N:=by
 have:=(netB_more h.hn).2.2.2.1 S hS
 unfold hmN
 exact ⟨by omega,by omega⟩
def szF (st : RN) (w : Nat) : Prop:=st.over.length + w + 1 < 1000000000000 ∧ st.took.length + 15 * w < 1000000000000 ∧ st.n + w < 1000000000000
theorem send_ok (nv : NV N cs hs vs F v rc) {f : Nat} (ih : ComeOK N cs hs vs F v rc f) {k y : Int} {b o : Nat} (hk : TJ N cs k b o) (hne : k ≠ y) (hat : AtB N cs (hmN hs F) b y) (hmu : muN N cs b y ≤ f + 1) {st : RN} (hI : InvT N cs hs vs st.T) (hsz : szF st (wtN N cs o k)) :
  ∃ st',sendN cs (comeN cs (treeX (N : Int) cs) hs vs v F rc f) b k st = some st' ∧ Base N cs hs vs F v rc (wtN N cs o k) b st st' ∧ (∀ t,t < N → gD (rootsL N cs) t = gD (rootsL N cs) b → Sep N cs k b t → Tgt hs vs v rc t → Concl N cs hs vs F v rc b t st') ∧ Narrow N cs hs vs F v rc b (fun t => Sep N cs k b t) st st':=by
 have hv:=nv.cab
 obtain ⟨hbl,hol⟩:=hk.lt hv
 have hhF:=(nv.home nv.hF).2
 have hro:=hk.root hv
 have hat2 : AtB N cs (hmN hs F) o k:=by
  refine ⟨hro.symm.trans hat.1,Or.inr ⟨b,hk.symm,Classical.byContradiction (fun h => ?_)⟩⟩
  have h1:=(sep_flip hv hk (hmN hs F)).2 h
  rcases hat.2 with ⟨_,e⟩|⟨o2,h2,h3⟩
  ·rw [e] at h1
   exact sep_self _ _ h1
  ·exact hne (sep_one hv hhF hk h2 h1 h3)
 have hmu2 : muN N cs o k ≤ f:=by
  have:=mu_lt hv hk hne
  omega
 unfold sendN
 rw [if_pos (by have:=hsz.1;omega),tj_oth hv hk]
 have hwt : 1 ≤ wtN N cs o k:=by
  have:=wl_all hv hol k (l:=[]) (by simp)
  omega
 -- the length behind the cable
 have hcm:=ih o k { st with over:=st.over ++ [k] } hol hI hat2 hmu2
 have hl0 : (st.over ++ [k]).length = st.over.length + 1:=by simp
 have hs2 : szN { st with over:=st.over ++ [k] } (wtN N cs o k):=⟨by show (st.over ++ [k]).length + _ < _;have:=hsz.1;omega,by have:=hsz.2.1;show st.took.length + _ < _;omega,by have:=hsz.2.2;show st.n + _ < _;omega⟩
 obtain ⟨st',h1,h2,h3,h4,h5,h6⟩:=hcm hs2
 ·skip
  have hl : (st.over ++ [k]).length = st.over.length + 1:=by simp
  refine ⟨st',h1,⟨?_,h2.lt,h2.ln,h2.inv,h2.old,h2.oth,fun j hj => h2.ov0 j (List.mem_append_left _ hj),fun j hj => ?_,h2.tk0,fun s hs' => (h2.tk1 s hs').imp id (fun ⟨S,a1,a2,a3,a4,a5,a6⟩ => ⟨S,a1,a2,a3,a4,a5,a6.trans hro.symm⟩)⟩,?_,?_⟩
  ·have : st'.over.length + 1 ≤ (st.over ++ [k]).length + wtN N cs o k:=h3
   omega
  ·rcases h2.ov1 j hj with h|⟨e,o2,a1,a2⟩
   ·rcases List.mem_append.1 h with h|h
    ·exact Or.inl h
    ·rw [List.mem_singleton.1 h]
     exact Or.inr ⟨b,o,hk,rfl⟩
   ·exact Or.inr ⟨e,o2,a1,a2.trans hro.symm⟩
  ·intro t ht hr hs3 htg
   obtain ⟨c1,c2,c3⟩:=h5 t ht (hr.trans hro) ((sep_flip hv hk t).1 hs3) htg
   refine ⟨c1,fun j hj => ?_,fun c hc hrc hcb hp => ?_⟩
   ·by_cases e : j = k
    ·subst e
     exact h2.ov0 _ (List.mem_append_right _ List.mem_cons_self)
    ·exact c2 j ((sep_keep hv hk e t).1 hj)
   ·obtain ⟨g1,g2⟩:=hop_one hv hk ht hs3 hc hrc hcb hp
    by_cases e : c = o
    ·rw [e];exact h4
    ·exact c3 c hc (hrc.trans hro) e g2
  ·intro R hR hRl hRF hRv hRr hs3 hkn j hj
   rcases h6 R hR hRl hRF hRv (hRr.trans hro) ((sep_flip hv hk _).1 hs3) (fun c hc hrc hp => hkn c hc (hrc.trans hro.symm) (onp_out hv hk hs3 hp)) j hj with h|h
   ·rcases List.mem_append.1 h with h|h
    ·exact Or.inl h
    ·rw [List.mem_singleton.1 h]
     exact Or.inr hs3
   ·by_cases e : j = k
    ·rw [e];exact Or.inr hs3
    ·exact Or.inr ((sep_keep hv hk e _).2 h)
theorem flood_ok (nv : NV N cs hs vs F v rc) {f : Nat} (ih : ComeOK N cs hs vs F v rc f) {y : Int} {b : Nat} (hb : b < N) (hat : AtB N cs (hmN hs F) b y) (hmu : muN N cs b y ≤ f + 1) (l : List Int) :
  (∀ k ∈ l,k ∈ treeX (N : Int) cs) → l.Nodup → ∀ st : RN,InvT N cs hs vs st.T → szF st (wlN N cs b y l) →
  ∃ st',floodN cs (comeN cs (treeX (N : Int) cs) hs vs v F rc f) b y l st = some st' ∧ Base N cs hs vs F v rc (wlN N cs b y l) b st st' ∧ (∀ k ∈ l,∀ o,TJ N cs k b o → k ≠ y → ∀ t,t < N → gD (rootsL N cs) t = gD (rootsL N cs) b → Sep N cs k b t → Tgt hs vs v rc t → Concl N cs hs vs F v rc b t st'):=by
 have hv:=nv.cab
 induction l with
 | nil =>
  intro _ _ st hI _
  exact ⟨st,rfl,(Base.refl hI).wide (Nat.zero_le _),fun k hk => by cases hk⟩
 | cons k l ihl =>
  intro htr hnd st hI hsz
  have hnd2:=(List.nodup_cons.1 hnd).2
  have htr2 : ∀ k ∈ l,k ∈ treeX (N : Int) cs:=fun j hj => htr j (List.mem_cons_of_mem _ hj)
  rw [floodN]
  rcases oth_tj hv (htr k List.mem_cons_self) b with ⟨o,h1,h2⟩|⟨h1,h2⟩
  ·rw [h1]
   by_cases hky : k = y
   ·rw [if_neg (fun h => h.2 hky)]
    have hw:=wl_skip (N:=N) (cs:=cs) (k:=k) (y:=y) (b:=b) (l:=l)
    obtain ⟨st',g1,g2,g3⟩:=ihl htr2 hnd2 st hI ⟨by have:=hsz.1;omega,by have:=hsz.2.1;omega,by have:=hsz.2.2;omega⟩
    refine ⟨st',g1,g2.wide hw,fun j hj o2 hj2 hjy => ?_⟩
    rcases List.mem_cons.1 hj with e|hj
    ·exact absurd (e.trans hky) hjy
    ·exact g3 j hj o2 hj2 hjy
   ·rw [if_pos ⟨rfl,hky⟩]
    have hw:=wl_cons hv h2 hky hnd
    obtain ⟨st1,s1,s2,s3,_⟩:=send_ok nv ih h2 hky hat hmu hI ⟨by have:=hsz.1;omega,by have:=hsz.2.1;omega,by have:=hsz.2.2;omega⟩
    have l1:=s2.lo
    have l2:=s2.lt
    have l3:=s2.ln
    obtain ⟨st',g1,g2,g3⟩:=ihl htr2 hnd2 st1 s2.inv ⟨by have:=hsz.1;omega,by have:=hsz.2.1;omega,by have:=hsz.2.2;omega⟩
    rw [s1,Option.bind_some]
    refine ⟨st',g1,(s2.trans g2).wide hw,fun j hj o2 hj2 hjy t ht hr hs3 htg => ?_⟩
    rcases List.mem_cons.1 hj with e|hj
    ·subst e
     exact (s3 t ht hr hs3 htg).grow g2
    ·exact g3 j hj o2 hj2 hjy t ht hr hs3 htg
  ·rw [h1,if_neg (fun h => by cases h.1)]
   have hw:=wl_skip (N:=N) (cs:=cs) (k:=k) (y:=y) (b:=b) (l:=l)
   obtain ⟨st',g1,g2,g3⟩:=ihl htr2 hnd2 st hI ⟨by have:=hsz.1;omega,by have:=hsz.2.1;omega,by have:=hsz.2.2;omega⟩
   refine ⟨st',g1,g2.wide hw,fun j hj o2 hj2 hjy => ?_⟩
   rcases List.mem_cons.1 hj with e|hj
   ·rw [e] at hj2
    exact absurd hj2 (h2 o2)
   ·exact g3 j hj o2 hj2 hjy
theorem inv_put (nv : NV N cs hs vs F v rc) {T : TabN} (hI : InvT N cs hs vs T) {b : Nat} (hb : b < N) {y : Int} (hat : AtB N cs (hmN hs F) b y) : InvT N cs hs vs (putN T b v F y):=by
 intro b2 v2 s2 x h
 unfold putN at h
 by_cases hc : b2 = (b : Int) ∧ v2 = v ∧ s2 = (F : Int)
 ·rw [if_pos hc] at h
  obtain rfl:=Option.some.inj h
  exact ⟨b,F,hc.1,hc.2.2,hb,nv.hF,by rw [hc.2.1,nv.hv],hat.1,hat.2⟩
 ·rw [if_neg hc] at h
  exact hI b2 v2 s2 x h
theorem come_ok (nv : NV N cs hs vs F v rc) (f : Nat) : ComeOK N cs hs vs F v rc f:=by
  have hv:=nv.cab
  induction f with
  | zero =>
    intro b y st hb _ _ hmu
    have:=wL_len hv hb
    unfold muN at hmu
    split at hmu <;> omega
  | succ f ih =>
    intro b y st hb hI hat hmu hsz
    have hN8:=(cabsB_facts hv).2.1
    have hlh:=(netB_more nv.hn).2.1
    have hwm:=wt_max hv hb y
    have hI1:=inv_put nv hI hb hat
    have hw1:=wl_all hv hb y (treeX_len (N : Int) cs)
    have hT1F : putN st.T b v F y b v F = some y:=by unfold putN;rw [if_pos ⟨rfl,rfl,rfl⟩]
    have hold : ∀ x z s,st.T x z s ≠ none → putN st.T b v F y x z s ≠ none:=fun x z s h => by
      unfold putN
      split
      · exact fun h => by cases h
      · exact h
    have hoth : ∀ x z s,¬ (z = v ∧ s = (F : Int)) → putN st.T b v F y x z s = st.T x z s:=fun x z s h => by
      unfold putN
      rw [if_neg (fun h2 => h h2.2)]
    -- the store alone
    have hB0 : ∀ l : List Int,(∀ s,s ∈ l ↔ s ∈ st.took ∨ ∃ S : Nat,s = (S : Int) ∧ S < hs.length ∧ S ≠ F ∧ (rc = S ∨ rc = 15) ∧ rd vs S = v ∧ hmN hs S = b) → l.length ≤ st.took.length + 15 → Base N cs hs vs F v rc 1 b st { T:=putN st.T b v F y,took:=l,over:=st.over,n:=st.n + 1 }:=fun l hl hll =>
      ⟨by show st.over.length ≤ st.over.length + 1;omega,by show l.length ≤ _;omega,Nat.le_refl _,hI1,hold,hoth,fun _ h => h,fun _ h => Or.inl h,fun s h => (hl s).2 (Or.inl h),fun s h => ((hl s).1 h).imp id (fun ⟨S,a1,a2,a3,a4,a5,a6⟩ => ⟨S,a1,a2,a3,a4,a5,by rw [a6]⟩)⟩
    have self : ∀ st' : RN,st'.T = putN st.T b v F y → (∀ S : Nat,S < hs.length → hmN hs S = b → rd vs S = v → S ≠ F → (rc = S ∨ rc = 15) → (S : Int) ∈ st'.took) → Concl N cs hs vs F v rc b b st':=fun st' hT h => ⟨h,fun j hj => absurd hj (sep_self j b),fun c hc hr hne hp => by
      obtain ⟨k,o,h1,h2⟩:=sep_some hv hb hc hr.symm (fun e => hne e.symm)
      exact absurd ⟨h2,sep_symm h2⟩ (hp k)⟩
    rw [comeN,if_pos ⟨by have:=hsz.2.2;omega,by have:=hsz.2.1;omega,by omega,by omega⟩]
    cases hm : (if rc = 15 then none else putN st.T b v F y b v rc) with
    | some x =>
      have h15 : rc ≠ 15:=fun h => by rw [if_pos h] at hm;cases hm
      rw [if_neg h15] at hm
      obtain ⟨B,R,e1,e2,hB,hR,hvR,hrt,hx⟩:=hI1 _ _ _ _ hm
      obtain rfl : b = B:=by omega
      subst e2
      have hrR : ∀ t,Tgt hs vs v R t → t = hmN hs R:=fun t ht => by
        rcases ht with h | ⟨R2,h1,_,_,h4⟩
        · exact absurd h h15
        · have : R2 = R:=by omega
          rw [h4,this]
      simp only []
      by_cases hx1 : x = -1
      · have hbR : b = hmN hs R := by
          rcases hx with h | ⟨o,h,_⟩
          · exact h.2
          · have:=(tj_pos h).1
            omega
        rw [if_pos hx1]
        have hl : ∀ s,s ∈ takeN F R R st.took ↔ s ∈ st.took ∨ ∃ S : Nat,s = (S : Int) ∧ S < hs.length ∧ S ≠ F ∧ ((R : Int) = S ∨ (R : Int) = 15) ∧ rd vs S = v ∧ hmN hs S = b:=fun s => by
          rw [takeN_mem]
          refine or_congr Iff.rfl ⟨fun ⟨a1,a2,a3⟩ => ⟨R,a1,hR,by omega,Or.inl rfl,hvR.symm,hbR.symm⟩,fun ⟨S,a1,a2,a3,a4,a5,a6⟩ => ?_⟩
          have : S = R:=by
            rcases a4 with h | h
            · omega
            · exact absurd h h15
          subst this
          exact ⟨a1,by omega,Or.inl rfl⟩
        have hbase:=hB0 _ hl (by have:=takeN_len F R R st.took;omega)
        refine ⟨_,rfl,hbase.wide (by omega),by show st.over.length + 1 ≤ _;omega,(by show putN st.T b v F y b v F ≠ none;rw [hT1F];exact fun h => nomatch h),fun t ht hr hs3 htg => ?_,fun R2 _ _ _ _ _ _ _ j hj => Or.inl hj⟩
        rw [hrR t htg,← hbR]
        exact self _ rfl (fun S a1 a2 a3 a4 a5 => (hl S).2 (Or.inr ⟨S,rfl,a1,a4,a5,a3,a2⟩))
      · rw [if_neg hx1]
        obtain ⟨o,hk,hsx⟩ : ∃ o,TJ N cs x b o ∧ Sep N cs x b (hmN hs R):=by
          rcases hx with h | h
          · exact absurd h.1 hx1
          · exact h
        by_cases hxy : x = y
        · rw [if_pos hxy]
          have hbase:=hB0 st.took (fun s => ⟨Or.inl,fun h => h.elim id (fun ⟨S,a1,a2,a3,a4,a5,a6⟩ => by
            have : S = R:=by
              rcases a4 with h | h
              · omega
              · exact absurd h h15
            rw [this] at a6
            rw [a6] at hsx
            exact absurd hsx (sep_self _ _))⟩) (by omega)
          refine ⟨_,rfl,hbase.wide (by omega),by show st.over.length + 1 ≤ _;omega,(by show putN st.T b v F y b v F ≠ none;rw [hT1F];exact fun h => nomatch h),fun t ht hr hs3 htg => ?_,fun R2 _ _ _ _ _ _ _ j hj => Or.inl hj⟩
          rw [hrR t htg,← hxy] at hs3
          exact absurd hsx hs3
        · rw [if_neg hxy,if_pos (tj_pos hk)]
          have hw:=wl_cons hv hk hxy (l:=[]) (by simp)
          have hw2:=wl_all hv hb y (l:=[x]) (by simp)
          obtain ⟨st',s1,s2,s3,s4⟩:=send_ok nv ih hk hxy hat hmu (st:={ T:=putN st.T b v F y,took:=st.took,over:=st.over,n:=st.n + 1 }) hI1 ⟨by have:=hsz.1;show st.over.length + _ + 1 < _;omega,by have:=hsz.2.1;show st.took.length + _ < _;omega,by have:=hsz.2.2;show st.n + 1 + _ < _;omega⟩
          have hbase : Base N cs hs vs F v R 1 b st { T:=putN st.T b v F y,took:=st.took,over:=st.over,n:=st.n + 1 } :=
            ⟨by show st.over.length ≤ _;omega,by show st.took.length ≤ _;omega,Nat.le_refl _,hI1,hold,hoth,fun _ h => h,fun _ h => Or.inl h,fun _ h => h,fun _ h => Or.inl h⟩
          have lo:=s2.lo
          refine ⟨st',s1,(hbase.trans s2).wide (by omega),by have h : st'.over.length ≤ st.over.length + wtN N cs o x:=lo;omega,s2.old _ _ _ ((by show putN st.T b v F y b v F ≠ none;rw [hT1F];exact fun h => nomatch h)),fun t ht hr hs3 htg => ?_,fun R2 hR2 hR2l hR2F hR2v hR2r hs3 hkn j hj => ?_⟩
          · refine s3 t ht hr ?_ htg
            rw [hrR t htg]
            exact hsx
          · have e : R2 = R:=by omega
            subst e
            refine s4 R2 rfl hR2l hR2F hR2v hR2r hsx (fun c hc hrc hp => ?_) j hj
            show putN st.T b v F y c v R2 ≠ none
            rw [hoth _ _ _ (fun h => hR2F (by omega))]
            exact hkn c hc hrc hp
    | none =>
      simp only []
      obtain ⟨st2,g1,g2,g3⟩:=flood_ok nv ih hb hat hmu (treeX (N : Int) cs) (fun _ h => h) (tree_nodup hv) { T:=putN st.T b v F y,took:=st.took,over:=st.over,n:=st.n + 1 } hI1 ⟨by have:=hsz.1;show st.over.length + _ + 1 < _;omega,by have:=hsz.2.1;show st.took.length + _ < _;omega,by have:=hsz.2.2;show st.n + 1 + _ < _;omega⟩
      rw [g1,Option.bind_some]
      have l2:=g2.lt
      have l2' : st2.took.length ≤ st.took.length + 15 * wlN N cs b y (treeX (N : Int) cs):=l2
      unfold leaveN
      rw [if_pos (by have:=hsz.2.1;omega)]
      obtain ⟨m1,m2⟩:=stN_mem hs vs (b : Int) v (F : Int) rc hs.length 0 st2.took
      have hhm : ∀ S : Nat,S < hs.length → (rd hs S = (b : Int) ↔ hmN hs S = b):=fun S hS => by
        have:=(nv.home hS).1
        omega
      have hbase : Base N cs hs vs F v rc 1 b st { T:=putN st.T b v F y,took:=st.took,over:=st.over,n:=st.n + 1 } :=
        ⟨by show st.over.length ≤ _;omega,by show st.took.length ≤ _;omega,Nat.le_refl _,hI1,hold,hoth,fun _ h => h,fun _ h => Or.inl h,fun _ h => h,fun _ h => Or.inl h⟩
      have hb2:=hbase.trans g2
      have lo:=g2.lo
      have lo' : st2.over.length ≤ st.over.length + wlN N cs b y (treeX (N : Int) cs):=lo
      have ln':=hb2.ln
      have hfin : Base N cs hs vs F v rc (wtN N cs b y) b st { st2 with took:=stN hs vs b v F rc hs.length 0 st2.took } :=
        ⟨by show st2.over.length ≤ _;omega,by show (stN hs vs b v F rc hs.length 0 st2.took).length ≤ _;have : (stN hs vs b v F rc hs.length ((0 : Nat) : Int) st2.took).length ≤ st2.took.length + hs.length:=m2;have e : ((0 : Nat) : Int) = 0:=rfl;rw [e] at this;omega,by show st2.n ≤ _;omega,hb2.inv,hb2.old,hb2.oth,hb2.ov0,hb2.ov1,fun s h => (m1 s).2 (Or.inl (hb2.tk0 s h)),fun s h => by
          rcases (m1 s).1 h with h | ⟨S,a1,a2,a3,a4,a5,a6,a7⟩
          · exact hb2.tk1 s h
          · exact Or.inr ⟨S,a3,by omega,by omega,a7,a5,by rw [(hhm S (by omega)).1 a4]⟩⟩
      have hTF : st2.T b v F ≠ none:=g2.old _ _ _ ((by show putN st.T b v F y b v F ≠ none;rw [hT1F];exact fun h => nomatch h))
      refine ⟨_,rfl,hfin,by show st2.over.length + 1 ≤ _;omega,hTF,fun t ht hr hs3 htg => ?_,fun R hR hRl hRF hRv hRr hs3 hkn j hj => ?_⟩
      · by_cases htb : t = b
        · subst htb
          refine ⟨fun S a1 a2 a3 a4 a5 => (m1 S).2 (Or.inr ⟨S,Nat.zero_le _,by omega,rfl,(hhm S a1).2 a2,a3,by omega,a5⟩),fun j hj => absurd hj (sep_self j t),fun c hc hrc hne hp => ?_⟩
          obtain ⟨k,o,h1,h2⟩:=sep_some hv hb hc hrc.symm (fun e => hne e.symm)
          exact absurd ⟨h2,sep_symm h2⟩ (hp k)
        · obtain ⟨k,o,h1,h2⟩:=sep_some hv hb ht hr.symm (fun e => htb e.symm)
          have hky : k ≠ y:=fun e => hs3 (e ▸ h2)
          obtain ⟨c1,c2,c3⟩:=g3 k (tj_tree hv h1) o h1 hky t ht hr h2 htg
          exact ⟨fun S a1 a2 a3 a4 a5 => (m1 S).2 (Or.inl (c1 S a1 a2 a3 a4 a5)),c2,c3⟩
      · have h1:=hkn b hb rfl (fun j h => sep_self _ _ h.1)
        have h15 : rc ≠ 15:=by omega
        rw [if_neg h15,hR,hoth _ _ _ (fun h => hRF (by omega))] at hm
        exact absurd hm h1
end
def encY (y : Int) : Int:=if y = -1 then -2 else y
def encO : Option Int → Int
 | none => -1
 | some x => encY x
def MkOf (m : List Bool) (n : Nat) (l : List Int) : Prop:=m.length = n ∧ ∀ i : Nat,i < n → (rdOf false m (i : Int) = true ↔ (i : Int) ∈ l)
structure Sim (N : Nat) (cs : List S83) (hs : List Int) (st : RN) (ss : SN) : Prop where
 tl : ss.tabs.length = N * 150
 tb : ∀ b v s : Nat,b < N → v ≤ 9 → s < 15 → rd ss.tabs (atS b v s) = encO (st.T b v s)
 tk : MkOf ss.took hs.length st.took
 ov : MkOf ss.over cs.length st.over
theorem rdB_nat (m : List Bool) (i : Nat) : rdOf false m (i : Int) = m.getD i false:=by simp [rdOf]
theorem mk_set {m : List Bool} {n : Nat} {l l2 : List Int} (h : MkOf m n l) (K : Nat) (h2 : ∀ i : Nat,i < n → ((i : Int) ∈ l2 ↔ (i : Int) ∈ l ∨ i = K)) : MkOf (m.set K true) n l2:=by
 refine ⟨by rw [List.length_set];exact h.1,fun i hi => ?_⟩
 have h3:=h.2 i hi
 rw [rdB_nat] at h3 ⊢
 rw [h2 i hi,← h3,List.getD_eq_getElem?_getD,List.getD_eq_getElem?_getD,List.getElem?_set]
 by_cases e : K = i
 ·subst e
  rw [if_pos rfl,if_pos (by rw [h.1];exact hi)]
  simp
 ·rw [if_neg e]
  exact ⟨Or.inl,fun h4 => h4.elim id (fun h5 => absurd h5.symm e)⟩
theorem mk_same {m : List Bool} {n : Nat} {l l2 : List Int} (h : MkOf m n l) (h2 : ∀ i : Nat,i < n → ((i : Int) ∈ l2 ↔ (i : Int) ∈ l)) : MkOf m n l2:=⟨h.1,fun i hi => (h.2 i hi).trans (h2 i hi).symm⟩
theorem give_mk (hs vs : List Int) (b v fr rc only : Int) (n d : Nat) : ∀ (i : Nat) (m : List Bool) (l l2 : List Int), i + d = n → MkOf m n l →
  (∀ s : Nat,s < n → ((s : Int) ∈ l2 ↔ (s : Int) ∈ l ∨ (i ≤ s ∧ rd hs s = b ∧ rd vs s = v ∧ (s : Int) ≠ fr ∧ (0 ≤ only → (s : Int) = only) ∧ (rc = s ∨ rc = 15)))) → MkOf (giveS hs vs b v fr rc only d (i : Int) m) n l2:=by
 induction d with
 | zero =>
  intro i m l l2 hd hm h
  rw [giveS]
  exact mk_same hm (fun s hs' => (h s hs').trans ⟨fun h2 => h2.elim id (fun h3 => by omega),Or.inl⟩)
 | succ d ih =>
  intro i m l l2 hd hm h
  rw [giveS,show (i : Int) + 1 = ((i + 1 : Nat) : Int) from by omega]
  by_cases c : rd hs (i : Int) ≠ b ∨ rd vs (i : Int) ≠ v ∨ (i : Int) = fr ∨ (0 ≤ only ∧ (i : Int) ≠ only)
  ·rw [if_pos c]
   refine ih (i + 1) m l l2 (by omega) hm (fun s hs' => (h s hs').trans (or_congr Iff.rfl ⟨fun ⟨a1,a2,a3,a4,a5,a6⟩ => ?_,fun ⟨a1,a2⟩ => ⟨by omega,a2⟩⟩))
   by_cases e : s = i
   ·subst e
    rcases c with c|c|c|⟨c,c2⟩
    ·exact absurd a2 c
    ·exact absurd a3 c
    ·exact absurd c a4
    ·exact absurd (a5 c) c2
   ·exact ⟨by omega,a2,a3,a4,a5,a6⟩
  ·rw [if_neg c]
   have c1 : rd hs (i : Int) = b:=Classical.byContradiction (fun h => c (Or.inl h))
   have c2 : rd vs (i : Int) = v:=Classical.byContradiction (fun h => c (Or.inr (Or.inl h)))
   have c3 : (i : Int) ≠ fr:=fun h => c (Or.inr (Or.inr (Or.inl h)))
   have c4 : 0 ≤ only → (i : Int) = only:=fun h0 => Classical.byContradiction (fun h => c (Or.inr (Or.inr (Or.inr ⟨h0,h⟩))))
   by_cases cr : rc = (i : Int) ∨ rc = 15
   ·rw [if_pos cr,Int.toNat_natCast]
    refine ih (i + 1) (m.set i true) ((i : Int) :: l) l2 (by omega) (mk_set hm i (fun s _ => by rw [List.mem_cons];exact ⟨fun h => h.elim (fun e => Or.inr (by omega)) Or.inl,fun h => h.elim Or.inr (fun e => Or.inl (by omega))⟩)) (fun s hs' => (h s hs').trans ⟨fun h2 => ?_,fun h2 => ?_⟩)
    ·rcases h2 with h2|⟨a1,a2⟩
     ·exact Or.inl (List.mem_cons_of_mem _ h2)
     ·by_cases e : s = i
      ·rw [e];exact Or.inl List.mem_cons_self
      ·exact Or.inr ⟨by omega,a2⟩
    ·rcases h2 with h2|⟨a1,a2⟩
     ·rcases List.mem_cons.1 h2 with e|h2
      ·have : s = i:=by omega
       subst this
       exact Or.inr ⟨Nat.le_refl _,c1,c2,c3,c4,cr⟩
      ·exact Or.inl h2
     ·exact Or.inr ⟨by omega,a2⟩
   ·rw [if_neg cr]
    refine ih (i + 1) m l l2 (by omega) hm (fun s hs' => (h s hs').trans (or_congr Iff.rfl ⟨fun ⟨a1,a2,a3,a4,a5,a6⟩ => ?_,fun ⟨a1,a2⟩ => ⟨by omega,a2⟩⟩))
    by_cases e : s = i
    ·subst e
     exact absurd a6 cr
    ·exact ⟨by omega,a2,a3,a4,a5,a6⟩
theorem rd_set (T : List Int) (i : Nat) (x : Int) (j : Nat) (hi : i < T.length) : rd (T.set i x) (j : Int) = if j = i then x else rd T (j : Int):=by
 simp only [rd,rdOf,Int.toNat_natCast,List.getD_eq_getElem?_getD,List.getElem?_set]
 by_cases e : i = j
 ·subst e
  simp [hi]
 ·rw [if_neg e,if_neg (fun h => e h.symm)]
section
variable {N : Nat} {cs : List S83} {hs vs : List Int} {F : Nat} {v rc : Int}
theorem sim_put (nv : NV N cs hs vs F v rc) {st : RN} {ss : SN} (h : Sim N cs hs st ss) {b : Nat} (hb : b < N) (y : Int) (m : Nat) : Sim N cs hs { st with T:=putN st.T b v F y,n:=m } { ss with tabs:=ss.tabs.set (atS b v F).toNat (encY y) }:=by
 obtain ⟨_,n2,n3,_,n5⟩:=netB_more nv.hn
 have hvF:=n5 F nv.hF
 rw [nv.hv] at hvF
 obtain ⟨V,rfl⟩ : ∃ V : Nat,v = (V : Int):=⟨v.toNat,by omega⟩
 have hF:=nv.hF
 refine ⟨by show (ss.tabs.set _ _).length = _;rw [List.length_set];exact h.tl,fun b2 v2 s2 hb2 hv2 hs2 => ?_,h.tk,h.ov⟩
 show rd (ss.tabs.set (atS b V F).toNat (encY y)) (atS b2 v2 s2) = encO (putN st.T b V F y b2 v2 s2)
 have e1 : (atS b V F).toNat = (b * 10 + V) * 15 + F:=by unfold atS;omega
 have e2 : atS (b2 : Int) v2 s2 = (((b2 * 10 + v2) * 15 + s2 : Nat) : Int):=by unfold atS;omega
 have hlen:=h.tl
 rw [e1,e2,rd_set _ _ _ _ (by omega)]
 unfold putN
 by_cases c : (b2 * 10 + v2) * 15 + s2 = (b * 10 + V) * 15 + F
 ·rw [if_pos c,if_pos ⟨by omega,by omega,by omega⟩]
  rfl
 ·rw [if_neg c,if_neg (fun h => c (by omega)),← e2]
  exact h.tb b2 v2 s2 hb2 hv2 hs2
theorem in_tabs (nv : NV N cs hs vs F v rc) {T : List Int} (hl : T.length = N * 150) {b : Nat} (hb : b < N) {s : Int} (h0 : 0 ≤ s) (h1 : s < 15) : inS T b v s:=by
 obtain ⟨_,n2,n3,_,n5⟩:=netB_more nv.hn
 have hvF:=n5 F nv.hF
 rw [nv.hv] at hvF
 have hN8:=(cabsB_facts nv.cab).2.1
 unfold inS atS
 exact ⟨by omega,by omega,by omega,by omega,by omega,by omega,by omega⟩
theorem kn_eq (nv : NV N cs hs vs F v rc) {st : RN} {ss : SN} (h : Sim N cs hs st ss) {b : Nat} (hb : b < N) : knS ss.tabs b v rc = encO (if rc = 15 then none else st.T b v rc):=by
 obtain ⟨_,n2,n3,_,n5⟩:=netB_more nv.hn
 have hvF:=n5 F nv.hF
 rw [nv.hv] at hvF
 unfold knS
 by_cases c : rc = 15
 ·rw [if_neg (by omega),if_pos c]
  rfl
 ·have hr : 0 ≤ rc ∧ rc < hs.length:=nv.hr.resolve_right c
  rw [if_pos (by omega),if_neg c]
  obtain ⟨V,hV⟩ : ∃ V : Nat,v = (V : Int):=⟨v.toNat,by omega⟩
  obtain ⟨R,hR⟩ : ∃ R : Nat,rc = (R : Int):=⟨rc.toNat,by omega⟩
  rw [hV,hR]
  exact h.tb b V R hb (by omega) (by omega)
theorem at_next (nv : NV N cs hs vs F v rc) {k y : Int} {b o : Nat} (hk : TJ N cs k b o) (hne : k ≠ y) (hat : AtB N cs (hmN hs F) b y) : AtB N cs (hmN hs F) o k:=by
 have hv:=nv.cab
 refine ⟨(hk.root hv).symm.trans hat.1,Or.inr ⟨b,hk.symm,Classical.byContradiction (fun h => ?_)⟩⟩
 have h1:=(sep_flip hv hk (hmN hs F)).2 h
 rcases hat.2 with ⟨_,e⟩|⟨o2,h2,h3⟩
 ·rw [e] at h1
  exact sep_self _ _ h1
 ·exact hne (sep_one hv (nv.home nv.hF).2 hk h2 h1 h3)
def SimOK (N : Nat) (cs : List S83) (hs vs : List Int) (F : Nat) (v rc : Int) (f : Nat) : Prop :=
 ∀ (b : Nat) (y : Int) (st st' : RN) (ss : SN),b < N → InvT N cs hs vs st.T → AtB N cs (hmN hs F) b y → comeN cs (treeX (N : Int) cs) hs vs v F rc f b y st = some st' → Sim N cs hs st ss →
  ∃ ss',comeS cs (treeX (N : Int) cs) hs vs v F rc f b (encY y) ss = some ss' ∧ Sim N cs hs st' ss' ∧ InvT N cs hs vs st'.T
theorem sim_send (nv : NV N cs hs vs F v rc) {f : Nat} (ih : SimOK N cs hs vs F v rc f) {k y : Int} {b o : Nat} (hk : TJ N cs k b o) (hne : k ≠ y) (hat : AtB N cs (hmN hs F) b y) {st st' : RN} {ss : SN} (hI : InvT N cs hs vs st.T) (h : sendN cs (comeN cs (treeX (N : Int) cs) hs vs v F rc f) b k st = some st') (hS : Sim N cs hs st ss) :
  ∃ ss',comeS cs (treeX (N : Int) cs) hs vs v F rc f o k { ss with over:=ss.over.set k.toNat true } = some ss' ∧ Sim N cs hs st' ss' ∧ InvT N cs hs vs st'.T:=by
 have hv:=nv.cab
 obtain ⟨p1,p2⟩:=tj_pos hk
 obtain ⟨K,rfl⟩ : ∃ K : Nat,k = (K : Int):=⟨k.toNat,by omega⟩
 unfold sendN at h
 split at h
 ·rw [tj_oth hv hk] at h
  have hS2 : Sim N cs hs { st with over:=st.over ++ [(K : Int)] } { ss with over:=ss.over.set (K : Int).toNat true }:=by
   refine ⟨hS.tl,hS.tb,hS.tk,?_⟩
   rw [Int.toNat_natCast]
   exact mk_set hS.ov K (fun i _ => by
    show (i : Int) ∈ st.over ++ [(K : Int)] ↔ _
    rw [List.mem_append,List.mem_singleton]
    exact or_congr Iff.rfl ⟨fun h => by omega,fun h => by omega⟩)
  have hek : encY (K : Int) = (K : Int):=by unfold encY;rw [if_neg (by omega)]
  obtain ⟨ss',h1,h2,h3⟩:=ih o K { st with over:=st.over ++ [(K : Int)] } st' _ (hk.lt hv).2 hI (at_next nv hk hne hat) h hS2
  rw [hek] at h1
  exact ⟨ss',h1,h2,h3⟩
 ·cases h
theorem enc_ne {k y : Int} (hk : 0 ≤ k) : k = encY y ↔ k = y:=by
 unfold encY
 split
 ·omega
 ·exact Iff.rfl
theorem sim_flood (nv : NV N cs hs vs F v rc) {f : Nat} (ih : SimOK N cs hs vs F v rc f) {y : Int} {b : Nat} (hat : AtB N cs (hmN hs F) b y) (l : List Int) :
  (∀ k ∈ l,k ∈ treeX (N : Int) cs) → ∀ (st st' : RN) (ss : SN),InvT N cs hs vs st.T → floodN cs (comeN cs (treeX (N : Int) cs) hs vs v F rc f) b y l st = some st' → Sim N cs hs st ss →
  ∃ ss',floodS cs (comeS cs (treeX (N : Int) cs) hs vs v F rc f) b (encY y) (-1) l ss = some ss' ∧ Sim N cs hs st' ss' ∧ InvT N cs hs vs st'.T:=by
 have hv:=nv.cab
 induction l with
 | nil =>
  intro _ st st' ss hI h hS
  obtain rfl:=Option.some.inj h
  exact ⟨ss,rfl,hS,hI⟩
 | cons k l ihl =>
  intro htr st st' ss hI h hS
  have htr2 : ∀ k ∈ l,k ∈ treeX (N : Int) cs:=fun j hj => htr j (List.mem_cons_of_mem _ hj)
  have hkp:=treeX_in (htr k List.mem_cons_self)
  rw [floodN] at h
  rw [floodS]
  rcases oth_tj hv (htr k List.mem_cons_self) b with ⟨o,h1,h2⟩|⟨h1,h2⟩
  ·rw [h1] at h ⊢
   by_cases hky : k = y
   ·rw [if_neg (fun h => h.2 hky)] at h
    rw [if_pos (Or.inr (Or.inl ((enc_ne hkp.1).2 hky)))]
    exact ihl htr2 st st' ss hI h hS
   ·rw [if_pos ⟨rfl,hky⟩] at h
    obtain ⟨st1,s1,s2⟩:=Option.bind_eq_some_iff.1 h
    obtain ⟨ss1,g1,g2,g3⟩:=sim_send nv ih h2 hky hat hI s1 hS
    rw [if_neg (fun h => h.elim (fun h => by simp at h;omega) (fun h => h.elim (fun h => hky ((enc_ne hkp.1).1 h)) (fun h => by omega)))]
    have g1' : comeS cs (treeX (N : Int) cs) hs vs v F rc f ((some (o : Int)).getD (-1)) k { ss with over:=ss.over.set k.toNat true } = some ss1:=g1
    rw [g1',Option.bind_some]
    exact ihl htr2 st1 st' ss1 g3 s2 g2
  ·rw [h1] at h ⊢
   rw [if_neg (fun h => by cases h.1)] at h
   rw [if_pos (Or.inl (by decide))]
   exact ihl htr2 st st' ss hI h hS
theorem flood_one {go : Int → Int → SN → Option SN} {b y x : Int} (hx : 0 ≤ x) (l : List Int) : l.Nodup → ∀ ss : SN,floodS cs go b y x l ss = if x ∈ l ∧ ¬ ((othX (rd_T83 cs x) b).getD (-1) < 0 ∨ x = y) then go ((othX (rd_T83 cs x) b).getD (-1)) x { ss with over:=ss.over.set x.toNat true } else some ss:=by
 induction l with
 | nil => intro _ ss;rw [floodS,if_neg (fun h => by cases h.1)]
 | cons k l ihl =>
  intro hnd ss
  obtain ⟨n1,n2⟩:=List.nodup_cons.1 hnd
  rw [floodS]
  by_cases hk : k = x
  ·subst hk
   have hrest : ∀ ss : SN,floodS cs go b y k l ss = some ss:=fun ss => by rw [ihl n2,if_neg (fun h => n1 h.1)]
   by_cases c : (othX (rd_T83 cs k) b).getD (-1) < 0 ∨ k = y
   ·rw [if_pos (c.elim Or.inl (fun h => Or.inr (Or.inl h))),if_neg (fun h => h.2 c)]
    exact hrest ss
   ·rw [if_neg (fun h => c (h.elim Or.inl (fun h => h.elim Or.inr (fun h => absurd rfl h.2)))),if_pos ⟨List.mem_cons_self,c⟩]
    rw [show floodS cs go b y k l = fun ss => some ss from funext hrest]
    cases go ((othX (rd_T83 cs k) b).getD (-1)) k { ss with over:=ss.over.set k.toNat true } <;> rfl
  ·rw [if_pos (Or.inr (Or.inr ⟨hx,hk⟩)),ihl n2]
   have : (x ∈ k :: l ↔ x ∈ l):=by rw [List.mem_cons];exact ⟨fun h => h.resolve_left (fun e => hk e.symm),Or.inr⟩
   simp only [this]
theorem sim_come (nv : NV N cs hs vs F v rc) (f : Nat) : SimOK N cs hs vs F v rc f:=by
  have hv:=nv.cab
  induction f with
  | zero => intro b y st st' ss _ _ _ h;cases h
  | succ f ih =>
    intro b y st st' ss hb hI hat h hS
    obtain ⟨m1,m2,m3,n5⟩:=netB_more nv.hn
    have hI1:=inv_put nv hI hb hat
    have hS1:=sim_put nv hS hb y (st.n + 1)
    have hkn:=kn_eq nv hS1 hb
    have hkn2 : knS (ss.tabs.set (atS b v F).toNat (encY y)) b v rc = encO (if rc = 15 then none else putN st.T b v F y b v rc):=hkn
    obtain ⟨hp1,hp2,hp3,hp4⟩:=comeN_pos h
    unfold comeN at h
    rw [if_pos ⟨hp1,hp2,hp3,hp4⟩] at h
    unfold comeS
    have hin : inS ss.tabs b v F ∧ inS ss.tabs b v (if rc < 15 then rc else 0):=by
      have hF:=nv.hF
      refine ⟨in_tabs nv hS.tl hb (by omega) (by omega),?_⟩
      split
      · rename_i h15
        rcases nv.hr with hr | hr
        · exact in_tabs nv hS.tl hb hr.1 (by omega)
        · omega
      · exact in_tabs nv hS.tl hb (by omega) (by omega)
    rw [if_pos hin,hkn2]
    cases hm : (if rc = 15 then none else putN st.T b v F y b v rc) with
    | some x =>
      rw [hm] at h
      simp only [] at h
      have h15 : rc ≠ 15:=fun h => by rw [if_pos h] at hm;cases hm
      rw [if_neg h15] at hm
      obtain ⟨B,R,e1,e2,hB,hR,hvR,hrt,hx⟩:=hI1 _ _ _ _ hm
      obtain rfl : b = B:=by omega
      subst e2
      by_cases hx1 : x = -1
      · have hbR : b = hmN hs R := by
          rcases hx with h | ⟨o,h,_⟩
          · exact h.2
          · have:=(tj_pos h).1
            omega
        rw [if_pos hx1] at h
        obtain rfl:=Option.some.inj h
        have hen : encO (some x) = -2:=by show encY x = -2;unfold encY;rw [if_pos hx1]
        rw [hen,if_pos rfl]
        refine ⟨_,rfl,⟨hS1.tl,hS1.tb,?_,hS1.ov⟩,hI1⟩
        refine give_mk hs vs b v F R R hs.length hs.length 0 ss.took st.took _ (by omega) hS.tk (fun s hsl => ?_)
        show (s : Int) ∈ takeN F R R st.took ↔ _
        rw [takeN_mem]
        refine or_congr Iff.rfl ⟨fun ⟨a1,a2,a3⟩ => ?_,fun ⟨a1,a2,a3,a4,a5,a6⟩ => ⟨a5 (by omega),by have:=a5 (by omega);omega,Or.inl rfl⟩⟩
        have e : s = R:=by omega
        subst e
        exact ⟨Nat.zero_le _,by rw [(nv.home hR).1,hbR],hvR.symm,by omega,fun _ => rfl,Or.inl rfl⟩
      · rw [if_neg hx1] at h
        obtain ⟨o,hk,hsx⟩ : ∃ o,TJ N cs x b o ∧ Sep N cs x b (hmN hs R):=by
          rcases hx with h | h
          · exact absurd h.1 hx1
          · exact h
        obtain ⟨x0,xl⟩:=tj_pos hk
        have hen : encO (some x) = x:=by show encY x = x;unfold encY;rw [if_neg hx1]
        rw [hen,if_neg (by omega),flood_one x0 _ (tree_nodup hv)]
        by_cases hxy : x = y
        · rw [if_pos hxy] at h
          obtain rfl:=Option.some.inj h
          rw [if_neg (fun h => h.2 (Or.inr ((enc_ne x0).2 hxy))),Option.bind_some,if_neg (by omega)]
          exact ⟨_,rfl,hS1,hI1⟩
        · rw [if_neg hxy,if_pos ⟨x0,xl⟩] at h
          obtain ⟨ss1,g1,g2,g3⟩:=sim_send nv ih hk hxy hat (st:={ st with T:=putN st.T b v F y,n:=st.n + 1 }) hI1 h hS1
          have g1' : comeS cs (treeX (N : Int) cs) hs vs v F R f ((some (o : Int)).getD (-1)) x { tabs:=ss.tabs.set (atS b v F).toNat (encY y),took:=ss.took,over:=ss.over.set x.toNat true } = some ss1:=g1
          rw [tj_oth hv hk,if_pos ⟨tj_tree hv hk,fun h => h.elim (fun h => by simp at h;omega) (fun h => hxy ((enc_ne x0).1 h))⟩,g1',Option.bind_some,if_neg (by omega)]
          exact ⟨ss1,rfl,g2,g3⟩
    | none =>
      rw [hm] at h
      simp only [] at h
      have hen : encO none = -1:=rfl
      rw [hen,if_neg (by decide)]
      obtain ⟨st2,s1,s2⟩:=Option.bind_eq_some_iff.1 h
      obtain ⟨ss2,g1,g2,g3⟩:=sim_flood nv ih hat (treeX (N : Int) cs) (fun _ h => h) _ _ _ hI1 s1 hS1
      have g1' : floodS cs (comeS cs (treeX (N : Int) cs) hs vs v F rc f) b (encY y) (-1) (treeX (N : Int) cs) { tabs:=ss.tabs.set (atS b v F).toNat (encY y),took:=ss.took,over:=ss.over } = some ss2:=g1
      rw [g1',Option.bind_some,if_pos (by decide)]
      unfold leaveN at s2
      split at s2
      · obtain rfl:=Option.some.inj s2
        refine ⟨_,rfl,⟨g2.tl,g2.tb,?_,g2.ov⟩,g3⟩
        refine give_mk hs vs b v F rc (-1) hs.length hs.length 0 ss2.took st2.took _ (by omega) g2.tk (fun s hsl => ?_)
        refine ((stN_mem hs vs (b : Int) v (F : Int) rc hs.length 0 st2.took).1 s).trans (or_congr Iff.rfl ⟨fun ⟨S,a1,a2,a3,a4,a5,a6,a7⟩ => ?_,fun ⟨a1,a2,a3,a4,a5,a6⟩ => ⟨s,a1,by omega,rfl,a2,a3,a4,a6⟩⟩)
        have e : s = S:=by omega
        subst e
        exact ⟨a1,a4,a5,a6,fun h => by omega,a7⟩
      · cases s2
end
theorem asc_uniq : ∀ {a b : List Int},a.Pairwise (· < ·) → b.Pairwise (· < ·) → (∀ x,x ∈ a ↔ x ∈ b) → a = b
 | [],[],_,_,_ => rfl
 | [],y :: b,_,_,h => absurd ((h y).2 List.mem_cons_self) (by simp)
 | x :: a,[],_,_,h => absurd ((h x).1 List.mem_cons_self) (by simp)
 | x :: a,y :: b,ha,hb,h => by
  rw [List.pairwise_cons] at ha hb
  have hx:=(h x).1 List.mem_cons_self
  have hy:=(h y).2 List.mem_cons_self
  rw [List.mem_cons] at hx hy
  obtain rfl : x = y:=by
   rcases hx with e|hx
   ·exact e
   ·rcases hy with e|hy
    ·exact e.symm
    ·have h1:=ha.1 y hy
     have h2:=hb.1 x hx
     omega
  congr 1
  refine asc_uniq ha.2 hb.2 (fun z => ⟨fun hz => ?_,fun hz => ?_⟩)
  ·rcases List.mem_cons.1 ((h z).1 (List.mem_cons_of_mem _ hz)) with e|e
   ·have:=ha.1 z hz;omega
   ·exact e
  ·rcases List.mem_cons.1 ((h z).2 (List.mem_cons_of_mem _ hz)) with e|e
   ·have:=hb.1 z hz;omega
   ·exact e
theorem compact_upto (d : Array Int) (hs : ∀ i j,i ≤ j → j < d.size → d[i]! ≤ d[j]!) (m : Nat) : m ≤ d.size → (Lib.compactUpTo d m).Pairwise (· < ·) ∧ ∀ x,x ∈ Lib.compactUpTo d m ↔ ∃ j,j < m ∧ d[j]! = x:=by
 induction m with
 | zero => exact fun _ => ⟨List.Pairwise.nil,fun x => ⟨fun h => absurd h (by simp [Lib.compactUpTo]),fun ⟨j,hj,_⟩ => by omega⟩⟩
 | succ m ih =>
  intro hm
  obtain ⟨h1,h2⟩:=ih (by omega)
  rw [Lib.compactUpTo_succ]
  by_cases hk : m = 0 ∨ d[m]! ≠ d[m - 1]!
  ·have hk2 : Lib.keeps d m = true:=by unfold Lib.keeps;exact decide_eq_true hk
   rw [hk2,if_pos rfl]
   refine ⟨List.pairwise_append.2 ⟨h1,List.pairwise_singleton _ _,fun a ha b hb => ?_⟩,fun x => ?_⟩
   ·obtain rfl:=List.mem_singleton.1 hb
    obtain ⟨j,hj,rfl⟩:=(h2 a).1 ha
    have a1:=hs j (m - 1) (by omega) (by omega)
    have a2:=hs (m - 1) m (by omega) (by omega)
    have a3:=hk.resolve_left (by omega)
    omega
   ·rw [List.mem_append,List.mem_singleton,h2]
    exact ⟨fun h => h.elim (fun ⟨j,hj,e⟩ => ⟨j,by omega,e⟩) (fun e => ⟨m,by omega,e.symm⟩),fun ⟨j,hj,e⟩ => by
     by_cases e2 : j = m
     ·subst e2;exact Or.inr e.symm
     ·exact Or.inl ⟨j,by omega,e⟩⟩
  ·have hk2 : Lib.keeps d m = false:=by unfold Lib.keeps;exact decide_eq_false hk
   rw [hk2,if_neg (by decide),List.append_nil]
   refine ⟨h1,fun x => (h2 x).trans ⟨fun ⟨j,hj,e⟩ => ⟨j,by omega,e⟩,fun ⟨j,hj,e⟩ => ?_⟩⟩
   by_cases e2 : j = m
   ·subst e2
    refine ⟨j - 1,by omega,?_⟩
    have : d[j]! = d[j - 1]!:=Classical.not_not.1 (fun h => hk (Or.inr h))
    rw [← this];exact e
   ·exact ⟨j,by omega,e⟩
theorem once_asc (l : List Int) : (onceL l).Pairwise (· < ·) ∧ ∀ x,x ∈ onceL l ↔ x ∈ l:=by
 have hp : (l.mergeSort fun x y => decide (x ≤ y)).Perm l:=List.mergeSort_perm _ _
 have ho : (l.mergeSort fun x y => decide (x ≤ y)).Pairwise (fun x y => decide (x ≤ y) = true):=List.pairwise_mergeSort (fun a b c h1 h2 => by simp only [decide_eq_true_eq] at *;omega) (fun a b => by simp only [Bool.or_eq_true,decide_eq_true_eq];omega) l
 unfold onceL Lib.compact
 revert hp ho
 generalize (l.mergeSort fun x y => decide (x ≤ y)) = s
 intro hp ho
 rw [List.pairwise_iff_getElem] at ho
 have hg : ∀ i,(h : i < s.length) → s.toArray[i]! = s[i]:=fun i h => by simp [h]
 obtain ⟨h1,h2⟩:=compact_upto s.toArray (fun i j hij hj => by
  have hj2 : j < s.length:=by simpa using hj
  rw [hg i (by omega),hg j hj2]
  rcases Nat.lt_or_ge i j with h|h
  ·exact od_ (ho i j (by omega) hj2 h)
  ·obtain rfl : i = j:=by omega
   exact Int.le_refl _) s.length (by simp)
 refine ⟨h1,fun x => (h2 x).trans ?_⟩
 rw [← hp.mem_iff,List.mem_iff_getElem]
 exact ⟨fun ⟨j,hj,e⟩ => ⟨j,hj,by rw [← hg j hj];exact e⟩,fun ⟨j,hj,e⟩ => ⟨j,hj,by rw [hg j hj];exact e⟩⟩
theorem rep_false (n i : Nat) : (List.replicate n false).getD i false = false:=by
 rw [List.getD_eq_getElem?_getD,List.getElem?_replicate]
 split <;> rfl
theorem lst_once {m : List Bool} {n : Nat} {l : List Int} (h : MkOf m n l) (hl : ∀ x ∈ l,0 ≤ x ∧ x < n) : lstS m = onceL l:=by
 obtain ⟨h1,h2⟩:=once_asc l
 unfold lstS
 refine asc_uniq (filM_asc _ _ _) h1 (fun x => (filM_mem0 _ _ _).trans (Iff.trans ?_ (h2 x).symm))
 rw [h.1]
 constructor
 ·rintro ⟨a1,a2,a3⟩
  obtain ⟨i,rfl⟩:=Int.eq_ofNat_of_zero_le a1
  exact (h.2 i (by omega)).1 a3
 ·intro hx
  obtain ⟨a1,a2⟩:=hl x hx
  obtain ⟨i,rfl⟩:=Int.eq_ofNat_of_zero_le a1
  exact ⟨a1,a2,(h.2 i (by omega)).2 hx⟩
def LrnOK (N : Nat) (cs : List S83) (hs vs : List Int) (h : S37) (T : TabN) : Prop :=
 ∀ F : Nat,h.f0 = (F : Int) → ∀ c,c < N → gD (rootsL N cs) c = gD (rootsL N cs) (hmN hs F) →
  (h.f1 = 15 ∨ ∃ R : Nat,h.f1 = (R : Int) ∧ R < hs.length ∧ rd vs R = rd vs F ∧ gD (rootsL N cs) (hmN hs R) = gD (rootsL N cs) (hmN hs F) ∧ OnP N cs (hmN hs F) c (hmN hs R)) → T c (rd vs F) F ≠ none
structure FrameOK (N : Nat) (cs : List S83) (hs vs : List Int) (h : S37) (F : Nat) (T : TabN) (ts os : List Int) : Prop where
 tka : ts.Pairwise (· < ·)
 ova : os.Pairwise (· < ·)
 tk : ∀ s,s ∈ ts ↔ ∃ S : Nat,s = (S : Int) ∧ S < hs.length ∧ S ≠ F ∧ (h.f1 = S ∨ h.f1 = 15) ∧ rd vs S = rd vs F ∧ gD (rootsL N cs) (hmN hs S) = gD (rootsL N cs) (hmN hs F)
 ov : ∀ j ∈ os,∃ e o,TJ N cs j e o ∧ gD (rootsL N cs) e = gD (rootsL N cs) (hmN hs F)
 all : h.f1 = 15 → ∀ j t,t < N → gD (rootsL N cs) t = gD (rootsL N cs) (hmN hs F) → Sep N cs j (hmN hs F) t → j ∈ os
 way : ∀ R : Nat,h.f1 = (R : Int) → R < hs.length → rd vs R = rd vs F → gD (rootsL N cs) (hmN hs R) = gD (rootsL N cs) (hmN hs F) → ∀ j,Sep N cs j (hmN hs F) (hmN hs R) → j ∈ os
 slim : ∀ R : Nat,h.f1 = (R : Int) → R < hs.length → R ≠ F → rd vs R = rd vs F → gD (rootsL N cs) (hmN hs R) = gD (rootsL N cs) (hmN hs F) → (∀ c,c < N → gD (rootsL N cs) c = gD (rootsL N cs) (hmN hs F) → OnP N cs (hmN hs F) c (hmN hs R) → T c (rd vs F) R ≠ none) → ∀ j ∈ os,Sep N cs j (hmN hs F) (hmN hs R)
theorem mu_max {N : Nat} {cs : List S83} (hv : cabsB (N : Int) cs = true) {b : Nat} (hb : b < N) (y : Int) : muN N cs b y ≤ 20:=by
 have:=wL_len hv hb
 unfold muN
 split <;> omega
theorem frames_ok (N : Nat) (cs : List S83) (hs vs : List Int) (hn : netB (N : Int) cs hs vs = true) (l : List S37) :
  ∀ (K : List S37) (T : TabN) (n : Nat) (tabs : List Int),l.all (hopB (N : Int) cs hs vs) = true → InvT N cs hs vs T → n + 400000000 * l.length + 400000000 < 1000000000000 → tabs.length = N * 150 →
   (∀ b v s : Nat,b < N → v ≤ 9 → s < 15 → rd tabs (atS b v s) = encO (T b v s)) → (∀ g ∈ K,LrnOK N cs hs vs g T) →
  ∃ fin,framesN cs (treeX (N : Int) cs) hs vs l T n = some fin ∧ framesS cs (treeX (N : Int) cs) hs vs l tabs = some fin ∧ fin.1.length = l.length ∧ fin.2.length = l.length ∧
   ∀ i (hi : i < l.length),∃ (F : Nat) (T' : TabN),l[i].f0 = (F : Int) ∧ F < hs.length ∧ FrameOK N cs hs vs l[i] F T' (fin.1.getD i []) (fin.2.getD i []) ∧ ∀ g ∈ K ++ l.take i,LrnOK N cs hs vs g T':=by
 induction l with
 | nil => exact fun K T n tabs _ _ _ _ _ _ => ⟨([],[]),rfl,rfl,rfl,rfl,fun i hi => absurd hi (by simp)⟩
 | cons h l ih =>
  intro K T n tabs hall hI hsz htl htb hK
  have hv:=(netB_facts hn).1
  rw [List.all_cons,Bool.and_eq_true] at hall
  obtain ⟨hh,hall⟩:=hall
  rw [List.length_cons] at hsz
  unfold hopB stB at hh
  rw [Bool.and_eq_true,Bool.or_eq_true,decide_eq_true_eq,decide_eq_true_eq,beq_iff_eq] at hh
  obtain ⟨⟨_,p0,p1⟩,hr⟩:=hh
  obtain ⟨F,hF⟩:=Int.eq_ofNat_of_zero_le p0
  have hFl : F < hs.length:=by omega
  have nv : NV N cs hs vs F (rd vs F) h.f1:=⟨hn,hFl,rfl,hr.imp (fun h => h.2) id⟩
  obtain ⟨hb1,hb⟩:=nv.home hFl
  have hat : AtB N cs (hmN hs F) (hmN hs F) (-1):=⟨rfl,Or.inl ⟨rfl,rfl⟩⟩
  have hwt:=wt_max hv hb (-1)
  have hnosep : ∀ t,t < N → ¬ Sep N cs (-1) (hmN hs F) t:=fun t ht => sep_neg (-1) (by decide) hv hb ht
  obtain ⟨st,e1,hB,hlen,hself,hC,hNa⟩:=come_ok nv 20 (hmN hs F) (-1) ⟨T,[],[],n⟩ hb hI hat (mu_max hv hb _) (by unfold szN;simp;omega)
  have hSim : Sim N cs hs ⟨T,[],[],n⟩ ⟨tabs,List.replicate hs.length false,List.replicate cs.length false⟩ :=
   ⟨htl,htb,⟨List.length_replicate,fun i hi => by rw [rdB_nat,rep_false];simp⟩,⟨List.length_replicate,fun i hi => by rw [rdB_nat,rep_false];simp⟩⟩
  obtain ⟨ss,e2,hS2,hI2⟩:=sim_come nv 20 (hmN hs F) (-1) ⟨T,[],[],n⟩ st _ hb hI hat e1 hSim
  have hlo:=hB.lo
  have hlt:=hB.lt
  have hln:=hB.ln
  simp only [List.length_nil,Nat.zero_add] at hlo hlt hln
  have hLrn : LrnOK N cs hs vs h st.T:=by
   intro F' hF' c hc hrt hcase
   obtain rfl : F' = F:=by omega
   by_cases e : c = hmN hs F'
   ·subst e;exact hself
   ·rcases hcase with h15|⟨R,hR,hRl,hRv,hRr,hP⟩
    ·exact (hC c hc hrt (hnosep c hc) (Or.inl h15)).2.2 c hc hrt e (fun j hj => sep_self _ _ hj.2)
    ·exact (hC (hmN hs R) (nv.home hRl).2 hRr (hnosep _ (nv.home hRl).2) (Or.inr ⟨R,hR,hRl,hRv,rfl⟩)).2.2 c hc hrt e hP
  have hmono : ∀ g,LrnOK N cs hs vs g T → LrnOK N cs hs vs g st.T:=fun g hg F' hF' c hc hrt hcase => hB.old _ _ _ (hg F' hF' c hc hrt hcase)
  obtain ⟨fin,q1,q2,q3,q4,q5⟩:=ih (K ++ [h]) st.T st.n ss.tabs hall hB.inv (by omega) hS2.tl hS2.tb (fun g hg => by
   rcases List.mem_append.1 hg with hg|hg
   ·exact hmono g (hK g hg)
   ·obtain rfl:=List.mem_singleton.1 hg
    exact hLrn)
  have htk : ∀ s ∈ st.took,∃ S : Nat,s = (S : Int) ∧ S < hs.length ∧ S ≠ F ∧ (h.f1 = S ∨ h.f1 = 15) ∧ rd vs S = rd vs F ∧ gD (rootsL N cs) (hmN hs S) = gD (rootsL N cs) (hmN hs F):=fun s hs' => (hB.tk1 s hs').resolve_left (by simp)
  have hov : ∀ j ∈ st.over,∃ e o,TJ N cs j e o ∧ gD (rootsL N cs) e = gD (rootsL N cs) (hmN hs F):=fun j hj => (hB.ov1 j hj).resolve_left (by simp)
  have ho1 : lstS ss.took = onceL st.took:=lst_once hS2.tk (fun x hx => by obtain ⟨S,rfl,h1,_⟩:=htk x hx;omega)
  have ho2 : lstS ss.over = onceL st.over:=lst_once hS2.ov (fun x hx => by obtain ⟨e,o,h1,_⟩:=hov x hx;exact tj_pos h1)
  obtain ⟨u1,u2⟩:=once_asc st.took
  obtain ⟨u3,u4⟩:=once_asc st.over
  refine ⟨(onceL st.took :: fin.1,onceL st.over :: fin.2),?_,?_,by simp [q3],by simp [q4],?_⟩
  ·unfold framesN
   rw [hF,hb1,e1,Option.bind_some,if_pos ⟨by omega,by omega⟩,q1]
   rfl
  ·unfold framesS
   rw [hF,hb1,show (-2 : Int) = encY (-1) from rfl,e2,Option.bind_some,q2,ho1,ho2]
   rfl
  ·intro i hi
   cases i with
   | zero =>
    refine ⟨F,T,hF,hFl,?_,fun g hg => hK g (by simpa using hg)⟩
    simp only [List.getD_cons_zero,List.getElem_cons_zero]
    refine ⟨u1,u3,fun s => (u2 s).trans ⟨htk s,?_⟩,fun j hj => hov j ((u4 j).1 hj),fun h15 j t ht hrt hsep => (u4 j).2 ((hC t ht hrt (hnosep t ht) (Or.inl h15)).2.1 j hsep),fun R hR hRl hRv hRr j hsep => (u4 j).2 ((hC (hmN hs R) (nv.home hRl).2 hRr (hnosep _ (nv.home hRl).2) (Or.inr ⟨R,hR,hRl,hRv,rfl⟩)).2.1 j hsep),fun R hR hRl hne hRv hRr hkn j hj => ?_⟩
    ·rintro ⟨S,rfl,hSl,hne,hc,hSv,hSr⟩
     refine (hC (hmN hs S) (nv.home hSl).2 hSr (hnosep _ (nv.home hSl).2) ?_).1 S hSl rfl hSv hne hc
     rcases hc with hc|hc
     ·exact Or.inr ⟨S,hc,hSl,hSv,rfl⟩
     ·exact Or.inl hc
    ·exact (hNa R hR hRl hne hRv hRr (hnosep _ (nv.home hRl).2) hkn j ((u4 j).1 hj)).resolve_left (by simp)
   | succ i =>
    obtain ⟨F',T',r1,r2,r3,r4⟩:=q5 i (by simpa using hi)
    refine ⟨F',T',r1,r2,?_,fun g hg => r4 g ?_⟩
    ·simpa using r3
    ·rw [List.take_succ_cons] at hg
     simpa [List.append_assoc] using hg
theorem frames_start (N : Nat) (cs : List S83) (hs vs : List Int) (l : List S37) (h : runB (N : Int) cs hs vs l = true) :
  ∃ fin,framesN cs (treeX (N : Int) cs) hs vs l (fun _ _ _ => none) 0 = some fin ∧ framesS cs (treeX (N : Int) cs) hs vs l (List.replicate ((N : Int) * 150).toNat (-1)) = some fin ∧ fin.1.length = l.length ∧ fin.2.length = l.length ∧
   ∀ i (hi : i < l.length),∃ (F : Nat) (T' : TabN),l[i].f0 = (F : Int) ∧ F < hs.length ∧ FrameOK N cs hs vs l[i] F T' (fin.1.getD i []) (fin.2.getD i []) ∧ ∀ g ∈ l.take i,LrnOK N cs hs vs g T':=by
 unfold runB at h
 rw [Bool.and_eq_true,Bool.and_eq_true,decide_eq_true_eq] at h
 obtain ⟨h1,h2,h3⟩:=h
 have hc:=netB_more h1
 exact frames_ok N cs hs vs h1 l [] (fun _ _ _ => none) 0 _ h3 (fun _ _ _ _ h => by cases h) (by omega) (by rw [List.length_replicate];omega) (fun b v s hb hv hs' => by
  have : ((atS b v s).toNat : Int) = atS b v s ∧ (atS b v s).toNat < N * 150:=by unfold atS;omega
  rw [← this.1,rd_get _ _ (by rw [List.length_replicate];omega),List.getElem_replicate];rfl) (fun g hg => by cases hg)
theorem imates_eq (n : Int) (cs : List S83) (hs vs : List Int) (s : Int) (k : Nat) (hk : 20 < k) : impl_MatesOf.f k n cs hs vs s = some (matesX n cs hs vs s):=rfl
theorem le_asc {l : List Int} (h1 : l.Pairwise (· ≤ ·)) (h2 : l.Nodup) : l.Pairwise (· < ·):=by
 rw [List.pairwise_iff_getElem] at h1 ⊢
 intro i j hi hj hij
 have a:=h1 i j hi hj hij
 have b : l[i] ≠ l[j]:=(List.pairwise_iff_getElem.1 h2) i j hi hj hij
 omega
theorem tree_asc {N : Nat} {cs : List S83} (hv : cabsB (N : Int) cs = true) : (treeX (N : Int) cs).Pairwise (· < ·):=by
 have h:=tree_nodup hv
 unfold treeX at h ⊢
 rw [if_pos hv,Int.toNat_natCast] at h ⊢
 exact le_asc (tI_sorted _ _ _ _) h
section
variable {N : Nat} {cs : List S83} {hs vs : List Int} {F : Nat}
theorem hm_rd (hn : netB (N : Int) cs hs vs = true) {S : Nat} (hS : S < hs.length) : rd hs S = (hmN hs S : Int) ∧ hmN hs S < N:=by
 have:=(netB_more hn).2.2.2.1 S hS
 unfold hmN
 exact ⟨by omega,by omega⟩
theorem mates_mem (hn : netB (N : Int) cs hs vs = true) (hF : F < hs.length) (o : Int) : o ∈ matesX (N : Int) cs hs vs F ↔ ∃ S : Nat,o = (S : Int) ∧ S < hs.length ∧ S ≠ F ∧ rd vs S = rd vs F ∧ gD (rootsL N cs) (hmN hs S) = gD (rootsL N cs) (hmN hs F):=by
 unfold matesX
 rw [if_pos ⟨hn,by omega,by omega⟩,filM_mem0]
 unfold mateB
 simp only [Bool.and_eq_true,decide_eq_true_eq,Int.toNat_natCast]
 constructor
 ·rintro ⟨h0,h1,h2,h3,h4⟩
  obtain ⟨S,rfl⟩:=Int.eq_ofNat_of_zero_le h0
  rw [(hm_rd hn (show S < hs.length by omega)).1,(hm_rd hn hF).1,rd_gD,rd_gD] at h4
  exact ⟨S,rfl,by omega,by omega,h3,h4⟩
 ·rintro ⟨S,rfl,h1,h2,h3,h4⟩
  refine ⟨by omega,by omega,by omega,h3,?_⟩
  rw [(hm_rd hn h1).1,(hm_rd hn hF).1,rd_gD,rd_gD]
  exact h4
theorem flood_mem (hn : netB (N : Int) cs hs vs = true) (hF : F < hs.length) (j : Int) : j ∈ floodX (N : Int) cs hs vs F ↔ ∃ e o,TJ N cs j e o ∧ gD (rootsL N cs) e = gD (rootsL N cs) (hmN hs F):=by
 have hv:=(netB_facts hn).1
 obtain ⟨f1,f2,f3,f4⟩:=cabsB_facts hv
 unfold floodX
 rw [if_pos ⟨hn,by omega,by omega⟩,List.mem_filter]
 unfold floodB
 rw [decide_eq_true_eq,Int.toNat_natCast,(hm_rd hn hF).1,rd_gD]
 constructor
 ·rintro ⟨h1,h2⟩
  obtain ⟨h3,h4⟩:=treeX_in h1
  obtain ⟨K,rfl⟩:=Int.eq_ofNat_of_zero_le h3
  have hK : K < cs.length:=by omega
  have hc:=f4 _ (List.getElem_mem hK)
  rw [← rdCab_get cs K hK] at hc
  obtain ⟨b,hb⟩:=Int.eq_ofNat_of_zero_le hc.1
  rw [hb,rd_gD] at h2
  rcases oth_tj hv h1 b with ⟨o,h5,h6⟩|⟨h5,_⟩
  ·exact ⟨b,o,h6,h2⟩
  ·unfold othX at h5
   rw [if_pos hb.symm] at h5
   cases h5
 ·rintro ⟨e,o,h1,h2⟩
  refine ⟨tj_tree hv h1,?_⟩
  rcases oth_ends (tj_oth hv h1) with ⟨h3,h4⟩|⟨h3,h4⟩
  ·rw [← h3,rd_gD];exact h2
  ·rw [← h4,rd_gD,← h1.root hv];exact h2
theorem flood_asc (hn : netB (N : Int) cs hs vs = true) : (floodX (N : Int) cs hs vs F).Pairwise (· < ·):=by
 unfold floodX
 split
 ·exact (tree_asc (netB_facts hn).1).filter _
 ·exact List.Pairwise.nil
theorem way_sep {a b : Nat} {j : Int} : wayB N cs a b j = true ↔ Sep N cs j a b:=by
 unfold wayB Sep
 rw [← hasL_iff,← hasL_iff]
 cases hasL (upsL N cs a) j <;> cases hasL (upsL N cs b) j <;> decide
theorem way_mem (hn : netB (N : Int) cs hs vs = true) (hF : F < hs.length) {R : Nat} (hR : R < hs.length) (hr : gD (rootsL N cs) (hmN hs R) = gD (rootsL N cs) (hmN hs F)) (j : Int) : j ∈ wayX (N : Int) cs hs vs F R ↔ 0 ≤ j ∧ j < cs.length ∧ Sep N cs j (hmN hs F) (hmN hs R):=by
 unfold wayX
 have e1:=(hm_rd hn hF).1
 have e2:=(hm_rd hn hR).1
 rw [if_pos ⟨hn,⟨by omega,by omega⟩,⟨by omega,by omega⟩,by rw [e1,e2,Int.toNat_natCast,rd_gD,rd_gD];exact hr.symm⟩,filM_mem0,e1,e2,Int.toNat_natCast,Int.toNat_natCast,Int.toNat_natCast,way_sep]
theorem way_asc (a b : Int) : (wayX (N : Int) cs hs vs a b).Pairwise (· < ·):=by
 unfold wayX
 split
 ·exact filM_asc _ _ _
 ·exact List.Pairwise.nil
theorem mates_asc (a : Int) : (matesX (N : Int) cs hs vs a).Pairwise (· < ·):=by
 unfold matesX
 split
 ·exact filM_asc _ _ _
 ·exact List.Pairwise.nil
end
theorem asc_len (l : List Int) : ∀ lo hi : Int,l.Pairwise (· < ·) → (∀ x ∈ l,lo ≤ x ∧ x < hi) → (l.length : Int) ≤ hi - lo ∨ l = []:=by
 induction l with
 | nil => exact fun _ _ _ _ => Or.inr rfl
 | cons x t ih =>
  intro lo hi hp hm
  rw [List.pairwise_cons] at hp
  have hx:=hm x List.mem_cons_self
  left
  rw [List.length_cons]
  rcases ih (x + 1) hi hp.2 (fun y hy => ⟨by have:=hp.1 y hy;omega,(hm y (List.mem_cons_of_mem _ hy)).2⟩) with h|h
  ·omega
  ·subst h
   simp only [List.length_nil]
   omega
structure MeetOK (n : Int) (cs : List S83) (hs vs : List Int) (a c : Int) (tk ov : List Int) : Prop where
 t_len : tk.length ≤ 20
 o_len : ov.length ≤ 20
 t_all : c = 15 → tk = matesX n cs hs vs a
 t_one : c ∈ matesX n cs hs vs a → tk = [c]
 t_no : c ≠ 15 → c ∉ matesX n cs hs vs a → tk = []
 o_sub : ∀ j ∈ ov,j ∈ floodX n cs hs vs a
 o_all : c = 15 → ov = floodX n cs hs vs a
 o_way : c ∈ matesX n cs hs vs a → ∀ j ∈ wayX n cs hs vs a c,j ∈ ov
theorem meet_ok {N : Nat} {cs : List S83} {hs vs : List Int} (hn : netB (N : Int) cs hs vs = true) {h : S37} {F : Nat} (hFl : F < hs.length) {T : TabN} {tk ov : List Int} (f : FrameOK N cs hs vs h F T tk ov) : MeetOK (N : Int) cs hs vs (F : Int) h.f1 tk ov:=by
 have hv:=(netB_facts hn).1
 have hh:=(netB_more hn).2.1
 have hc:=(netB_more hn).1
 constructor
 ·rcases asc_len tk 0 hs.length f.tka (fun x hx => by obtain ⟨S,rfl,h1,_⟩:=(f.tk x).1 hx;omega) with h|h
  ·omega
  ·rw [h];simp
 ·rcases asc_len ov 0 cs.length f.ova (fun x hx => by obtain ⟨e,o,h1,_⟩:=f.ov x hx;exact tj_pos h1) with h|h
  ·omega
  ·rw [h];simp
 ·intro h15
  refine asc_uniq f.tka (mates_asc _) (fun s => (f.tk s).trans (Iff.trans ?_ (mates_mem hn hFl s).symm))
  exact ⟨fun ⟨S,a1,a2,a3,_,a5,a6⟩ => ⟨S,a1,a2,a3,a5,a6⟩,fun ⟨S,a1,a2,a3,a5,a6⟩ => ⟨S,a1,a2,a3,Or.inr h15,a5,a6⟩⟩
 ·intro hm
  obtain ⟨R,a1,a2,a3,a5,a6⟩:=(mates_mem hn hFl _).1 hm
  refine asc_uniq f.tka (List.pairwise_singleton _ _) (fun s => (f.tk s).trans ?_)
  rw [List.mem_singleton]
  constructor
  ·rintro ⟨S,rfl,b2,b3,b4,b5,b6⟩
   rcases b4 with b4|b4
   ·exact b4.symm
   ·omega
  ·rintro rfl
   exact ⟨R,a1,a2,a3,Or.inl a1,a5,a6⟩
 ·intro h15 hm
  refine List.eq_nil_iff_forall_not_mem.2 (fun s hs' => ?_)
  obtain ⟨S,rfl,b2,b3,b4,b5,b6⟩:=(f.tk s).1 hs'
  exact hm ((mates_mem hn hFl _).2 ⟨S,b4.resolve_right h15,b2,b3,b5,b6⟩)
 ·exact fun j hj => (flood_mem hn hFl j).2 (f.ov j hj)
 ·intro h15
  refine asc_uniq f.ova (flood_asc hn) (fun j => ⟨fun hj => (flood_mem hn hFl j).2 (f.ov j hj),fun hj => ?_⟩)
  obtain ⟨e,o,h1,h2⟩:=(flood_mem hn hFl j).1 hj
  have hl:=h1.lt hv
  by_cases c : Sep N cs j e (hmN hs F)
  ·exact f.all h15 j e hl.1 h2 (sep_symm c)
  ·refine f.all h15 j o hl.2 (by rw [← h1.root hv];exact h2) (sep_symm ?_)
   exact Classical.not_not.1 (fun h3 => c ((sep_flip hv h1 _).2 h3))
 ·intro hm j hj
  obtain ⟨R,a1,a2,a3,a5,a6⟩:=(mates_mem hn hFl _).1 hm
  rw [a1] at hj
  exact f.way R a1 a2 a5 a6 j ((way_mem hn hFl a2 a6 j).1 hj).2.2
theorem meet_slim {N : Nat} {cs : List S83} {hs vs : List Int} (hn : netB (N : Int) cs hs vs = true) {h : S37} {F : Nat} (hF : h.f0 = (F : Int)) (hFl : F < hs.length) {T : TabN} {tk ov : List Int} (f : FrameOK N cs hs vs h F T tk ov) {g : S37} (hg : LrnOK N cs hs vs g T) (h0 : g.f0 = h.f1) (h1 : g.f1 = 15 ∨ g.f1 = h.f0) (hm : h.f1 ∈ matesX (N : Int) cs hs vs h.f0) :
  ov = wayX (N : Int) cs hs vs h.f0 h.f1:=by
 rw [hF] at hm h1 ⊢
 obtain ⟨R,a1,a2,a3,a5,a6⟩:=(mates_mem hn hFl _).1 hm
 rw [a1]
 have hsl:=f.slim R a1 a2 a3 a5 a6 (fun c hc hrt hP => by
  have:=hg R (h0.trans a1) c hc (hrt.trans a6.symm) (h1.imp id (fun e => ⟨F,e,hFl,a5.symm,a6.symm,fun j ⟨x1,x2⟩ => hP j ⟨sep_symm x2,sep_symm x1⟩⟩))
  rw [a5] at this
  exact this)
 refine asc_uniq f.ova (way_asc _ _) (fun j => ⟨fun hj => ?_,fun hj => f.way R a1 a2 a5 a6 j ((way_mem hn hFl a2 a6 j).1 hj).2.2⟩)
 obtain ⟨e,o,h3,_⟩:=f.ov j hj
 have:=tj_pos h3
 exact (way_mem hn hFl a2 a6 j).2 ⟨this.1,this.2,hsl j hj⟩
theorem getD_row (l : List (List Int)) (i : Nat) (h : i < l.length) : l.getD i [] = l[i]:=by simp [List.getD,h]
theorem run_meet {n : Int} {cs : List S83} {hs vs : List Int} {l : List S37} (h : runB n cs hs vs l = true) : ∃ tk ov : List (List Int), impl_RunNet.f n cs hs vs l = some (tk, ov, true) ∧ spec_RunNet.f n cs hs vs l = some (tk, ov, true) ∧ tk.length = l.length ∧ ov.length = l.length ∧ l.length ≤ 60 ∧ netB n cs hs vs = true ∧ (∀ r ∈ tk, r.length ≤ 20) ∧ (∀ r ∈ ov, r.length ≤ 20) ∧
  ∀ i (hi : i < l.length),(l[i].f1 < 15 ∨ l[i].f1 = 15) ∧ MeetOK n cs hs vs l[i].f0 l[i].f1 (tk.getD i []) (ov.getD i []) ∧ ∀ g ∈ l.take i,g.f0 = l[i].f1 → (g.f1 = 15 ∨ g.f1 = l[i].f0) → l[i].f1 ∈ matesX n cs hs vs l[i].f0 → ov.getD i [] = wayX n cs hs vs l[i].f0 l[i].f1:=by
 have h':=h
 unfold runB at h'
 rw [Bool.and_eq_true,Bool.and_eq_true,decide_eq_true_eq] at h'
 obtain ⟨hn,hl,hall⟩:=h'
 have hv:=cabsB_facts (netB_facts hn).1
 obtain ⟨N,rfl⟩ : ∃ N : Nat,n = (N : Int):=⟨n.toNat,by omega⟩
 obtain ⟨fin,e1,e2,e3,e4,e5⟩:=frames_start N cs hs vs l h
 refine ⟨fin.1,fin.2,?_,?_,e3,e4,hl,hn,fun r hr => ?_,fun r hr => ?_,fun i hi => ?_⟩
 ·unfold impl_RunNet.f;rw [if_pos h,e1];rfl
 ·unfold spec_RunNet.f;rw [if_pos h,e2];rfl
 ·obtain ⟨i,hi,rfl⟩:=List.mem_iff_getElem.1 hr
  obtain ⟨F,T,r1,r2,r3,r4⟩:=e5 i (by omega)
  have:=(meet_ok hn r2 r3).t_len
  rw [getD_row _ i hi] at this
  exact this
 ·obtain ⟨i,hi,rfl⟩:=List.mem_iff_getElem.1 hr
  obtain ⟨F,T,r1,r2,r3,r4⟩:=e5 i (by omega)
  have:=(meet_ok hn r2 r3).o_len
  rw [getD_row _ i hi] at this
  exact this
 ·obtain ⟨F,T,r1,r2,r3,r4⟩:=e5 i hi
  refine ⟨?_,by rw [r1];exact meet_ok hn r2 r3,fun g hg h0 h1 hm => meet_slim hn r1 r2 r3 (r4 g hg) h0 h1 hm⟩
  have hx:=List.all_eq_true.1 hall _ (List.getElem_mem hi)
  have hh:=(netB_more hn).2.1
  unfold hopB stB at hx
  rw [Bool.and_eq_true,Bool.or_eq_true,decide_eq_true_eq,decide_eq_true_eq,beq_iff_eq] at hx
  omega
theorem run_none {n : Int} {cs : List S83} {hs vs : List Int} {l : List S37} (h : runB n cs hs vs l = false) : impl_RunNet.f n cs hs vs l = some ([],[],false) ∧ spec_RunNet.f n cs hs vs l = some ([],[],false):=by
 unfold impl_RunNet.f spec_RunNet.f
 rw [h]
 exact ⟨if_neg (by decide),if_neg (by decide)⟩
theorem wnInts_at (a b : List Int) (hl : a.length = b.length) (hm : a.length ≤ 9223372036854775807) (d : Nat) : ∀ (k i : Nat),i + d = a.length → d < k → laws_wnInts.l0 k b a a.length (i : Int) = some (decide (a.drop i = b.drop i)):=by
 induction d with
 | zero =>
  intro k i h1 hk
  obtain ⟨k,rfl⟩ : ∃ m,k = m + 1:=⟨k - 1,by omega⟩
  simp only [laws_wnInts.l0]
  rw [if_neg (by omega),List.drop_of_length_le (by omega),List.drop_of_length_le (by omega)]
  simp
 | succ d ih =>
  intro k i h1 hk
  obtain ⟨k,rfl⟩ : ∃ m,k = m + 1:=⟨k - 1,by omega⟩
  simp only [laws_wnInts.l0]
  rw [if_pos (by omega),if_pos (by omega),if_pos (by omega),if_pos (by omega),rd_get a i (by omega),rd_get b i (by omega),List.drop_eq_getElem_cons (show i < a.length by omega),List.drop_eq_getElem_cons (show i < b.length by omega),wrap_succ (show i < a.length by omega) (by omega),ih k (i + 1) (by omega) (by omega)]
  by_cases c : b[i] = a[i]
  ·rw [if_pos c,c];congr 1;rw [decide_eq_decide];exact ⟨fun h => by rw [h],fun h => (List.cons.inj h).2⟩
  ·rw [if_neg c,decide_eq_false (fun h => c (List.cons.inj h).1.symm)]
theorem wnInts_eq (a b : List Int) (hm : a.length ≤ 9223372036854775807) (k : Nat) (hk : a.length < k) : laws_wnInts.f k a b = some (decide (a = b)):=by
 unfold laws_wnInts.f
 by_cases c : a.length = b.length
 ·rw [if_pos (by omega)]
  exact wnInts_at a b c hm a.length k 0 (by omega) hk
 ·rw [if_neg (by omega),decide_eq_false (fun h => c (by rw [h]))]
theorem rdL_get (l : List (List Int)) (i : Nat) : rd_L4 l (i : Int) = l.getD i []:=by unfold rd_L4;rw [Int.toNat_natCast]
theorem wnPairs_at (l : List (List Int)) (hl : l.length ≤ 100) (hr : ∀ r ∈ l,r.length ≤ 20) (d : Nat) : ∀ (k i : Nat),i + d = l.length → d + 100 < k → laws_wnPairs.l0 k l l l.length (i : Int) = some true:=by
 induction d with
 | zero =>
  intro k i h1 hk
  obtain ⟨k,rfl⟩ : ∃ m,k = m + 1:=⟨k - 1,by omega⟩
  simp only [laws_wnPairs.l0]
  rw [if_neg (by omega)]
 | succ d ih =>
  intro k i h1 hk
  obtain ⟨k,rfl⟩ : ∃ m,k = m + 1:=⟨k - 1,by omega⟩
  have hi : i < l.length:=by omega
  have h20 : (l.getD i []).length ≤ 20:=by rw [show l.getD i [] = l[i] by simp [List.getD,hi]];exact hr _ (List.getElem_mem hi)
  simp only [laws_wnPairs.l0]
  rw [if_pos (by omega),if_pos (by omega),if_pos (by omega),if_pos (by omega),rdL_get,wnInts_eq _ _ (by omega) k (by omega),Option.bind_some,if_pos (by simp),wrap_succ hi (by omega)]
  exact ih k (i + 1) (by omega) (by omega)
theorem wnPairs_same (l : List (List Int)) (hl : l.length ≤ 100) (hr : ∀ r ∈ l,r.length ≤ 20) (k : Nat) (hk : 300 < k) : laws_wnPairs.f k l l = some true:=by
 unfold laws_wnPairs.f
 rw [if_pos rfl]
 exact wnPairs_at l hl hr l.length k 0 (by omega) (by omega)
theorem wnHas_at (l : List Int) (x : Int) (hl : l.length ≤ 9223372036854775807) (d : Nat) : ∀ (k i : Nat),i + d = l.length → d < k → laws_wnHas.l0 k x l l.length (i : Int) = some (hasL (l.drop i) x):=by
 induction d with
 | zero =>
  intro k i h1 hk
  obtain ⟨k,rfl⟩ : ∃ m,k = m + 1:=⟨k - 1,by omega⟩
  simp only [laws_wnHas.l0]
  rw [if_neg (by omega),List.drop_of_length_le (by omega)]
  rfl
 | succ d ih =>
  intro k i h1 hk
  obtain ⟨k,rfl⟩ : ∃ m,k = m + 1:=⟨k - 1,by omega⟩
  simp only [laws_wnHas.l0]
  rw [if_pos (by omega),if_pos (by omega),if_pos (by omega),rd_get l i (by omega),wrap_succ (show i < l.length by omega) (by omega),ih k (i + 1) (by omega) (by omega),List.drop_eq_getElem_cons (show i < l.length by omega),hasL_cons]
  by_cases c : l[i] = x
  ·rw [if_pos c,decide_eq_true c,Bool.true_or]
  ·rw [if_neg c,decide_eq_false c,Bool.false_or]
theorem wnHas_eq (l : List Int) (x : Int) (hl : l.length ≤ 9223372036854775807) (k : Nat) (hk : l.length < k) : laws_wnHas.f k l x = some (hasL l x):=wnHas_at l x hl l.length k 0 (by omega) hk
theorem has_mates {n : Int} {cs : List S83} {hs vs : List Int} {s x : Int} : hasL (matesX n cs hs vs s) x = true ↔ x ∈ matesX n cs hs vs s:=hasL_iff _ _
theorem run_both (n : Int) (cs : List S83) (hs vs : List Int) (l : List S37) : ∃ (tk ov : List (List Int)) (g : Bool), impl_RunNet.f n cs hs vs l = some (tk, ov, g) ∧ spec_RunNet.f n cs hs vs l = some (tk, ov, g) ∧ laws_wnPairs.f 4001 tk tk = some true ∧ laws_wnPairs.f 4001 ov ov = some true ∧
  (g = true → tk.length = l.length ∧ ov.length = l.length ∧ l.length ≤ 1000 ∧ ∀ i (hi : i < l.length),(ov.getD i []).length ≤ 20 ∧ MeetOK n cs hs vs l[i].f0 l[i].f1 (tk.getD i []) (ov.getD i []) ∧ ∀ g ∈ l.take i,g.f0 = l[i].f1 → (g.f1 = 15 ∨ g.f1 = l[i].f0) → l[i].f1 ∈ matesX n cs hs vs l[i].f0 → ov.getD i [] = wayX n cs hs vs l[i].f0 l[i].f1):=by
 cases hr : runB n cs hs vs l with
 | false =>
  obtain ⟨e1,e2⟩:=run_none hr
  have hp:=wnPairs_same [] (by simp) (fun _ h => by cases h) 4001 (by omega)
  exact ⟨[],[],false,e1,e2,hp,hp,fun h => by cases h⟩
 | true =>
  obtain ⟨tk,ov,e1,e2,e3,e4,hl,hn,t20,o20,hm⟩:=run_meet hr
  exact ⟨tk,ov,true,e1,e2,wnPairs_same tk (by omega) t20 _ (by omega),wnPairs_same ov (by omega) o20 _ (by omega),fun _ => ⟨e3,e4,by omega,fun i hi => ⟨by rw [getD_row _ _ (by omega)];exact o20 _ (List.getElem_mem _),(hm i hi).2⟩⟩⟩
theorem hop_at (l : List S37) (i : Nat) (h : i < l.length) : rd_T37 l (i : Int) = l[i]:=by simp [rd_T37,List.getD,h]
theorem row_at (l : List (List Int)) (i : Nat) : rd_L4 l (i : Int) = l.getD i []:=by unfold rd_L4;rw [Int.toNat_natCast]
def askAt (k : Nat) (n : Int) (cs : List S83) (hs vs : List Int) (x0 x1 : Int) (row : List Int) (told : Bool) : Option Bool :=
 if told = true then (impl_MatesOf.f k n cs hs vs x0).bind fun m => (laws_wnHas.f k m x1).bind fun b => if b = true then (impl_TreeWay.f k n cs hs vs x0 x1).bind fun y => laws_wnInts.f k row y else some true else some true
theorem ask_cases {k : Nat} {n : Int} {cs : List S83} {hs vs : List Int} {x0 x1 : Int} {row : List Int} {told : Bool} (h : askAt k n cs hs vs x0 x1 row told = some true) (ht : told = true) :
  ∃ m,impl_MatesOf.f k n cs hs vs x0 = some m ∧ (laws_wnHas.f k m x1 = some false ∨ (laws_wnHas.f k m x1 = some true ∧ ∃ y,impl_TreeWay.f k n cs hs vs x0 x1 = some y ∧ laws_wnInts.f k row y = some true)):=by
 unfold askAt at h
 rw [if_pos ht] at h
 obtain ⟨m,hm,h⟩:=Option.bind_eq_some_iff.mp h
 obtain ⟨b,hb,h⟩:=Option.bind_eq_some_iff.mp h
 refine ⟨m,hm,?_⟩
 cases b with
 | false => exact Or.inl hb
 | true =>
  rw [if_pos rfl] at h
  obtain ⟨y,hy,h⟩:=Option.bind_eq_some_iff.mp h
  exact Or.inr ⟨hb,y,hy,h⟩
theorem nbox4 {W : World} {b t : Nat} {a0 a1 a2 a3 : Value} (h : W.heap[b]? = some (.cells #[a0, a1, a2, a3] t (0, 0))) :
  W.cell? ⟨b,0,none⟩ = some a0 ∧ W.cell? ⟨b,1,none⟩ = some a1 ∧ W.cell? ⟨b,2,none⟩ = some a2 ∧ W.cell? ⟨b,3,none⟩ = some a3 :=
 ⟨(bc_ h 0).trans rfl,(bc_ h 1).trans rfl,(bc_ h 2).trans rfl,(bc_ h 3).trans rfl⟩
theorem nbox3 {W : World} {b t : Nat} {a0 a1 a2 : Value} (h : W.heap[b]? = some (.cells #[a0,a1,a2] t (0,0))) : W.cell? ⟨b,0,none⟩ = some a0 ∧ W.cell? ⟨b,1,none⟩ = some a1 ∧ W.cell? ⟨b,2,none⟩ = some a2 :=
 ⟨(bc_ h 0).trans rfl,(bc_ h 1).trans rfl,(bc_ h 2).trans rfl⟩
theorem nbox2 {W : World} {b t : Nat} {a0 a1 : Value} (h : W.heap[b]? = some (.cells #[a0,a1] t (0,0))) : W.cell? ⟨b,0,none⟩ = some a0 ∧ W.cell? ⟨b,1,none⟩ = some a1:=⟨(blk_cell h 0).trans rfl,(blk_cell h 1).trans rfl⟩
theorem ask_ok {n : Int} {cs : List S83} {hs vs : List Int} {x0 x1 : Int} {row : List Int} {told : Bool} (hr : row.length ≤ 20) (h : told = true → x1 ∈ matesX n cs hs vs x0 → row = wayX n cs hs vs x0 x1) (k : Nat) (hk : 2000 < k) : askAt k n cs hs vs x0 x1 row told = some true:=by
 unfold askAt
 cases told with
 | false => simp
 | true =>
  have hx:=matesX_len n cs hs vs x0
  rw [if_pos rfl,imates_eq n cs hs vs _ k (by omega),Option.bind_some,wnHas_eq _ _ (by omega) k (by omega),Option.bind_some]
  by_cases c : x1 ∈ matesX n cs hs vs x0
  ·rw [if_pos (has_mates.2 c),iway_eq n cs hs vs _ _ k (by omega),Option.bind_some,wnInts_eq _ _ (by omega) k (by omega),decide_eq_true (h rfl c)]
  ·rw [if_neg (fun hh => c (has_mates.1 hh))]
def backB (l : List S37) (i : Nat) : Bool:=match l[i - 1]?,l[i]? with
 | some g,some h => decide (g.f0 = h.f1) && (decide (g.f1 = h.f0) && !decide (g.f0 = g.f1))
 | _,_ => false
theorem run_answer (n : Int) (cs : List S83) (hs vs : List Int) (l : List S37) : ∃ (tk ov : List (List Int)) (g : Bool), impl_RunNet.f n cs hs vs l = some (tk, ov, g) ∧ spec_RunNet.f n cs hs vs l = some (tk, ov, g) ∧ laws_wnPairs.f 4001 tk tk = some true ∧ laws_wnPairs.f 4001 ov ov = some true ∧
  (g = true → tk.length = l.length ∧ ov.length = l.length ∧ l.length ≤ 1000 ∧ ∀ i (hi : i < l.length),1 ≤ i → askAt 4001 n cs hs vs l[i].f0 l[i].f1 (ov.getD i []) (backB l i) = some true):=by
 obtain ⟨tk,ov,g,h1,h2,h3,h4,h5⟩:=run_both n cs hs vs l
 refine ⟨tk,ov,g,h1,h2,h3,h4,fun hg => ?_⟩
 obtain ⟨a1,a2,a3,a4⟩:=h5 hg
 refine ⟨a1,a2,a3,fun i hi h0 => ask_ok (a4 i hi).1 (fun ht hx => ?_) _ (by omega)⟩
 obtain ⟨j,rfl⟩ : ∃ j,i = j + 1:=⟨i - 1,by omega⟩
 unfold backB at ht
 rw [Nat.add_sub_cancel,List.getElem?_eq_getElem (by omega),List.getElem?_eq_getElem hi] at ht
 simp only [Bool.and_eq_true,decide_eq_true_eq] at ht
 have hj : j < l.length:=by omega
 have hg2 : l[j] ∈ l.take (j + 1):=by
  rw [List.take_succ_eq_append_getElem hj]
  exact List.mem_append_right _ (List.mem_singleton.2 rfl)
 exact (a4 _ hi).2.2 l[j] hg2 ht.1 (Or.inr ht.2.1) hx
theorem back_at (l : List S37) (kk jj : Nat) (h : kk = jj + 1) (hk : kk < l.length) : backB l kk = (decide ((l[jj]'(by omega)).f0 = l[kk].f1) && (decide ((l[jj]'(by omega)).f1 = l[kk].f0) && !decide ((l[jj]'(by omega)).f0 = (l[jj]'(by omega)).f1))):=by
 subst h
 unfold backB
 rw [Nat.add_sub_cancel,List.getElem?_eq_getElem (by omega),List.getElem?_eq_getElem hk]
theorem six_below {V W : World} {p0 p1 p2 p3 p4 p5 : Addr} {x0 x1 x2 x3 x4 x5 : Value} (h : V.cell? p0 = some x0 ∧ V.cell? p1 = some x1 ∧ V.cell? p2 = some x2 ∧ V.cell? p3 = some x3 ∧ V.cell? p4 = some x4 ∧ V.cell? p5 = some x5) (hb : Below V.heap.size V W) :
  W.cell? p0 = some x0 ∧ W.cell? p1 = some x1 ∧ W.cell? p2 = some x2 ∧ W.cell? p3 = some x3 ∧ W.cell? p4 = some x4 ∧ W.cell? p5 = some x5:=by
 have g : ∀ (p : Addr) (x : Value),V.cell? p = some x → W.cell? p = some x:=fun p x e => (hb.cell (p:=p) (wl_ V p e)).trans e
 exact ⟨g _ _ h.1,g _ _ h.2.1,g _ _ h.2.2.1,g _ _ h.2.2.2.1,g _ _ h.2.2.2.2.1,g _ _ h.2.2.2.2.2⟩
/-! ### laws_FnNetAnswer: function 4 (by hand) -/
def laws_FnNetAnswer.f (k : Nat) (l0 : List Int) : Option (Bool) :=
 if l0.all (fun x => (Lit.int .u8 x).wf) = true then some true else none
set_option maxHeartbeats 4000000 in
set_option maxRecDepth 100000 in
theorem laws_FnNetAnswer.calls (k : Nat) (A0 : Option Addr) (c0 : Nat) (l0 : List Int) (r : Bool) (w : World) (hr0 : Kd.C (Kd.int .u8) w A0 l0.length l0) (hc0 : l0.length ≤ c0) (h : laws_FnNetAnswer.f k l0 = some r) :
  Calls Try.prog 4 #[.slice A0 l0.length c0] w fun e w' => e = .returned (.bool r) ∧ Below w.heap.size w w':=by
 unfold laws_FnNetAnswer.f at h
 by_cases hw : l0.all (fun x => (Lit.int .u8 x).wf) = true
 ·rw [if_pos hw] at h
  obtain rfl:=Option.some.inj h
  have hu1:=Try.underlying26
  have hu2:=Try.underlying32
  have hu3:=Try.underlying37
  have hlen:=Kd.C_max hr0
  have HD:=mk_ (x_draw A0 c0 l0 w hr0 hc0 (List.all_eq_true.1 hw))
  by_cases cg : (l0.length : Int) > 1048576
  ·have p1 : (1048576 < (l0.length : Int)) = True:=eq_true cg
   clear h hr0 hc0 cg HD hw
   go_enter Try.func4,Try.ntmps4
   go_wp2
   go_ret
   exact ⟨rfl,Below.refl _ _⟩
  have p1 : (1048576 < (l0.length : Int)) = False:=eq_false cg
  clear h hr0 hc0 cg hw
  go_enter Try.func4,Try.ntmps4
  go_wp2_with fail
  refine HD.out.mono ?_
  rintro e w1 ⟨n,cs,hs,vs,l,v1,v2,v3,v4,rfl,h1,h2,h3,h4,hb1⟩
  obtain ⟨tk,ov,g,hA,hS,hP1,hP2,hL⟩:=run_answer n cs hs vs l
  have HI:=mk_ (fun B1 d1 B2 d2 B3 d3 B4 d4 W g1 q1 g2 q2 g3_ q3 g4 q4 => impl_RunNet.calls n B1 d1 cs B2 d2 hs B3 d3 vs B4 d4 l tk ov g W g1 q1 g2 q2 g3_ q3 g4 q4 hA)
  have HS:=mk_ (fun B1 d1 B2 d2 B3 d3 B4 d4 W g1 q1 g2 q2 g3_ q3 g4 q4 => spec_RunNet.calls n B1 d1 cs B2 d2 hs B3 d3 vs B4 d4 l tk ov g W g1 q1 g2 q2 g3_ q3 g4 q4 hS)
  have HP1:=mk_ (fun B1 d1 B2 d2 W g1 q1 g2 q2 => laws_wnPairs.calls 4001 B1 d1 tk B2 d2 tk true W g1 q1 g2 q2 hP1)
  have HP2:=mk_ (fun B1 d1 B2 d2 W g1 q1 g2 q2 => laws_wnPairs.calls 4001 B1 d1 ov B2 d2 ov true W g1 q1 g2 q2 hP2)
  have HL:=mk_ hL
  clear hA hS hP1 hP2 hL
  obtain ⟨X1,x1,rfl⟩:=Kd.R_slice h1
  obtain ⟨X2,x2,rfl⟩:=Kd.R_slice h2
  obtain ⟨X3,x3,rfl⟩ : ∃ A c,v3 = .slice A vs.length c:=by
   obtain ⟨_,_,ho,_⟩:=h3
   obtain ⟨A',c',he,_⟩:=q_slice ho
   exact ⟨A',c',he⟩
  obtain ⟨X4,x4,rfl⟩:=Kd.R_slice h4
  have hba:=ba_ (Below.refl _ w1) (.cells #[.int .i64 n,.slice X1 cs.length x1,.slice X2 hs.length x2,.slice X3 vs.length x3] 26)
  have HN:=mk_ (blk_new w1 (.cells #[.int .i64 n,.slice X1 cs.length x1,.slice X2 hs.length x2,.slice X3 vs.length x3] 26))
  have HB:=mk_ (st_ hb1 hba)
  have H1:=mk_ (And.intro (rr_ h1).2.1 (cb_ (rr_ h1).2.2 hba))
  have H2:=mk_ (And.intro (rr_ h2).2.1 (cb_ (rr_ h2).2.2 hba))
  have H3:=mk_ (And.intro (Kd.Q_reads' h3).2.1 (cb_ (Kd.Q_reads' h3).2.2 hba))
  have H4:=mk_ (And.intro (rr_ h4).2.1 (cb_ (rr_ h4).2.2 hba))
  clear h1 h2 h3 h4 hb1 hba HD
  obtain ⟨n0,n1,n2,n3⟩:=nbox4 HN.out
  go_wp2_with fail
  refine (HI.out _ _ _ _ _ _ _ _ _ H1.out.2 H1.out.1 H2.out.2 H2.out.1 H3.out.2 H3.out.1 H4.out.2 H4.out.1).mono ?_
  generalize w1.heap.size = b3 at HN n0 n1 n2 n3 ⊢
  rintro e w2 ⟨v1,v2,rfl,h5,h6,hb2⟩
  obtain ⟨T1,t1,rfl⟩:=Kd.S_slice h5
  obtain ⟨O1,o1,rfl⟩:=Kd.S_slice h6
  have hba:=ba_ (Below.refl _ w2) (.cells #[.slice T1 tk.length t1,.slice O1 ov.length o1] 32)
  have HS5:=mk_ (blk_new w2 (.cells #[.slice T1 tk.length t1,.slice O1 ov.length o1] 32))
  have H5:=mk_ (And.intro (Kd.S_reads' h5).2.1 (cb_ (Kd.S_reads' h5).2.2 hba))
  have H6:=mk_ (And.intro (Kd.S_reads' h6).2.1 (cb_ (Kd.S_reads' h6).2.2 hba))
  have hb:=st_ hb2 hba
  replace HN:=mk_ (blk_below HN.out hb)
  replace HB:=mk_ (st_ HB.out hb)
  replace H1:=mk_ (And.intro H1.out.1 (cb_ H1.out.2 hb))
  replace H2:=mk_ (And.intro H2.out.1 (cb_ H2.out.2 hb))
  replace H3:=mk_ (And.intro H3.out.1 (cb_ H3.out.2 hb))
  replace H4:=mk_ (And.intro H4.out.1 (cb_ H4.out.2 hb))
  clear h5 h6 hb hb2 hba HI n0 n1 n2 n3
  obtain ⟨n0,n1,n2,n3⟩:=nbox4 HN.out
  go_wp2_with fail
  refine (HS.out _ _ _ _ _ _ _ _ _ H1.out.2 H1.out.1 H2.out.2 H2.out.1 H3.out.2 H3.out.1 H4.out.2 H4.out.1).mono ?_
  generalize w2.heap.size = b5 at HS5 ⊢
  rintro e w3 ⟨v1,v2,rfl,h5,h6,hb2⟩
  obtain ⟨T2,t2,rfl⟩:=Kd.S_slice h5
  obtain ⟨O2,o2,rfl⟩:=Kd.S_slice h6
  have hba:=ba_ (Below.refl _ w3) (.cells #[.slice T2 tk.length t2,.slice O2 ov.length o2] 32)
  have HS7:=mk_ (blk_new w3 (.cells #[.slice T2 tk.length t2,.slice O2 ov.length o2] 32))
  have H7:=mk_ (And.intro (Kd.S_reads' h5).2.1 (cb_ (Kd.S_reads' h5).2.2 hba))
  have H8:=mk_ (And.intro (Kd.S_reads' h6).2.1 (cb_ (Kd.S_reads' h6).2.2 hba))
  have hb:=st_ hb2 hba
  replace HN:=mk_ (blk_below HN.out hb)
  replace HS5:=mk_ (blk_below HS5.out hb)
  replace HB:=mk_ (st_ HB.out hb)
  replace H1:=mk_ (And.intro H1.out.1 (cb_ H1.out.2 hb))
  replace H2:=mk_ (And.intro H2.out.1 (cb_ H2.out.2 hb))
  replace H3:=mk_ (And.intro H3.out.1 (cb_ H3.out.2 hb))
  replace H4:=mk_ (And.intro H4.out.1 (cb_ H4.out.2 hb))
  replace H5:=mk_ (And.intro H5.out.1 (cb_ H5.out.2 hb))
  replace H6:=mk_ (And.intro H6.out.1 (cb_ H6.out.2 hb))
  clear h5 h6 hb hb2 hba HS n0 n1 n2 n3
  obtain ⟨s0,s1⟩:=nbox2 HS5.out
  obtain ⟨z0,z1⟩:=nbox2 HS7.out
  have HV:=mk_ (Below.refl (w3.alloc (.cells #[.slice T2 tk.length t2,.slice O2 ov.length o2] 32)).heap.size (w3.alloc (.cells #[.slice T2 tk.length t2,.slice O2 ov.length o2] 32)))
  cases g with
  | false =>
   go_wp2_with fail
   refine (HP2.out _ _ _ _ _ (cb_ H6.out.2 HV.out) H6.out.1 (cb_ H8.out.2 HV.out) H8.out.1).mono ?_
   rintro e wf0 ⟨rfl,hdf0⟩
   replace HV:=mk_ (st_ HV.out hdf0.below)
   generalize w3.alloc (.cells #[.slice T2 tk.length t2,.slice O2 ov.length o2] 32) = V at HN HS5 HS7 HB H1 H2 H3 H4 H5 H6 H7 H8 HV hdf0
   generalize w3.heap.size = b7 at HS7 ⊢
   clear hdf0 s0 s1 z0 z1
   obtain ⟨s0,s1⟩:=nbox2 (blk_below HS5.out HV.out)
   obtain ⟨z0,z1⟩:=nbox2 (blk_below HS7.out HV.out)
   go_wp2_with fail
   refine (HP2.out _ _ _ _ _ (cb_ H6.out.2 HV.out) H6.out.1 (cb_ H8.out.2 HV.out) H8.out.1).mono ?_
   rintro e wh0 ⟨rfl,hdh0⟩
   replace HV:=mk_ (st_ HV.out hdh0.below)
   clear hdh0 s0 s1 z0 z1
   obtain ⟨s0,s1⟩:=nbox2 (blk_below HS5.out HV.out)
   obtain ⟨z0,z1⟩:=nbox2 (blk_below HS7.out HV.out)
   go_wp2
   go_ret
   exact ⟨by first|rfl|simp,st_ HB.out HV.out⟩
  | true =>
   obtain ⟨hl1,hl2,hl3,hL⟩:=HL.out rfl
   have HLL:=mk_ (And.intro hl1 hl2)
   replace HL:=mk_ hL
   clear hl1 hl2 hL
   go_wp2_with fail
   refine (HP2.out _ _ _ _ _ (cb_ H6.out.2 HV.out) H6.out.1 (cb_ H8.out.2 HV.out) H8.out.1).mono ?_
   rintro e wt0 ⟨rfl,hdt0⟩
   replace HV:=mk_ (st_ HV.out hdt0.below)
   generalize w3.alloc (.cells #[.slice T2 tk.length t2,.slice O2 ov.length o2] 32) = V at HN HS5 HS7 HB H1 H2 H3 H4 H5 H6 H7 H8 HV hdt0
   generalize w3.heap.size = b7 at HS7 ⊢
   clear hdt0 s0 s1 z0 z1
   obtain ⟨s0,s1⟩:=nbox2 (blk_below HS5.out HV.out)
   obtain ⟨z0,z1⟩:=nbox2 (blk_below HS7.out HV.out)
   clear s0 s1 z0 z1 HS7 H7 H8 HP1 HP2
   go_wp2_with fail
   go_loopg [9] (l.length + 1) (fun gg sx_ wr => ∃ (kk : Nat),1 ≤ kk ∧ kk ≤ l.length + 1 ∧ l.length + 1 - kk ≤ gg ∧ sx_ = .int .i64 (kk : Int) ∧ Aside0 (Below V.heap.size V wr))
   case atStart => exact ⟨1,by omega,by omega,by omega,rfl,HV⟩
   case round =>
    clear HV
    obtain ⟨kk,hk1,hkk,hgg,rfl,HV⟩:=hrel
    by_cases hlt : kk < l.length
    ·obtain ⟨jj,hjk⟩ : ∃ jj : Nat,kk = jj + 1:=⟨kk - 1,by omega⟩
     have hjl : jj < l.length:=by omega
     have hask:=HL.out kk hlt hk1
     have hbk:=back_at l kk jj hjk hlt
     obtain ⟨ad,ea,hx0,hx1,hx2⟩:=at_T37 H4.out.2 (kk : Int) (by omega) (by omega)
     obtain ⟨ad',ea',hz0,hz1,hz2⟩:=at_T37 H4.out.2 (jj : Int) (by omega) (by omega)
     rw [Int.toNat_natCast,hop_at l kk hlt] at hx0 hx1 hx2
     rw [Int.toNat_natCast,hop_at l jj hjl] at hz0 hz1 hz2
     subst ea
     obtain rfl : ad = ad':=Option.some.inj ea'
     obtain ⟨y0,hy0⟩ : ∃ x,l[kk].f0 = x:=⟨_,rfl⟩
     obtain ⟨y1,hy1⟩ : ∃ x,l[kk].f1 = x:=⟨_,rfl⟩
     obtain ⟨y2,hy2⟩ : ∃ x,l[kk].f2 = x:=⟨_,rfl⟩
     obtain ⟨z0,gy0⟩ : ∃ x,l[jj].f0 = x:=⟨_,rfl⟩
     obtain ⟨z1,gy1⟩ : ∃ x,l[jj].f1 = x:=⟨_,rfl⟩
     obtain ⟨z2,gy2⟩ : ∃ x,l[jj].f2 = x:=⟨_,rfl⟩
     rw [hy0] at hx0 hask hbk
     rw [hy1] at hx1 hask hbk
     rw [hy2] at hx2
     rw [gy0] at hz0 hbk
     rw [gy1] at hz1 hbk
     rw [gy2] at hz2
     rw [hbk] at hask
     have HASK:=mk_ hask
     have HF:=mk_ (And.intro hz0 (And.intro hz1 (And.intro hz2 (And.intro hx0 (And.intro hx1 hx2)))))
     clear hy0 hy1 hy2 gy0 gy1 gy2 hx0 hx1 hx2 hz0 hz1 hz2 hask hbk ea'
     have p2 : ((kk : Int) < (l.length : Int)) = True:=eq_true (by omega)
     have p3 : (kk < l.length) = True:=eq_true hlt
     have p4 : wrap64 ((kk : Int) - 1) = (jj : Int):=by rw [wrap_eq (by omega) (by omega)];omega
     have p7 : wrap64 (jj : Int) = (jj : Int):=wrap_eq (by omega) (by omega)
     have p5 : ((jj : Int) < (l.length : Int)) = True:=eq_true (by omega)
     have p6 : (jj < l.length) = True:=eq_true hjl
     clear hjk hjl
     go_upto_region 11 with (fail)
     obtain ⟨a0z,a1z,a2z,a3z,a4z,a5z⟩:=six_below HF.out (bd_ HV.out)
     refine start_ (n:=13) (S:=fun w' => w'.cell? (ad.add (jj * 3)) = some (.int .i64 z0) ∧ w'.cell? ⟨(ad.add (jj * 3)).block,(ad.add (jj * 3)).off + 1,none⟩ = some (.int .i64 z1) ∧ w'.cell? ⟨(ad.add (jj * 3)).block,(ad.add (jj * 3)).off + 2,none⟩ = some (.int .i64 z2) ∧ w'.cell? (ad.add (kk * 3)) = some (.int .i64 y0) ∧ w'.cell? ⟨(ad.add (kk * 3)).block,(ad.add (kk * 3)).off + 1,none⟩ = some (.int .i64 y1) ∧ w'.cell? ⟨(ad.add (kk * 3)).block,(ad.add (kk * 3)).off + 2,none⟩ = some (.int .i64 y2)) (ds:=[]) #[false,false,false,false,false,false,false,false,false,false,false,false,false] (by kernel_rfl) rfl rfl ⟨a0z,a1z,a2z,a3z,a4z,a5z⟩ (fun hHeld => ?_)
     refine pu_ (i:=0) (N:=some 63) 13 1 ?_
     refine pu_ (i:=1) (N:=some 64) 13 3 ?_
     refine pu_ (i:=2) (N:=some 65) 13 7 ?_
     refine pu_ (i:=3) (N:=some 66) 13 15 ?_
     refine pu_ (i:=5) (N:=some 68) 13 47 ?_
     refine pu_ (i:=6) (N:=some 69) 13 111 ?_
     refine pu_ (i:=7) (N:=some 70) 13 239 ?_
     refine ta6_ (i:=4) (N:=some 67) 13 255 hHeld ?_
     refine ta6_ (i:=8) (N:=some 71) 13 511 hHeld ?_
     refine join_ (σ:=Nat × Nat) 2 #[true,true,true,true,true,true,true,true,true,true,true,false,false] (fun s_ => [(10,.pointer (some ⟨s_.1,0,none⟩)),(11,.pointer (some ⟨s_.2,0,none⟩))]) (fun s_ w' => w'.cell? (ad.add (jj * 3)) = some (.int .i64 z0) ∧ w'.cell? ⟨(ad.add (jj * 3)).block,(ad.add (jj * 3)).off + 1,none⟩ = some (.int .i64 z1) ∧ w'.cell? ⟨(ad.add (jj * 3)).block,(ad.add (jj * 3)).off + 2,none⟩ = some (.int .i64 z2) ∧ w'.cell? (ad.add (kk * 3)) = some (.int .i64 y0) ∧ w'.cell? ⟨(ad.add (kk * 3)).block,(ad.add (kk * 3)).off + 1,none⟩ = some (.int .i64 y1) ∧ w'.cell? ⟨(ad.add (kk * 3)).block,(ad.add (kk * 3)).off + 2,none⟩ = some (.int .i64 y2) ∧ Aside0 (Below V.heap.size V w') ∧ Aside0 (w'.heap[s_.1]? = some (.cells #[.int .i64 0,.int .i64 0,.int .i64 0] 37 (0,0))) ∧ Aside0 (w'.heap[s_.2]? = some (.cells #[.int .i64 0,.int .i64 0,.int .i64 0] 37 (0,0))) ∧ Aside0 (s_.1 ≠ s_.2) ∧ Aside0 (V.heap.size ≤ s_.1) ∧ Aside0 (V.heap.size ≤ s_.2)) ?_ ?_
     rotate_left
     ·intro hCont
      refine two_ (i:=9) (j:=10) (Ni:=some 10) (Nj:=some 11) #[true,true,true,true,true,true,true,true,true,true,false,false,false] #[true,true,true,true,true,true,true,true,true,false,true,false,false] rfl rfl rfl rfl (by kernel_rfl) (by decide) (by decide) (fun K hK => ?_) (fun K hK => ?_)
      ·skip
       refine value_ (w1:=?_) (v:=?_) (by rfl) rfl ?_ ?_
       rotate_left 2
       ·go_simp
        constructor
        ·rfl
        ·rfl
       have HVg:=mk_ (bd_ (ba_ HV.out (.cells #[.int .i64 0,.int .i64 0,.int .i64 0] 37)))
       have HNg:=mk_ (show (_ : Option Obj) = some (.cells #[.int .i64 0,.int .i64 0,.int .i64 0] 37 (0,0)) from kd_ (blk_new wr (.cells #[.int .i64 0,.int .i64 0,.int .i64 0] 37)))
       have HLg : Aside0 (V.heap.size ≤ wr.heap.size):=⟨HV.out.size⟩
       obtain ⟨a0g,a1g,a2g,a3g,a4g,a5g⟩:=six_below HF.out HVg.out
       have HZg : Aside0 (wr.heap.size < ((wr.alloc (.cells #[.int .i64 0,.int .i64 0,.int .i64 0] 37)).drew).heap.size):=⟨blk_lt HNg.out⟩
       generalize (wr.alloc (.cells #[.int .i64 0,.int .i64 0,.int .i64 0] 37)).drew = Wg at HVg HNg HZg a0g a1g a2g a3g a4g a5g ⊢
       generalize wr.heap.size = bg at HNg HLg HZg ⊢
       refine hK.out _ _ ⟨a0g,a1g,a2g,a3g,a4g,a5g⟩ (fun hHeld => ?_)
       clear hK K
       refine norm_ (a':=?_) ?_ ?_
       rotate_left
       ·show Act.put _ (some 10) _ = _
        simp only [Act.put,sx_,sy_,sz_,i64_w,i32_w]
        rfl
       refine on_ (i:=10) (N:=some 11) 13 2047 (fun K hK => ?_)
       refine value_ (w1:=?_) (v:=?_) (by rfl) rfl ?_ ?_
       rotate_left 2
       ·go_simp
        constructor
        ·rfl
        ·rfl
       have HVh:=mk_ (ba_ HVg.out (.cells #[.int .i64 0,.int .i64 0,.int .i64 0] 37))
       have HNh:=mk_ (show (_ : Option Obj) = some (.cells #[.int .i64 0,.int .i64 0,.int .i64 0] 37 (0,0)) from blk_new Wg (.cells #[.int .i64 0,.int .i64 0,.int .i64 0] 37))
       replace HNg:=mk_ (ka_ HNg.out (.cells #[.int .i64 0,.int .i64 0,.int .i64 0] 37))
       have HLh : Aside0 (V.heap.size ≤ Wg.heap.size):=⟨HVg.out.size⟩
       obtain ⟨a0h,a1h,a2h,a3h,a4h,a5h⟩:=six_below HF.out HVh.out
       generalize Wg.alloc (.cells #[.int .i64 0,.int .i64 0,.int .i64 0] 37) = Wh at HVh HNh HNg a0h a1h a2h a3h a4h a5h ⊢
       generalize Wg.heap.size = bh at HNh HLh HZg ⊢
       refine hK.out _ _ ⟨a0h,a1h,a2h,a3h,a4h,a5h⟩ (fun hHeld => ?_)
       clear hK K
       refine norm_ (a':=?_) ?_ ?_
       rotate_left
       ·show Act.put _ (some 11) _ = _
        simp only [Act.put,sx_,sy_,sz_,i64_w,i32_w]
        rfl
       exact norm_ (by simp only [putAll,Act.put,sx_,sy_,sz_]) (hCont (bg,bh) _ ⟨a0h,a1h,a2h,a3h,a4h,a5h,HVh,HNg,HNh,⟨by have:=HZg.out;omega⟩,HLg,HLh⟩)
      ·skip
       refine value_ (w1:=?_) (v:=?_) (by rfl) rfl ?_ ?_
       rotate_left 2
       ·go_simp
        constructor
        ·rfl
        ·rfl
       have HVh:=mk_ (bd_ (ba_ HV.out (.cells #[.int .i64 0,.int .i64 0,.int .i64 0] 37)))
       have HNh:=mk_ (show (_ : Option Obj) = some (.cells #[.int .i64 0,.int .i64 0,.int .i64 0] 37 (0,0)) from kd_ (blk_new wr (.cells #[.int .i64 0,.int .i64 0,.int .i64 0] 37)))
       have HLh : Aside0 (V.heap.size ≤ wr.heap.size):=⟨HV.out.size⟩
       obtain ⟨a0h,a1h,a2h,a3h,a4h,a5h⟩:=six_below HF.out HVh.out
       have HZh : Aside0 (wr.heap.size < ((wr.alloc (.cells #[.int .i64 0,.int .i64 0,.int .i64 0] 37)).drew).heap.size):=⟨blk_lt HNh.out⟩
       generalize (wr.alloc (.cells #[.int .i64 0,.int .i64 0,.int .i64 0] 37)).drew = Wh at HVh HNh HZh a0h a1h a2h a3h a4h a5h ⊢
       generalize wr.heap.size = bh at HNh HLh HZh ⊢
       refine hK.out _ _ ⟨a0h,a1h,a2h,a3h,a4h,a5h⟩ (fun hHeld => ?_)
       clear hK K
       refine norm_ (a':=?_) ?_ ?_
       rotate_left
       ·show Act.put _ (some 11) _ = _
        simp only [Act.put,sx_,sy_,sz_,i64_w,i32_w]
        rfl
       refine on_ (i:=9) (N:=some 10) 13 2047 (fun K hK => ?_)
       refine value_ (w1:=?_) (v:=?_) (by rfl) rfl ?_ ?_
       rotate_left 2
       ·go_simp
        constructor
        ·rfl
        ·rfl
       have HVg:=mk_ (ba_ HVh.out (.cells #[.int .i64 0,.int .i64 0,.int .i64 0] 37))
       have HNg:=mk_ (show (_ : Option Obj) = some (.cells #[.int .i64 0,.int .i64 0,.int .i64 0] 37 (0,0)) from blk_new Wh (.cells #[.int .i64 0,.int .i64 0,.int .i64 0] 37))
       replace HNh:=mk_ (ka_ HNh.out (.cells #[.int .i64 0,.int .i64 0,.int .i64 0] 37))
       have HLg : Aside0 (V.heap.size ≤ Wh.heap.size):=⟨HVh.out.size⟩
       obtain ⟨a0g,a1g,a2g,a3g,a4g,a5g⟩:=six_below HF.out HVg.out
       generalize Wh.alloc (.cells #[.int .i64 0,.int .i64 0,.int .i64 0] 37) = Wg at HVg HNg HNh a0g a1g a2g a3g a4g a5g ⊢
       generalize Wh.heap.size = bg at HNg HLg HZh ⊢
       refine hK.out _ _ ⟨a0g,a1g,a2g,a3g,a4g,a5g⟩ (fun hHeld => ?_)
       clear hK K
       refine norm_ (a':=?_) ?_ ?_
       rotate_left
       ·show Act.put _ (some 10) _ = _
        simp only [Act.put,sx_,sy_,sz_,i64_w,i32_w]
        rfl
       exact norm_ (by simp only [putAll,Act.put,sx_,sy_,sz_]) (hCont (bg,bh) _ ⟨a0g,a1g,a2g,a3g,a4g,a5g,HVg,HNg,HNh,⟨by have:=HZh.out;omega⟩,HLg,HLh⟩)
     rintro ⟨bg,bh⟩ wj ⟨a0j,a1j,a2j,a3j,a4j,a5j,HVj,HG,HH,HNE,HLg,HLh⟩
     have hHeld:=And.intro a0j (And.intro a1j (And.intro a2j (And.intro a3j (And.intro a4j a5j))))
     simp only at HG HH HNE HLg HLh
     refine norm_ (a':=?_) ?_ ?_
     rotate_left
     ·simp only [putAll,Act.put,sx_,sy_,sz_]
      rfl
     refine on_ (i:=11) (N:=none) 13 4095 (fun K hK => ?_)
     obtain ⟨e0,e1,e2⟩:=nbx3 HG.out
     have f0:=bf_ HG.out 0
     have f1:=bf_ HG.out 1
     have f2:=bf_ HG.out 2
     refine skip_ (w1:=?_) (by rfl) rfl ?_ ?_
     rotate_left
     ·go_simp
      rfl
     have HVk:=mk_ (show Below V.heap.size V (((wj.setCell ⟨bg,0,none⟩ (.int .i64 z0)).setCell ⟨bg,1,none⟩ (.int .i64 z1)).setCell ⟨bg,2,none⟩ (.int .i64 z2)) from bs_ (bs_ (bs_ HVj.out HLg.out) HLg.out) HLg.out)
     replace HH:=mk_ (nb_seto (nb_seto (nb_seto HH.out HNE.out.symm 0 (.int .i64 z0)) HNE.out.symm 1 (.int .i64 z1)) HNE.out.symm 2 (.int .i64 z2))
     replace HG:=mk_ (show (_ : Option Obj) = some (.cells #[.int .i64 z0,.int .i64 z1,.int .i64 z2] 37 (0,0)) from nb_setl (nb_setl (nb_setl HG.out 0 (.int .i64 z0)) 1 (.int .i64 z1)) 2 (.int .i64 z2))
     generalize ((wj.setCell ⟨bg,0,none⟩ (.int .i64 z0)).setCell ⟨bg,1,none⟩ (.int .i64 z1)).setCell ⟨bg,2,none⟩ (.int .i64 z2) = wk at HVk HG HH ⊢
     obtain ⟨a0k,a1k,a2k,a3k,a4k,a5k⟩:=six_below HF.out HVk.out
     clear e0 e1 e2 f0 f1 f2
     refine hK.out _ _ ⟨a0k,a1k,a2k,a3k,a4k,a5k⟩ (fun hHeld => ?_)
     clear hK K
     refine on_ (i:=12) (N:=none) 13 8191 (fun K hK => ?_)
     obtain ⟨e0,e1,e2⟩:=nbx3 HH.out
     have f0:=bf_ HH.out 0
     have f1:=bf_ HH.out 1
     have f2:=bf_ HH.out 2
     refine skip_ (w1:=?_) (by rfl) rfl ?_ ?_
     rotate_left
     ·go_simp
      rfl
     have HVm:=mk_ (show Below V.heap.size V (((wk.setCell ⟨bh,0,none⟩ (.int .i64 y0)).setCell ⟨bh,1,none⟩ (.int .i64 y1)).setCell ⟨bh,2,none⟩ (.int .i64 y2)) from bs_ (bs_ (bs_ HVk.out HLh.out) HLh.out) HLh.out)
     replace HG:=mk_ (nb_seto (nb_seto (nb_seto HG.out HNE.out 0 (.int .i64 y0)) HNE.out 1 (.int .i64 y1)) HNE.out 2 (.int .i64 y2))
     replace HH:=mk_ (show (_ : Option Obj) = some (.cells #[.int .i64 y0,.int .i64 y1,.int .i64 y2] 37 (0,0)) from nb_setl (nb_setl (nb_setl HH.out 0 (.int .i64 y0)) 1 (.int .i64 y1)) 2 (.int .i64 y2))
     generalize ((wk.setCell ⟨bh,0,none⟩ (.int .i64 y0)).setCell ⟨bh,1,none⟩ (.int .i64 y1)).setCell ⟨bh,2,none⟩ (.int .i64 y2) = wm at HVm HG HH ⊢
     obtain ⟨a0m,a1m,a2m,a3m,a4m,a5m⟩:=six_below HF.out HVm.out
     clear e0 e1 e2 f0 f1 f2
     refine hK.out _ _ ⟨a0m,a1m,a2m,a3m,a4m,a5m⟩ (fun hHeld => ?_)
     clear hK K
     refine done_ (by kernel_rfl) ?_
     clear a0z a1z a2z a3z a4z a5z a0j a1j a2j a3j a4j a5j a0k a1k a2k a3k a4k a5k a0m a1m a2m a3m a4m a5m hHeld p4 p5 p6 p7
     go_upto_region 12 with (fail)
     have HVm_:=HVm
     by_cases c1 : z0 = y1
     ·have r1 : (z0 = y1) = True:=eq_true c1
      have q1 : (z0 == y1) = true:=beq_iff_eq.mpr c1
      by_cases c2 : z1 = y0
      ·have r2 : (z1 = y0) = True:=eq_true c2
       have q2 : (z1 == y0) = true:=beq_iff_eq.mpr c2
       by_cases c3 : z0 = z1
       ·have r3 : (z0 = z1) = True:=eq_true c3
        have q3 : (z0 == z1) = true:=beq_iff_eq.mpr c3
        have s3 : (z0 != z1) = false:=by rw [bne,q3];rfl
        obtain ⟨g0,g1,_⟩:=nbox3 HG.out
        obtain ⟨h0,h1,_⟩:=nbox3 HH.out
        clear c1 c2 c3
        refine start_ (n:=43) (S:=fun w' => w'.cell? ⟨bg,0,none⟩ = some (.int .i64 z0) ∧ w'.cell? ⟨bg,1,none⟩ = some (.int .i64 z1) ∧ w'.cell? ⟨bh,0,none⟩ = some (.int .i64 y0) ∧ w'.cell? ⟨bh,1,none⟩ = some (.int .i64 y1)) (ds:=[]) #[false,false,false,false,false,false,false,false,false,false,false,false,false,false,false,false,false,false,false,false,false,false,false,false,false,false,false,false,false,false,false,false,false,false,false,false,false,false,false,false,false,false,false] (by kernel_rfl) rfl rfl ⟨g0,g1,h0,h1⟩ (fun hHeld => ?_)
        refine pu_ (i:=0) (N:=some 72) 43 1 ?_
        refine pu_ (i:=2) (N:=some 74) 43 5 ?_
        refine ta4_ (i:=1) (N:=some 73) 43 7 hHeld ?_
        refine ta4_ (i:=3) (N:=some 75) 43 15 hHeld ?_
        refine pu_ (i:=4) (N:=some 76) 43 31 ?_
        refine pu_ (i:=5) (N:=some 77) 43 63 ?_
        refine pu_ (i:=6) (N:=some 78) 43 127 ?_
        refine pu_ (i:=8) (N:=some 80) 43 383 ?_
        refine ta4_ (i:=7) (N:=some 79) 43 511 hHeld ?_
        refine ta4_ (i:=9) (N:=some 81) 43 1023 hHeld ?_
        refine pu_ (i:=10) (N:=some 82) 43 2047 ?_
        refine pu_ (i:=11) (N:=some 83) 43 4095 ?_
        refine pu_ (i:=12) (N:=some 84) 43 8191 ?_
        refine pu_ (i:=13) (N:=some 85) 43 16383 ?_
        refine pu_ (i:=15) (N:=some 87) 43 49151 ?_
        refine ta4_ (i:=14) (N:=some 86) 43 65535 hHeld ?_
        refine ta4_ (i:=16) (N:=some 88) 43 131071 hHeld ?_
        refine pu_ (i:=17) (N:=some 89) 43 262143 ?_
        refine pu_ (i:=18) (N:=some 90) 43 524287 ?_
        refine pu_ (i:=19) (N:=some 91) 43 1048575 ?_
        refine pz_ (i:=20) (N:=some 92) 43 2097151 ?_
        refine pz_ (i:=21) (N:=some 93) 43 4194303 ?_
        refine pz_ (i:=22) (N:=some 94) 43 8388607 ?_
        refine pz_ (i:=23) (N:=some 95) 43 16777215 ?_
        refine pz_ (i:=24) (N:=some 96) 43 33554431 ?_
        refine pz_ (i:=25) (N:=some 97) 43 67108863 ?_
        refine pz_ (i:=26) (N:=some 98) 43 134217727 ?_
        refine pu_ (i:=27) (N:=some 99) 43 268435455 ?_
        refine pu_ (i:=28) (N:=some 100) 43 536870911 ?_
        refine pz_ (i:=29) (N:=some 101) 43 1073741823 ?_
        refine pz_ (i:=30) (N:=some 102) 43 2147483647 ?_
        refine pz_ (i:=31) (N:=some 103) 43 4294967295 ?_
        refine pz_ (i:=32) (N:=some 104) 43 8589934591 ?_
        refine pz_ (i:=33) (N:=some 105) 43 17179869183 ?_
        refine pz_ (i:=34) (N:=some 106) 43 34359738367 ?_
        refine pz_ (i:=35) (N:=some 107) 43 68719476735 ?_
        refine pz_ (i:=36) (N:=some 108) 43 137438953471 ?_
        refine pz_ (i:=37) (N:=some 109) 43 274877906943 ?_
        refine pz_ (i:=38) (N:=some 110) 43 549755813887 ?_
        refine pz_ (i:=39) (N:=some 111) 43 1099511627775 ?_
        refine pz_ (i:=40) (N:=some 112) 43 2199023255551 ?_
        refine pz_ (i:=41) (N:=some 113) 43 4398046511103 ?_
        refine pu_ (i:=42) (N:=some 114) 43 8796093022207 ?_
        refine done_ (by kernel_rfl) ?_
        go_wp2
        go_roundg (l.length + 1 - (kk + 1))
        case measure => omega
        case rel => exact ⟨kk + 1,by omega,by omega,by omega,by first|rfl|simp [wrap_eq (x:=(kk : Int) + 1) (by omega) (by omega)]|(rw [wrap_eq (by omega) (by omega)];rfl),⟨bd_ HVm.out⟩⟩
       ·have r3 : (z0 = z1) = False:=eq_false c3
        have q3 : (z0 == z1) = false:=beq_eq_false_iff_ne.mpr c3
        have s3 : (z0 != z1) = true:=by rw [bne,q3];rfl
        have hask:=HASK.out
        rw [decide_eq_true c1,decide_eq_true c2,decide_eq_false c3] at hask
        have HVz:=HVm
        have HWz:=mk_ (Below.refl wm.heap.size wm)
        clear HASK c1 c2 c3 HF HLg HLh HNE p3
        obtain ⟨m,hm,hcase⟩:=ask_cases hask rfl
        have HM:=mk_ (fun B1 d1 B2 d2 B3 d3 W g1 q1 g2 q2 g3_ q3 => impl_MatesOf.calls 4001 n B1 d1 cs B2 d2 hs B3 d3 vs y0 m W g1 q1 g2 q2 g3_ q3 hm)
        clear hask hm
        obtain ⟨n0z,n1z,n2z,n3z⟩:=nbox4 (blk_below HN.out HVz.out)
        obtain ⟨h0z,h1z,_⟩:=nbox3 (blk_below HH.out HWz.out)
        rcases hcase with hh|⟨hh,yy,hy,hj⟩
        ·have HH1:=mk_ (fun B d W h1 h2 => laws_wnHas.calls 4001 B d m y1 false W h1 h2 hh)
         clear hh
         have g0z:=(nbox3 (blk_below HG.out HWz.out)).1
         have g1z:=(nbox3 (blk_below HG.out HWz.out)).2.1
         refine start_ (n:=43) (S:=fun w' => w'.cell? ⟨b3,0,none⟩ = some (.int .i64 n) ∧ w'.cell? ⟨b3,1,none⟩ = some (.slice X1 cs.length x1) ∧ w'.cell? ⟨b3,2,none⟩ = some (.slice X2 hs.length x2) ∧ w'.cell? ⟨b3,3,none⟩ = some (.slice X3 vs.length x3) ∧ w'.cell? ⟨bh,0,none⟩ = some (.int .i64 y0) ∧ w'.cell? ⟨bh,1,none⟩ = some (.int .i64 y1) ∧ w'.cell? ⟨bg,0,none⟩ = some (.int .i64 z0) ∧ w'.cell? ⟨bg,1,none⟩ = some (.int .i64 z1)) (ds:=[]) #[false,false,false,false,false,false,false,false,false,false,false,false,false,false,false,false,false,false,false,false,false,false,false,false,false,false,false,false,false,false,false,false,false,false,false,false,false,false,false,false,false,false,false] (by kernel_rfl) rfl rfl ⟨n0z,n1z,n2z,n3z,h0z,h1z,g0z,g1z⟩ (fun hHeld => ?_)
         refine pu_ (i:=0) (N:=some 72) 43 1 ?_
         refine pu_ (i:=2) (N:=some 74) 43 5 ?_
         refine ta8_ (i:=1) (N:=some 73) 43 7 hHeld ?_
         refine ta8_ (i:=3) (N:=some 75) 43 15 hHeld ?_
         refine pu_ (i:=4) (N:=some 76) 43 31 ?_
         refine pu_ (i:=5) (N:=some 77) 43 63 ?_
         refine pu_ (i:=6) (N:=some 78) 43 127 ?_
         refine pu_ (i:=8) (N:=some 80) 43 383 ?_
         refine ta8_ (i:=7) (N:=some 79) 43 511 hHeld ?_
         refine ta8_ (i:=9) (N:=some 81) 43 1023 hHeld ?_
         refine pu_ (i:=10) (N:=some 82) 43 2047 ?_
         refine pu_ (i:=11) (N:=some 83) 43 4095 ?_
         refine pu_ (i:=12) (N:=some 84) 43 8191 ?_
         refine pu_ (i:=13) (N:=some 85) 43 16383 ?_
         refine pu_ (i:=15) (N:=some 87) 43 49151 ?_
         refine ta8_ (i:=14) (N:=some 86) 43 65535 hHeld ?_
         refine ta8_ (i:=16) (N:=some 88) 43 131071 hHeld ?_
         refine pu_ (i:=17) (N:=some 89) 43 262143 ?_
         refine pu_ (i:=18) (N:=some 90) 43 524287 ?_
         refine pu_ (i:=19) (N:=some 91) 43 1048575 ?_
         refine pu_ (i:=21) (N:=some 93) 43 3145727 ?_
         refine pu_ (i:=24) (N:=some 96) 43 19922943 ?_
         refine ta8_ (i:=20) (N:=some 92) 43 20971519 hHeld ?_
         refine ta8_ (i:=22) (N:=some 94) 43 25165823 hHeld ?_
         refine ta8_ (i:=25) (N:=some 97) 43 58720255 hHeld ?_
         refine on_ (i:=23) (N:=some 95) 43 67108863 (fun K hK => ?_)
         refine goes_ Try.func12 (by kernel_rfl) rfl #[.agg #[.int .i64 n,.slice X1 cs.length x1,.slice X2 hs.length x2,.slice X3 vs.length x3],.int .i64 y0] (by rfl) rfl rfl (by simp only [List.map_toArray,List.map_cons,List.map_nil];rfl) ?_
         with_reducible refine (HM.out _ _ _ _ _ _ _ (cd_ (cb_ H1.out.2 HVz.out)) H1.out.1 (cd_ (cb_ H2.out.2 HVz.out)) H2.out.1 (cd_ (cb_ H3.out.2 HVz.out)) H3.out.1).mono ?_
         rintro e wa ⟨va,rfl,ha,hba⟩
         refine ⟨_,rfl,?_⟩
         obtain ⟨M,mc,rfl⟩:=Kd.R_slice ha
         have hda:=st_ (below_drew (Below.refl wm.heap.size wm)) hba
         have HVa:=mk_ (st_ HVz.out hda)
         have HWa:=mk_ (st_ HWz.out hda)
         have HMA:=mk_ (rr_ ha).2
         clear ha hba hda
         obtain ⟨n0a,n1a,n2a,n3a⟩:=nbox4 (blk_below HN.out HVa.out)
         obtain ⟨h0a,h1a,_⟩:=nbox3 (blk_below HH.out HWa.out)
         have g0a:=(nbox3 (blk_below HG.out HWa.out)).1
         have g1a:=(nbox3 (blk_below HG.out HWa.out)).2.1
         refine hK.out _ _ ⟨n0a,n1a,n2a,n3a,h0a,h1a,g0a,g1a⟩ (fun hHeld => ?_)
         clear hK K
         refine norm_ (a':=?_) ?_ ?_
         rotate_left
         ·show Act.put _ (some 95) _ = _
          simp only [Act.put,sx_,sy_,sz_,i64_w,i32_w]
          rfl
         refine on_ (i:=26) (N:=some 98) 43 134217727 (fun K hK => ?_)
         refine goes_ Try.func14 (by kernel_rfl) rfl #[.slice M m.length mc,.int .i64 y1] (by rfl) rfl rfl (by simp only [List.map_toArray,List.map_cons,List.map_nil];rfl) ?_
         with_reducible refine (HH1.out _ _ wa HMA.out.2 HMA.out.1).mono ?_
         rintro e wb ⟨rfl,hb⟩
         refine ⟨_,rfl,?_⟩
         have hdb:=hb.below
         have HVb:=mk_ (st_ HVa.out hdb)
         have HWb:=mk_ (st_ HWa.out hdb)
         clear hb hdb HMA
         obtain ⟨n0b,n1b,n2b,n3b⟩:=nbox4 (blk_below HN.out HVb.out)
         obtain ⟨h0b,h1b,_⟩:=nbox3 (blk_below HH.out HWb.out)
         have g0b:=(nbox3 (blk_below HG.out HWb.out)).1
         have g1b:=(nbox3 (blk_below HG.out HWb.out)).2.1
         refine hK.out _ _ ⟨n0b,n1b,n2b,n3b,h0b,h1b,g0b,g1b⟩ (fun hHeld => ?_)
         clear hK K
         refine norm_ (a':=?_) ?_ ?_
         rotate_left
         ·show Act.put _ (some 98) _ = _
          simp only [Act.put,sx_,sy_,sz_,i64_w,i32_w]
          rfl
         refine pu_ (i:=27) (N:=some 99) 43 268435455 ?_
         refine pu_ (i:=28) (N:=some 100) 43 536870911 ?_
         refine pz_ (i:=29) (N:=some 101) 43 1073741823 ?_
         refine pz_ (i:=30) (N:=some 102) 43 2147483647 ?_
         refine pz_ (i:=31) (N:=some 103) 43 4294967295 ?_
         refine pz_ (i:=32) (N:=some 104) 43 8589934591 ?_
         refine pz_ (i:=33) (N:=some 105) 43 17179869183 ?_
         refine pz_ (i:=34) (N:=some 106) 43 34359738367 ?_
         refine pz_ (i:=35) (N:=some 107) 43 68719476735 ?_
         refine pz_ (i:=36) (N:=some 108) 43 137438953471 ?_
         refine pz_ (i:=37) (N:=some 109) 43 274877906943 ?_
         refine pz_ (i:=38) (N:=some 110) 43 549755813887 ?_
         refine pz_ (i:=39) (N:=some 111) 43 1099511627775 ?_
         refine pz_ (i:=40) (N:=some 112) 43 2199023255551 ?_
         refine pz_ (i:=41) (N:=some 113) 43 4398046511103 ?_
         refine pu_ (i:=42) (N:=some 114) 43 8796093022207 ?_
         refine done_ (by kernel_rfl) ?_
         go_wp2
         go_roundg (l.length + 1 - (kk + 1))
         case measure => omega
         case rel => exact ⟨kk + 1,by omega,by omega,by omega,by first|rfl|simp [wrap_eq (x:=(kk : Int) + 1) (by omega) (by omega)]|(rw [wrap_eq (by omega) (by omega)];rfl),HVb⟩
        ·have HH1:=mk_ (fun B d W h1 h2 => laws_wnHas.calls 4001 B d m y1 true W h1 h2 hh)
         have HT:=mk_ (fun B1 d1 B2 d2 B3 d3 W g1 q1 g2 q2 g3_ q3 => impl_TreeWay.calls 4001 n B1 d1 cs B2 d2 hs B3 d3 vs y0 y1 yy W g1 q1 g2 q2 g3_ q3 hy)
         clear hh hy
         obtain ⟨ar,Ar,cr,ea2,hrow,hrl,hrc⟩:=at_L4 H6.out.2 (kk : Int) (by omega) (by have:=HLL.out.2;omega)
         rw [Int.toNat_natCast,row_at] at hrow
         rw [row_at] at hrl hrc
         subst ea2
         generalize ov.getD kk [] = rw_ at hrow hrl hrc hj
         have HROW:=mk_ hrow
         have HRW:=mk_ (And.intro hrl hrc)
         have p4 : ((kk : Int) < (ov.length : Int)) = True:=eq_true (by have:=HLL.out.2;omega)
         have p5 : (kk < ov.length) = True:=eq_true (by have:=HLL.out.2;omega)
         clear hrow hrl hrc
         have g0z:=(nbox3 (blk_below HG.out HWz.out)).1
         have g1z:=(nbox3 (blk_below HG.out HWz.out)).2.1
         have g2z:=(nbox2 (blk_below HS5.out HVz.out)).2
         have g3z:=(HVz.out.cell (p:=ar.add kk) (wl_ V (ar.add kk) HROW.out)).trans HROW.out
         have HJ:=mk_ (fun B d B' d' W h1 h2 h3 h4 => laws_wnInts.calls 4001 B d rw_ B' d' yy true W h1 h2 h3 h4 hj)
         clear hj
         refine start_ (n:=43) (S:=fun w' => w'.cell? ⟨b3,0,none⟩ = some (.int .i64 n) ∧ w'.cell? ⟨b3,1,none⟩ = some (.slice X1 cs.length x1) ∧ w'.cell? ⟨b3,2,none⟩ = some (.slice X2 hs.length x2) ∧ w'.cell? ⟨b3,3,none⟩ = some (.slice X3 vs.length x3) ∧ w'.cell? ⟨bh,0,none⟩ = some (.int .i64 y0) ∧ w'.cell? ⟨bh,1,none⟩ = some (.int .i64 y1) ∧ w'.cell? ⟨bg,0,none⟩ = some (.int .i64 z0) ∧ w'.cell? ⟨bg,1,none⟩ = some (.int .i64 z1) ∧ w'.cell? ⟨b5,1,none⟩ = some (.slice (some ar) ov.length o1) ∧ w'.cell? (ar.add kk) = some (.slice Ar rw_.length cr)) (ds:=[]) #[false,false,false,false,false,false,false,false,false,false,false,false,false,false,false,false,false,false,false,false,false,false,false,false,false,false,false,false,false,false,false,false,false,false,false,false,false,false,false,false,false,false,false] (by kernel_rfl) rfl rfl ⟨n0z,n1z,n2z,n3z,h0z,h1z,g0z,g1z,g2z,g3z⟩ (fun hHeld => ?_)
         refine pu_ (i:=0) (N:=some 72) 43 1 ?_
         refine pu_ (i:=2) (N:=some 74) 43 5 ?_
         refine ta10_ (i:=1) (N:=some 73) 43 7 hHeld ?_
         refine ta10_ (i:=3) (N:=some 75) 43 15 hHeld ?_
         refine pu_ (i:=4) (N:=some 76) 43 31 ?_
         refine pu_ (i:=5) (N:=some 77) 43 63 ?_
         refine pu_ (i:=6) (N:=some 78) 43 127 ?_
         refine pu_ (i:=8) (N:=some 80) 43 383 ?_
         refine ta10_ (i:=7) (N:=some 79) 43 511 hHeld ?_
         refine ta10_ (i:=9) (N:=some 81) 43 1023 hHeld ?_
         refine pu_ (i:=10) (N:=some 82) 43 2047 ?_
         refine pu_ (i:=11) (N:=some 83) 43 4095 ?_
         refine pu_ (i:=12) (N:=some 84) 43 8191 ?_
         refine pu_ (i:=13) (N:=some 85) 43 16383 ?_
         refine pu_ (i:=15) (N:=some 87) 43 49151 ?_
         refine ta10_ (i:=14) (N:=some 86) 43 65535 hHeld ?_
         refine ta10_ (i:=16) (N:=some 88) 43 131071 hHeld ?_
         refine pu_ (i:=17) (N:=some 89) 43 262143 ?_
         refine pu_ (i:=18) (N:=some 90) 43 524287 ?_
         refine pu_ (i:=19) (N:=some 91) 43 1048575 ?_
         refine pu_ (i:=21) (N:=some 93) 43 3145727 ?_
         refine pu_ (i:=24) (N:=some 96) 43 19922943 ?_
         refine ta10_ (i:=20) (N:=some 92) 43 20971519 hHeld ?_
         refine ta10_ (i:=22) (N:=some 94) 43 25165823 hHeld ?_
         refine ta10_ (i:=25) (N:=some 97) 43 58720255 hHeld ?_
         refine on_ (i:=23) (N:=some 95) 43 67108863 (fun K hK => ?_)
         refine goes_ Try.func12 (by kernel_rfl) rfl #[.agg #[.int .i64 n,.slice X1 cs.length x1,.slice X2 hs.length x2,.slice X3 vs.length x3],.int .i64 y0] (by rfl) rfl rfl (by simp only [List.map_toArray,List.map_cons,List.map_nil];rfl) ?_
         with_reducible refine (HM.out _ _ _ _ _ _ _ (cd_ (cb_ H1.out.2 HVz.out)) H1.out.1 (cd_ (cb_ H2.out.2 HVz.out)) H2.out.1 (cd_ (cb_ H3.out.2 HVz.out)) H3.out.1).mono ?_
         rintro e wa ⟨va,rfl,ha,hba⟩
         refine ⟨_,rfl,?_⟩
         obtain ⟨M,mc,rfl⟩:=Kd.R_slice ha
         have hda:=st_ (below_drew (Below.refl wm.heap.size wm)) hba
         have HVa:=mk_ (st_ HVz.out hda)
         have HWa:=mk_ (st_ HWz.out hda)
         have HMA:=mk_ (rr_ ha).2
         clear ha hba hda
         obtain ⟨n0a,n1a,n2a,n3a⟩:=nbox4 (blk_below HN.out HVa.out)
         obtain ⟨h0a,h1a,_⟩:=nbox3 (blk_below HH.out HWa.out)
         have g0a:=(nbox3 (blk_below HG.out HWa.out)).1
         have g1a:=(nbox3 (blk_below HG.out HWa.out)).2.1
         have g2a:=(nbox2 (blk_below HS5.out HVa.out)).2
         have g3a:=(HVa.out.cell (p:=ar.add kk) (wl_ V (ar.add kk) HROW.out)).trans HROW.out
         refine hK.out _ _ ⟨n0a,n1a,n2a,n3a,h0a,h1a,g0a,g1a,g2a,g3a⟩ (fun hHeld => ?_)
         clear hK K
         refine norm_ (a':=?_) ?_ ?_
         rotate_left
         ·show Act.put _ (some 95) _ = _
          simp only [Act.put,sx_,sy_,sz_,i64_w,i32_w]
          rfl
         refine on_ (i:=26) (N:=some 98) 43 134217727 (fun K hK => ?_)
         refine goes_ Try.func14 (by kernel_rfl) rfl #[.slice M m.length mc,.int .i64 y1] (by rfl) rfl rfl (by simp only [List.map_toArray,List.map_cons,List.map_nil];rfl) ?_
         with_reducible refine (HH1.out _ _ wa HMA.out.2 HMA.out.1).mono ?_
         rintro e wb ⟨rfl,hb⟩
         refine ⟨_,rfl,?_⟩
         have hdb:=hb.below
         have HVb:=mk_ (st_ HVa.out hdb)
         have HWb:=mk_ (st_ HWa.out hdb)
         clear hb hdb HMA
         obtain ⟨n0b,n1b,n2b,n3b⟩:=nbox4 (blk_below HN.out HVb.out)
         obtain ⟨h0b,h1b,_⟩:=nbox3 (blk_below HH.out HWb.out)
         have g0b:=(nbox3 (blk_below HG.out HWb.out)).1
         have g1b:=(nbox3 (blk_below HG.out HWb.out)).2.1
         have g2b:=(nbox2 (blk_below HS5.out HVb.out)).2
         have g3b:=(HVb.out.cell (p:=ar.add kk) (wl_ V (ar.add kk) HROW.out)).trans HROW.out
         refine hK.out _ _ ⟨n0b,n1b,n2b,n3b,h0b,h1b,g0b,g1b,g2b,g3b⟩ (fun hHeld => ?_)
         clear hK K
         refine norm_ (a':=?_) ?_ ?_
         rotate_left
         ·show Act.put _ (some 98) _ = _
          simp only [Act.put,sx_,sy_,sz_,i64_w,i32_w]
          rfl
         refine pu_ (i:=27) (N:=some 99) 43 268435455 ?_
         refine pu_ (i:=28) (N:=some 100) 43 536870911 ?_
         refine pu_ (i:=29) (N:=some 101) 43 1073741823 ?_
         refine pu_ (i:=31) (N:=some 103) 43 3221225471 ?_
         refine pu_ (i:=35) (N:=some 107) 43 37580963839 ?_
         refine pu_ (i:=37) (N:=some 109) 43 175019917311 ?_
         refine ta10_ (i:=30) (N:=some 102) 43 176093659135 hHeld ?_
         refine pu_ (i:=32) (N:=some 104) 43 180388626431 ?_
         refine ta10_ (i:=33) (N:=some 105) 43 188978561023 hHeld ?_
         refine ta10_ (i:=34) (N:=some 106) 43 206158430207 hHeld ?_
         refine ta10_ (i:=36) (N:=some 108) 43 274877906943 hHeld ?_
         refine ta10_ (i:=38) (N:=some 110) 43 549755813887 hHeld ?_
         refine on_ (i:=39) (N:=some 111) 43 1099511627775 (fun K hK => ?_)
         refine goes_ Try.func15 (by kernel_rfl) rfl #[.agg #[.int .i64 n,.slice X1 cs.length x1,.slice X2 hs.length x2,.slice X3 vs.length x3],.int .i64 y0,.int .i64 y1] (by rfl) rfl rfl (by simp only [List.map_toArray,List.map_cons,List.map_nil];rfl) ?_
         with_reducible refine (HT.out _ _ _ _ _ _ wb (cb_ H1.out.2 HVb.out) H1.out.1 (cb_ H2.out.2 HVb.out) H2.out.1 (cb_ H3.out.2 HVb.out) H3.out.1).mono ?_
         rintro e wc ⟨vc,rfl,hcc,hbc⟩
         refine ⟨_,rfl,?_⟩
         obtain ⟨Y,yc,rfl⟩:=Kd.R_slice hcc
         have hdc:=hbc
         have HVc:=mk_ (st_ HVb.out hdc)
         have HWc:=mk_ (st_ HWb.out hdc)
         have HYA:=mk_ (rr_ hcc).2
         clear hcc hbc hdc
         obtain ⟨n0c,n1c,n2c,n3c⟩:=nbox4 (blk_below HN.out HVc.out)
         obtain ⟨h0c,h1c,_⟩:=nbox3 (blk_below HH.out HWc.out)
         have g0c:=(nbox3 (blk_below HG.out HWc.out)).1
         have g1c:=(nbox3 (blk_below HG.out HWc.out)).2.1
         have g2c:=(nbox2 (blk_below HS5.out HVc.out)).2
         have g3c:=(HVc.out.cell (p:=ar.add kk) (wl_ V (ar.add kk) HROW.out)).trans HROW.out
         refine hK.out _ _ ⟨n0c,n1c,n2c,n3c,h0c,h1c,g0c,g1c,g2c,g3c⟩ (fun hHeld => ?_)
         clear hK K
         refine norm_ (a':=?_) ?_ ?_
         rotate_left
         ·show Act.put _ (some 111) _ = _
          simp only [Act.put,sx_,sy_,sz_,i64_w,i32_w]
          rfl
         refine on_ (i:=40) (N:=some 112) 43 2199023255551 (fun K hK => ?_)
         refine goes_ Try.func13 (by kernel_rfl) rfl #[.slice Ar rw_.length cr,.slice Y yy.length yc] (by rfl) rfl rfl (by simp only [List.map_toArray,List.map_cons,List.map_nil];rfl) ?_
         with_reducible refine (HJ.out _ _ _ _ wc (cb_ HRW.out.2 HVc.out) HRW.out.1 HYA.out.2 HYA.out.1).mono ?_
         rintro e wd ⟨rfl,hd⟩
         refine ⟨_,rfl,?_⟩
         have hdd:=hd.below
         have HVd:=mk_ (st_ HVc.out hdd)
         have HWd:=mk_ (st_ HWc.out hdd)
         clear hd hdd HYA
         obtain ⟨n0d,n1d,n2d,n3d⟩:=nbox4 (blk_below HN.out HVd.out)
         obtain ⟨h0d,h1d,_⟩:=nbox3 (blk_below HH.out HWd.out)
         have g0d:=(nbox3 (blk_below HG.out HWd.out)).1
         have g1d:=(nbox3 (blk_below HG.out HWd.out)).2.1
         have g2d:=(nbox2 (blk_below HS5.out HVd.out)).2
         have g3d:=(HVd.out.cell (p:=ar.add kk) (wl_ V (ar.add kk) HROW.out)).trans HROW.out
         refine hK.out _ _ ⟨n0d,n1d,n2d,n3d,h0d,h1d,g0d,g1d,g2d,g3d⟩ (fun hHeld => ?_)
         clear hK K
         refine norm_ (a':=?_) ?_ ?_
         rotate_left
         ·show Act.put _ (some 112) _ = _
          simp only [Act.put,sx_,sy_,sz_,i64_w,i32_w]
          rfl
         refine pu_ (i:=41) (N:=some 113) 43 4398046511103 ?_
         refine pu_ (i:=42) (N:=some 114) 43 8796093022207 ?_
         refine done_ (by kernel_rfl) ?_
         go_wp2
         go_roundg (l.length + 1 - (kk + 1))
         case measure => omega
         case rel => exact ⟨kk + 1,by omega,by omega,by omega,by first|rfl|simp [wrap_eq (x:=(kk : Int) + 1) (by omega) (by omega)]|(rw [wrap_eq (by omega) (by omega)];rfl),HVd⟩
      ·have r2 : (z1 = y0) = False:=eq_false c2
       have q2 : (z1 == y0) = false:=beq_eq_false_iff_ne.mpr c2
       obtain ⟨g0,g1,_⟩:=nbox3 HG.out
       obtain ⟨h0,h1,_⟩:=nbox3 HH.out
       clear c1 c2
       refine start_ (n:=43) (S:=fun w' => w'.cell? ⟨bg,0,none⟩ = some (.int .i64 z0) ∧ w'.cell? ⟨bg,1,none⟩ = some (.int .i64 z1) ∧ w'.cell? ⟨bh,0,none⟩ = some (.int .i64 y0) ∧ w'.cell? ⟨bh,1,none⟩ = some (.int .i64 y1)) (ds:=[]) #[false,false,false,false,false,false,false,false,false,false,false,false,false,false,false,false,false,false,false,false,false,false,false,false,false,false,false,false,false,false,false,false,false,false,false,false,false,false,false,false,false,false,false] (by kernel_rfl) rfl rfl ⟨g0,g1,h0,h1⟩ (fun hHeld => ?_)
       refine pu_ (i:=0) (N:=some 72) 43 1 ?_
       refine pu_ (i:=2) (N:=some 74) 43 5 ?_
       refine ta4_ (i:=1) (N:=some 73) 43 7 hHeld ?_
       refine ta4_ (i:=3) (N:=some 75) 43 15 hHeld ?_
       refine pu_ (i:=4) (N:=some 76) 43 31 ?_
       refine pu_ (i:=5) (N:=some 77) 43 63 ?_
       refine pu_ (i:=6) (N:=some 78) 43 127 ?_
       refine pu_ (i:=8) (N:=some 80) 43 383 ?_
       refine ta4_ (i:=7) (N:=some 79) 43 511 hHeld ?_
       refine ta4_ (i:=9) (N:=some 81) 43 1023 hHeld ?_
       refine pu_ (i:=10) (N:=some 82) 43 2047 ?_
       refine pu_ (i:=11) (N:=some 83) 43 4095 ?_
       refine pu_ (i:=12) (N:=some 84) 43 8191 ?_
       refine pz_ (i:=13) (N:=some 85) 43 16383 ?_
       refine pz_ (i:=14) (N:=some 86) 43 32767 ?_
       refine pz_ (i:=15) (N:=some 87) 43 65535 ?_
       refine pz_ (i:=16) (N:=some 88) 43 131071 ?_
       refine pz_ (i:=17) (N:=some 89) 43 262143 ?_
       refine pu_ (i:=18) (N:=some 90) 43 524287 ?_
       refine pu_ (i:=19) (N:=some 91) 43 1048575 ?_
       refine pz_ (i:=20) (N:=some 92) 43 2097151 ?_
       refine pz_ (i:=21) (N:=some 93) 43 4194303 ?_
       refine pz_ (i:=22) (N:=some 94) 43 8388607 ?_
       refine pz_ (i:=23) (N:=some 95) 43 16777215 ?_
       refine pz_ (i:=24) (N:=some 96) 43 33554431 ?_
       refine pz_ (i:=25) (N:=some 97) 43 67108863 ?_
       refine pz_ (i:=26) (N:=some 98) 43 134217727 ?_
       refine pu_ (i:=27) (N:=some 99) 43 268435455 ?_
       refine pu_ (i:=28) (N:=some 100) 43 536870911 ?_
       refine pz_ (i:=29) (N:=some 101) 43 1073741823 ?_
       refine pz_ (i:=30) (N:=some 102) 43 2147483647 ?_
       refine pz_ (i:=31) (N:=some 103) 43 4294967295 ?_
       refine pz_ (i:=32) (N:=some 104) 43 8589934591 ?_
       refine pz_ (i:=33) (N:=some 105) 43 17179869183 ?_
       refine pz_ (i:=34) (N:=some 106) 43 34359738367 ?_
       refine pz_ (i:=35) (N:=some 107) 43 68719476735 ?_
       refine pz_ (i:=36) (N:=some 108) 43 137438953471 ?_
       refine pz_ (i:=37) (N:=some 109) 43 274877906943 ?_
       refine pz_ (i:=38) (N:=some 110) 43 549755813887 ?_
       refine pz_ (i:=39) (N:=some 111) 43 1099511627775 ?_
       refine pz_ (i:=40) (N:=some 112) 43 2199023255551 ?_
       refine pz_ (i:=41) (N:=some 113) 43 4398046511103 ?_
       refine pu_ (i:=42) (N:=some 114) 43 8796093022207 ?_
       refine done_ (by kernel_rfl) ?_
       go_wp2
       go_roundg (l.length + 1 - (kk + 1))
       case measure => omega
       case rel => exact ⟨kk + 1,by omega,by omega,by omega,by first|rfl|simp [wrap_eq (x:=(kk : Int) + 1) (by omega) (by omega)]|(rw [wrap_eq (by omega) (by omega)];rfl),⟨bd_ HVm.out⟩⟩
     ·have r1 : (z0 = y1) = False:=eq_false c1
      have q1 : (z0 == y1) = false:=beq_eq_false_iff_ne.mpr c1
      obtain ⟨g0,g1,_⟩:=nbox3 HG.out
      obtain ⟨h0,h1,_⟩:=nbox3 HH.out
      clear c1
      refine start_ (n:=43) (S:=fun w' => w'.cell? ⟨bg,0,none⟩ = some (.int .i64 z0) ∧ w'.cell? ⟨bg,1,none⟩ = some (.int .i64 z1) ∧ w'.cell? ⟨bh,0,none⟩ = some (.int .i64 y0) ∧ w'.cell? ⟨bh,1,none⟩ = some (.int .i64 y1)) (ds:=[]) #[false,false,false,false,false,false,false,false,false,false,false,false,false,false,false,false,false,false,false,false,false,false,false,false,false,false,false,false,false,false,false,false,false,false,false,false,false,false,false,false,false,false,false] (by kernel_rfl) rfl rfl ⟨g0,g1,h0,h1⟩ (fun hHeld => ?_)
      refine pu_ (i:=0) (N:=some 72) 43 1 ?_
      refine pu_ (i:=2) (N:=some 74) 43 5 ?_
      refine ta4_ (i:=1) (N:=some 73) 43 7 hHeld ?_
      refine ta4_ (i:=3) (N:=some 75) 43 15 hHeld ?_
      refine pu_ (i:=4) (N:=some 76) 43 31 ?_
      refine pu_ (i:=5) (N:=some 77) 43 63 ?_
      refine pz_ (i:=6) (N:=some 78) 43 127 ?_
      refine pz_ (i:=7) (N:=some 79) 43 255 ?_
      refine pz_ (i:=8) (N:=some 80) 43 511 ?_
      refine pz_ (i:=9) (N:=some 81) 43 1023 ?_
      refine pz_ (i:=10) (N:=some 82) 43 2047 ?_
      refine pu_ (i:=11) (N:=some 83) 43 4095 ?_
      refine pu_ (i:=12) (N:=some 84) 43 8191 ?_
      refine pz_ (i:=13) (N:=some 85) 43 16383 ?_
      refine pz_ (i:=14) (N:=some 86) 43 32767 ?_
      refine pz_ (i:=15) (N:=some 87) 43 65535 ?_
      refine pz_ (i:=16) (N:=some 88) 43 131071 ?_
      refine pz_ (i:=17) (N:=some 89) 43 262143 ?_
      refine pu_ (i:=18) (N:=some 90) 43 524287 ?_
      refine pu_ (i:=19) (N:=some 91) 43 1048575 ?_
      refine pz_ (i:=20) (N:=some 92) 43 2097151 ?_
      refine pz_ (i:=21) (N:=some 93) 43 4194303 ?_
      refine pz_ (i:=22) (N:=some 94) 43 8388607 ?_
      refine pz_ (i:=23) (N:=some 95) 43 16777215 ?_
      refine pz_ (i:=24) (N:=some 96) 43 33554431 ?_
      refine pz_ (i:=25) (N:=some 97) 43 67108863 ?_
      refine pz_ (i:=26) (N:=some 98) 43 134217727 ?_
      refine pu_ (i:=27) (N:=some 99) 43 268435455 ?_
      refine pu_ (i:=28) (N:=some 100) 43 536870911 ?_
      refine pz_ (i:=29) (N:=some 101) 43 1073741823 ?_
      refine pz_ (i:=30) (N:=some 102) 43 2147483647 ?_
      refine pz_ (i:=31) (N:=some 103) 43 4294967295 ?_
      refine pz_ (i:=32) (N:=some 104) 43 8589934591 ?_
      refine pz_ (i:=33) (N:=some 105) 43 17179869183 ?_
      refine pz_ (i:=34) (N:=some 106) 43 34359738367 ?_
      refine pz_ (i:=35) (N:=some 107) 43 68719476735 ?_
      refine pz_ (i:=36) (N:=some 108) 43 137438953471 ?_
      refine pz_ (i:=37) (N:=some 109) 43 274877906943 ?_
      refine pz_ (i:=38) (N:=some 110) 43 549755813887 ?_
      refine pz_ (i:=39) (N:=some 111) 43 1099511627775 ?_
      refine pz_ (i:=40) (N:=some 112) 43 2199023255551 ?_
      refine pz_ (i:=41) (N:=some 113) 43 4398046511103 ?_
      refine pu_ (i:=42) (N:=some 114) 43 8796093022207 ?_
      refine done_ (by kernel_rfl) ?_
      go_wp2
      go_roundg (l.length + 1 - (kk + 1))
      case measure => omega
      case rel => exact ⟨kk + 1,by omega,by omega,by omega,by first|rfl|simp [wrap_eq (x:=(kk : Int) + 1) (by omega) (by omega)]|(rw [wrap_eq (by omega) (by omega)];rfl),⟨bd_ HVm.out⟩⟩
    ·have p2 : ((kk : Int) < (l.length : Int)) = False:=eq_false (by omega)
     go_wp2
     go_ret
     exact ⟨by first|rfl|simp,st_ HB.out HV.out⟩
 ·rw [if_neg hw] at h
  cases h
/-- The pure statement of laws_FnNetAnswer. -/
def laws_FnNetAnswer.Pure : Prop:=∀ (l0 : List Int),l0.length ≤ maxLen → l0.length * 1 ≤ 140737488351232 → (∀ x ∈ l0,(Lit.int .u8 x).wf = true) → ∃ k,laws_FnNetAnswer.f k l0 = some true
theorem laws_FnNetAnswer.walk (P : laws_FnNetAnswer.Pure) (a0 : Option Addr) (len0 cap0 : Nat) (z0 : List Int) (w : World) (w0 : (a0 = none ∧ len0 = 0 ∧ cap0 = 0 ∧ z0 = []) ∨ ∃ x,a0 = some x ∧ len0 ≤ cap0 ∧ cap0 ≤ maxLen ∧ z0.length = cap0 ∧ (∀ i,i < z0.length → w.cell? (x.add i) = some (.int .u8 (z0.getD i 0))) ∧ ∀ n ∈ z0,(Lit.int .u8 n).wf = true) (y0 : len0 * 1 ≤ 140737488351232) :
  Calls Try.prog 4 #[.slice a0 len0 cap0] w fun e w' => e = .returned (.bool true) ∧ Below w.heap.size w w':=by
 obtain ⟨l0,rfl,hr0,hm0,hw0,hc0⟩:=ReadsInt.ofRowC w0
 obtain ⟨k,h⟩:=P l0 hm0 y0 hw0
 refine (laws_FnNetAnswer.calls k _ _ l0 true _ (Kd.C_of_reads (d:=(0 : Int)) (h1:=fun _ => rfl) hr0) hc0 h).mono ?_
 rintro e w' ⟨rfl,hd⟩
 exact ⟨rfl,hd⟩
end Go.Proofs.Ytblcnbnphjnhdaa.PAll
