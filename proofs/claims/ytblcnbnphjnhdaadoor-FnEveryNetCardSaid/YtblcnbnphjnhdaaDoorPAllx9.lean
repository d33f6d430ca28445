/- Proved here: contracts of functions of the given program, or lemmas on them, for the laws of this seat. Written by xprint.py, a program of this session, on the ground of the kit's print; parts by hand: wip/x/ext. -/
import Derived.Test.YtblcnbnphjnhdaaDoorPAllx0
import Derived.Test.YtblcnbnphjnhdaaDoorPAllx1
import Derived.Test.YtblcnbnphjnhdaaDoorPAllx2
import Derived.Test.YtblcnbnphjnhdaaDoorPAllx4
import Derived.Test.YtblcnbnphjnhdaaDoorPAllx5
import Derived.Test.YtblcnbnphjnhdaaDoorPAllx6
import Derived.Test.YtblcnbnphjnhdaaDoorPAllx7
import Derived.Test.YtblcnbnphjnhdaaDoorPAllx8
namespace Go.Proofs.YtblcnbnphjnhdaaDoor.PAll
open Go.RowKit Go.Proofs.YtblcnbnphjnhdaaDoorW.PrintWords Go.Proofs.YtblcnbnphjnhdaaDoorW.PrintLast Go.Proofs.YtblcnbnphjnhdaaDoorW.PrintMore
attribute [local go_sem] max2_int min2_int max_two min_two max_three min_three max_four min_four   -- for this text's walks alone
set_option linter.unusedVariables false
set_option linter.unusedSimpArgs false

-- LIB netlaw3
section
variable {N : Nat} {cs : List S71} {hs vs : List Int} {F : Nat} {v rc : Int}
theorem NV.cab (h : NV N cs hs vs F v rc) : cabsB (N : Int) cs = true:=(netB_facts h.hn).1
theorem NV.home (h : NV N cs hs vs F v rc) {S : Nat} (hS : S < hs.length) : rd hs S = (hmN hs S : Int) ∧ hmN hs S < N:=by
 have:=(netB_more h.hn).2.2.2.1 S hS
 unfold hmN
 exact ⟨by omega,by omega⟩
def szF (st : RN) (w : Nat) : Prop:=st.over.length + w + 1 < 1000000000000 ∧ st.took.length + 15 * w < 1000000000000 ∧ st.n + w < 1000000000000
theorem send_ok (nv : NV N cs hs vs F v rc) {f : Nat} (ih : ComeOK N cs hs vs F v rc f) {k y : Int} {b o : Nat} (hk : TJ N cs k b o) (hne : k ≠ y) (hat : AtB N cs (hmN hs F) b y) (hmu : muN N cs b y ≤ f + 1) {st : RN} (hI : InvT N cs hs vs st.T) (hsz : szF st (wtN N cs o k)) :
  ∃ st',sendN cs (comeN cs (treeX (N : Int) cs) hs vs v F rc f) b k st = some st' ∧ Base N cs hs vs F v rc (wtN N cs o k) b st st' ∧ (∀ t,t < N → gD (rootsL N cs) t = gD (rootsL N cs) b → Sep N cs k b t → Tgt hs vs v rc t → Concl N cs hs vs F v rc b t st') ∧ Narrow N cs hs vs F v rc b (fun t => Sep N cs k b t) st st':=by
 have hv:=nv.cab
 obtain ⟨hbl,hol⟩:=hk.lt hv
 have hhF:=(nv.home nv.hF).2
 have hro:=hk.root hv
 have hat2 : AtB N cs (hmN hs F) o k:=by
  refine ⟨hro.symm.trans hat.1,Or.inr ⟨b,hk.symm,Classical.byContradiction (fun h => ?_)⟩⟩
  have h1:=(sep_flip hv hk (hmN hs F)).2 h
  rcases hat.2 with ⟨_,e⟩ | ⟨o2,h2,h3⟩
  ·rw [e] at h1
   exact sep_self _ _ h1
  ·exact hne (sep_one hv hhF hk h2 h1 h3)
 have hmu2 : muN N cs o k ≤ f:=by
  have:=mu_lt hv hk hne
  omega
 unfold sendN
 rw [if_pos (by have:=hsz.1;omega),tj_oth hv hk]
 have hwt : 1 ≤ wtN N cs o k:=by
  have:=wl_all hv hol k (l:=[]) (by simp)
  omega
 -- the length behind the cable
 have hcm:=ih o k { st with over:=st.over ++ [k] } hol hI hat2 hmu2
 have hl0 : (st.over ++ [k]).length = st.over.length + 1:=by simp
 have hs2 : szN { st with over:=st.over ++ [k] } (wtN N cs o k):=⟨by show (st.over ++ [k]).length + _ < _;have:=hsz.1;omega,by have:=hsz.2.1;show st.took.length + _ < _;omega,by have:=hsz.2.2;show st.n + _ < _;omega⟩
 obtain ⟨st',h1,h2,h3,h4,h5,h6⟩:=hcm hs2
 ·skip
  have hl : (st.over ++ [k]).length = st.over.length + 1:=by simp
  refine ⟨st',h1,⟨?_,h2.lt,h2.ln,h2.inv,h2.old,h2.oth,fun j hj => h2.ov0 j (List.mem_append_left _ hj),fun j hj => ?_,h2.tk0,fun s hs' => (h2.tk1 s hs').imp id (fun ⟨S,a1,a2,a3,a4,a5,a6⟩ => ⟨S,a1,a2,a3,a4,a5,a6.trans hro.symm⟩)⟩,?_,?_⟩
  ·have : st'.over.length + 1 ≤ (st.over ++ [k]).length + wtN N cs o k:=h3
   omega
  ·rcases h2.ov1 j hj with h | ⟨e,o2,a1,a2⟩
   ·rcases List.mem_append.1 h with h | h
    ·exact Or.inl h
    ·rw [List.mem_singleton.1 h]
     exact Or.inr ⟨b,o,hk,rfl⟩
   ·exact Or.inr ⟨e,o2,a1,a2.trans hro.symm⟩
  ·intro t ht hr hs3 htg
   obtain ⟨c1,c2,c3⟩:=h5 t ht (hr.trans hro) ((sep_flip hv hk t).1 hs3) htg
   refine ⟨c1,fun j hj => ?_,fun c hc hrc hcb hp => ?_⟩
   ·by_cases e : j = k
    ·subst e
     exact h2.ov0 _ (List.mem_append_right _ List.mem_cons_self)
    ·exact c2 j ((sep_keep hv hk e t).1 hj)
   ·obtain ⟨g1,g2⟩:=hop_one hv hk ht hs3 hc hrc hcb hp
    by_cases e : c = o
    ·rw [e];exact h4
    ·exact c3 c hc (hrc.trans hro) e g2
  ·intro R hR hRl hRF hRv hRr hs3 hkn j hj
   rcases h6 R hR hRl hRF hRv (hRr.trans hro) ((sep_flip hv hk _).1 hs3) (fun c hc hrc hp => hkn c hc (hrc.trans hro.symm) (onp_out hv hk hs3 hp)) j hj with h | h
   ·rcases List.mem_append.1 h with h | h
    ·exact Or.inl h
    ·rw [List.mem_singleton.1 h]
     exact Or.inr hs3
   ·by_cases e : j = k
    ·rw [e];exact Or.inr hs3
    ·exact Or.inr ((sep_keep hv hk e _).2 h)
theorem flood_ok (nv : NV N cs hs vs F v rc) {f : Nat} (ih : ComeOK N cs hs vs F v rc f) {y : Int} {b : Nat} (hb : b < N) (hat : AtB N cs (hmN hs F) b y) (hmu : muN N cs b y ≤ f + 1) (l : List Int) :
  (∀ k ∈ l,k ∈ treeX (N : Int) cs) → l.Nodup → ∀ st : RN,InvT N cs hs vs st.T → szF st (wlN N cs b y l) →
  ∃ st',floodN cs (comeN cs (treeX (N : Int) cs) hs vs v F rc f) b y l st = some st' ∧ Base N cs hs vs F v rc (wlN N cs b y l) b st st' ∧ (∀ k ∈ l,∀ o,TJ N cs k b o → k ≠ y → ∀ t,t < N → gD (rootsL N cs) t = gD (rootsL N cs) b → Sep N cs k b t → Tgt hs vs v rc t → Concl N cs hs vs F v rc b t st'):=by
 have hv:=nv.cab
 induction l with
 | nil =>
  intro _ _ st hI _
  exact ⟨st,rfl,(Base.refl hI).wide (Nat.zero_le _),fun k hk => by cases hk⟩
 | cons k l ihl =>
  intro htr hnd st hI hsz
  have hnd2:=(List.nodup_cons.1 hnd).2
  have htr2 : ∀ k ∈ l,k ∈ treeX (N : Int) cs:=fun j hj => htr j (List.mem_cons_of_mem _ hj)
  rw [floodN]
  rcases oth_tj hv (htr k List.mem_cons_self) b with ⟨o,h1,h2⟩ | ⟨h1,h2⟩
  ·rw [h1]
   by_cases hky : k = y
   ·rw [if_neg (fun h => h.2 hky)]
    have hw:=wl_skip (N:=N) (cs:=cs) (k:=k) (y:=y) (b:=b) (l:=l)
    obtain ⟨st',g1,g2,g3⟩:=ihl htr2 hnd2 st hI ⟨by have:=hsz.1;omega,by have:=hsz.2.1;omega,by have:=hsz.2.2;omega⟩
    refine ⟨st',g1,g2.wide hw,fun j hj o2 hj2 hjy => ?_⟩
    rcases List.mem_cons.1 hj with e | hj
    ·exact absurd (e.trans hky) hjy
    ·exact g3 j hj o2 hj2 hjy
   ·rw [if_pos ⟨rfl,hky⟩]
    have hw:=wl_cons hv h2 hky hnd
    obtain ⟨st1,s1,s2,s3,_⟩:=send_ok nv ih h2 hky hat hmu hI ⟨by have:=hsz.1;omega,by have:=hsz.2.1;omega,by have:=hsz.2.2;omega⟩
    have l1:=s2.lo
    have l2:=s2.lt
    have l3:=s2.ln
    obtain ⟨st',g1,g2,g3⟩:=ihl htr2 hnd2 st1 s2.inv ⟨by have:=hsz.1;omega,by have:=hsz.2.1;omega,by have:=hsz.2.2;omega⟩
    rw [s1,Option.bind_some]
    refine ⟨st',g1,(s2.trans g2).wide hw,fun j hj o2 hj2 hjy t ht hr hs3 htg => ?_⟩
    rcases List.mem_cons.1 hj with e | hj
    ·subst e
     exact (s3 t ht hr hs3 htg).grow g2
    ·exact g3 j hj o2 hj2 hjy t ht hr hs3 htg
  ·rw [h1,if_neg (fun h => by cases h.1)]
   have hw:=wl_skip (N:=N) (cs:=cs) (k:=k) (y:=y) (b:=b) (l:=l)
   obtain ⟨st',g1,g2,g3⟩:=ihl htr2 hnd2 st hI ⟨by have:=hsz.1;omega,by have:=hsz.2.1;omega,by have:=hsz.2.2;omega⟩
   refine ⟨st',g1,g2.wide hw,fun j hj o2 hj2 hjy => ?_⟩
   rcases List.mem_cons.1 hj with e | hj
   ·rw [e] at hj2
    exact absurd hj2 (h2 o2)
   ·exact g3 j hj o2 hj2 hjy
theorem inv_put (nv : NV N cs hs vs F v rc) {T : TabN} (hI : InvT N cs hs vs T) {b : Nat} (hb : b < N) {y : Int} (hat : AtB N cs (hmN hs F) b y) : InvT N cs hs vs (putN T b v F y):=by
 intro b2 v2 s2 x h
 unfold putN at h
 by_cases hc : b2 = (b : Int) ∧ v2 = v ∧ s2 = (F : Int)
 ·rw [if_pos hc] at h
  obtain rfl:=Option.some.inj h
  exact ⟨b,F,hc.1,hc.2.2,hb,nv.hF,by rw [hc.2.1,nv.hv],hat.1,hat.2⟩
 ·rw [if_neg hc] at h
  exact hI b2 v2 s2 x h
theorem come_ok (nv : NV N cs hs vs F v rc) (f : Nat) : ComeOK N cs hs vs F v rc f:=by
  have hv:=nv.cab
  induction f with
  | zero =>
    intro b y st hb _ _ hmu
    have:=wL_len hv hb
    unfold muN at hmu
    split at hmu <;> omega
  | succ f ih =>
    intro b y st hb hI hat hmu hsz
    have hN8:=(cabsB_facts hv).2.1
    have hlh:=(netB_more nv.hn).2.1
    have hwm:=wt_max hv hb y
    have hI1:=inv_put nv hI hb hat
    have hw1:=wl_all hv hb y (treeX_len (N : Int) cs)
    have hT1F : putN st.T b v F y b v F = some y:=by unfold putN;rw [if_pos ⟨rfl,rfl,rfl⟩]
    have hold : ∀ x z s,st.T x z s ≠ none → putN st.T b v F y x z s ≠ none:=fun x z s h => by
      unfold putN
      split
      · exact fun h => by cases h
      · exact h
    have hoth : ∀ x z s,¬ (z = v ∧ s = (F : Int)) → putN st.T b v F y x z s = st.T x z s:=fun x z s h => by
      unfold putN
      rw [if_neg (fun h2 => h h2.2)]
    -- the store alone
    have hB0 : ∀ l : List Int,(∀ s,s ∈ l ↔ s ∈ st.took ∨ ∃ S : Nat,s = (S : Int) ∧ S < hs.length ∧ S ≠ F ∧ (rc = S ∨ rc = 15) ∧ rd vs S = v ∧ hmN hs S = b) → l.length ≤ st.took.length + 15 → Base N cs hs vs F v rc 1 b st { T:=putN st.T b v F y,took:=l,over:=st.over,n:=st.n + 1 }:=fun l hl hll =>
      ⟨by show st.over.length ≤ st.over.length + 1;omega,by show l.length ≤ _;omega,Nat.le_refl _,hI1,hold,hoth,fun _ h => h,fun _ h => Or.inl h,fun s h => (hl s).2 (Or.inl h),fun s h => ((hl s).1 h).imp id (fun ⟨S,a1,a2,a3,a4,a5,a6⟩ => ⟨S,a1,a2,a3,a4,a5,by rw [a6]⟩)⟩
    have self : ∀ st' : RN,st'.T = putN st.T b v F y → (∀ S : Nat,S < hs.length → hmN hs S = b → rd vs S = v → S ≠ F → (rc = S ∨ rc = 15) → (S : Int) ∈ st'.took) → Concl N cs hs vs F v rc b b st':=fun st' hT h => ⟨h,fun j hj => absurd hj (sep_self j b),fun c hc hr hne hp => by
      obtain ⟨k,o,h1,h2⟩:=sep_some hv hb hc hr.symm (fun e => hne e.symm)
      exact absurd ⟨h2,sep_symm h2⟩ (hp k)⟩
    rw [comeN,if_pos ⟨by have:=hsz.2.2;omega,by have:=hsz.2.1;omega,by omega,by omega⟩]
    cases hm : (if rc = 15 then none else putN st.T b v F y b v rc) with
    | some x =>
      have h15 : rc ≠ 15:=fun h => by rw [if_pos h] at hm;cases hm
      rw [if_neg h15] at hm
      obtain ⟨B,R,e1,e2,hB,hR,hvR,hrt,hx⟩:=hI1 _ _ _ _ hm
      obtain rfl : b = B:=by omega
      subst e2
      have hrR : ∀ t,Tgt hs vs v R t → t = hmN hs R:=fun t ht => by
        rcases ht with h | ⟨R2,h1,_,_,h4⟩
        · exact absurd h h15
        · have : R2 = R:=by omega
          rw [h4,this]
      simp only []
      by_cases hx1 : x = -1
      · have hbR : b = hmN hs R := by
          rcases hx with h | ⟨o,h,_⟩
          · exact h.2
          · have:=(tj_pos h).1
            omega
        rw [if_pos hx1]
        have hl : ∀ s,s ∈ takeN F R R st.took ↔ s ∈ st.took ∨ ∃ S : Nat,s = (S : Int) ∧ S < hs.length ∧ S ≠ F ∧ ((R : Int) = S ∨ (R : Int) = 15) ∧ rd vs S = v ∧ hmN hs S = b:=fun s => by
          rw [takeN_mem]
          refine or_congr Iff.rfl ⟨fun ⟨a1,a2,a3⟩ => ⟨R,a1,hR,by omega,Or.inl rfl,hvR.symm,hbR.symm⟩,fun ⟨S,a1,a2,a3,a4,a5,a6⟩ => ?_⟩
          have : S = R:=by
            rcases a4 with h | h
            · omega
            · exact absurd h h15
          subst this
          exact ⟨a1,by omega,Or.inl rfl⟩
        have hbase:=hB0 _ hl (by have:=takeN_len F R R st.took;omega)
        refine ⟨_,rfl,hbase.wide (by omega),by show st.over.length + 1 ≤ _;omega,(by show putN st.T b v F y b v F ≠ none;rw [hT1F];exact fun h => nomatch h),fun t ht hr hs3 htg => ?_,fun R2 _ _ _ _ _ _ _ j hj => Or.inl hj⟩
        rw [hrR t htg,← hbR]
        exact self _ rfl (fun S a1 a2 a3 a4 a5 => (hl S).2 (Or.inr ⟨S,rfl,a1,a4,a5,a3,a2⟩))
      · rw [if_neg hx1]
        obtain ⟨o,hk,hsx⟩ : ∃ o,TJ N cs x b o ∧ Sep N cs x b (hmN hs R):=by
          rcases hx with h | h
          · exact absurd h.1 hx1
          · exact h
        by_cases hxy : x = y
        · rw [if_pos hxy]
          have hbase:=hB0 st.took (fun s => ⟨Or.inl,fun h => h.elim id (fun ⟨S,a1,a2,a3,a4,a5,a6⟩ => by
            have : S = R:=by
              rcases a4 with h | h
              · omega
              · exact absurd h h15
            rw [this] at a6
            rw [a6] at hsx
            exact absurd hsx (sep_self _ _))⟩) (by omega)
          refine ⟨_,rfl,hbase.wide (by omega),by show st.over.length + 1 ≤ _;omega,(by show putN st.T b v F y b v F ≠ none;rw [hT1F];exact fun h => nomatch h),fun t ht hr hs3 htg => ?_,fun R2 _ _ _ _ _ _ _ j hj => Or.inl hj⟩
          rw [hrR t htg,← hxy] at hs3
          exact absurd hsx hs3
        · rw [if_neg hxy,if_pos (tj_pos hk)]
          have hw:=wl_cons hv hk hxy (l:=[]) (by simp)
          have hw2:=wl_all hv hb y (l:=[x]) (by simp)
          obtain ⟨st',s1,s2,s3,s4⟩:=send_ok nv ih hk hxy hat hmu (st:={ T:=putN st.T b v F y,took:=st.took,over:=st.over,n:=st.n + 1 }) hI1 ⟨by have:=hsz.1;show st.over.length + _ + 1 < _;omega,by have:=hsz.2.1;show st.took.length + _ < _;omega,by have:=hsz.2.2;show st.n + 1 + _ < _;omega⟩
          have hbase : Base N cs hs vs F v R 1 b st { T:=putN st.T b v F y,took:=st.took,over:=st.over,n:=st.n + 1 } :=
            ⟨by show st.over.length ≤ _;omega,by show st.took.length ≤ _;omega,Nat.le_refl _,hI1,hold,hoth,fun _ h => h,fun _ h => Or.inl h,fun _ h => h,fun _ h => Or.inl h⟩
          have lo:=s2.lo
          refine ⟨st',s1,(hbase.trans s2).wide (by omega),by have h : st'.over.length ≤ st.over.length + wtN N cs o x:=lo;omega,s2.old _ _ _ ((by show putN st.T b v F y b v F ≠ none;rw [hT1F];exact fun h => nomatch h)),fun t ht hr hs3 htg => ?_,fun R2 hR2 hR2l hR2F hR2v hR2r hs3 hkn j hj => ?_⟩
          · refine s3 t ht hr ?_ htg
            rw [hrR t htg]
            exact hsx
          · have e : R2 = R:=by omega
            subst e
            refine s4 R2 rfl hR2l hR2F hR2v hR2r hsx (fun c hc hrc hp => ?_) j hj
            show putN st.T b v F y c v R2 ≠ none
            rw [hoth _ _ _ (fun h => hR2F (by omega))]
            exact hkn c hc hrc hp
    | none =>
      simp only []
      obtain ⟨st2,g1,g2,g3⟩:=flood_ok nv ih hb hat hmu (treeX (N : Int) cs) (fun _ h => h) (tree_nodup hv) { T:=putN st.T b v F y,took:=st.took,over:=st.over,n:=st.n + 1 } hI1 ⟨by have:=hsz.1;show st.over.length + _ + 1 < _;omega,by have:=hsz.2.1;show st.took.length + _ < _;omega,by have:=hsz.2.2;show st.n + 1 + _ < _;omega⟩
      rw [g1,Option.bind_some]
      have l2:=g2.lt
      have l2' : st2.took.length ≤ st.took.length + 15 * wlN N cs b y (treeX (N : Int) cs):=l2
      unfold leaveN
      rw [if_pos (by have:=hsz.2.1;omega)]
      obtain ⟨m1,m2⟩:=stN_mem hs vs (b : Int) v (F : Int) rc hs.length 0 st2.took
      have hhm : ∀ S : Nat,S < hs.length → (rd hs S = (b : Int) ↔ hmN hs S = b):=fun S hS => by
        have:=(nv.home hS).1
        omega
      have hbase : Base N cs hs vs F v rc 1 b st { T:=putN st.T b v F y,took:=st.took,over:=st.over,n:=st.n + 1 } :=
        ⟨by show st.over.length ≤ _;omega,by show st.took.length ≤ _;omega,Nat.le_refl _,hI1,hold,hoth,fun _ h => h,fun _ h => Or.inl h,fun _ h => h,fun _ h => Or.inl h⟩
      have hb2:=hbase.trans g2
      have lo:=g2.lo
      have lo' : st2.over.length ≤ st.over.length + wlN N cs b y (treeX (N : Int) cs):=lo
      have ln':=hb2.ln
      have hfin : Base N cs hs vs F v rc (wtN N cs b y) b st { st2 with took:=stN hs vs b v F rc hs.length 0 st2.took } :=
        ⟨by show st2.over.length ≤ _;omega,by show (stN hs vs b v F rc hs.length 0 st2.took).length ≤ _;have : (stN hs vs b v F rc hs.length ((0 : Nat) : Int) st2.took).length ≤ st2.took.length + hs.length:=m2;have e : ((0 : Nat) : Int) = 0:=rfl;rw [e] at this;omega,by show st2.n ≤ _;omega,hb2.inv,hb2.old,hb2.oth,hb2.ov0,hb2.ov1,fun s h => (m1 s).2 (Or.inl (hb2.tk0 s h)),fun s h => by
          rcases (m1 s).1 h with h | ⟨S,a1,a2,a3,a4,a5,a6,a7⟩
          · exact hb2.tk1 s h
          · exact Or.inr ⟨S,a3,by omega,by omega,a7,a5,by rw [(hhm S (by omega)).1 a4]⟩⟩
      have hTF : st2.T b v F ≠ none:=g2.old _ _ _ ((by show putN st.T b v F y b v F ≠ none;rw [hT1F];exact fun h => nomatch h))
      refine ⟨_,rfl,hfin,by show st2.over.length + 1 ≤ _;omega,hTF,fun t ht hr hs3 htg => ?_,fun R hR hRl hRF hRv hRr hs3 hkn j hj => ?_⟩
      · by_cases htb : t = b
        · subst htb
          refine ⟨fun S a1 a2 a3 a4 a5 => (m1 S).2 (Or.inr ⟨S,Nat.zero_le _,by omega,rfl,(hhm S a1).2 a2,a3,by omega,a5⟩),fun j hj => absurd hj (sep_self j t),fun c hc hrc hne hp => ?_⟩
          obtain ⟨k,o,h1,h2⟩:=sep_some hv hb hc hrc.symm (fun e => hne e.symm)
          exact absurd ⟨h2,sep_symm h2⟩ (hp k)
        · obtain ⟨k,o,h1,h2⟩:=sep_some hv hb ht hr.symm (fun e => htb e.symm)
          have hky : k ≠ y:=fun e => hs3 (e ▸ h2)
          obtain ⟨c1,c2,c3⟩:=g3 k (tj_tree hv h1) o h1 hky t ht hr h2 htg
          exact ⟨fun S a1 a2 a3 a4 a5 => (m1 S).2 (Or.inl (c1 S a1 a2 a3 a4 a5)),c2,c3⟩
      · have h1:=hkn b hb rfl (fun j h => sep_self _ _ h.1)
        have h15 : rc ≠ 15:=by omega
        rw [if_neg h15,hR,hoth _ _ _ (fun h => hRF (by omega))] at hm
        exact absurd hm h1
end

-- LIB netsim
def encY (y : Int) : Int:=if y = -1 then -2 else y
def encO : Option Int → Int
 | none => -1
 | some x => encY x
def MkOf (m : List Bool) (n : Nat) (l : List Int) : Prop:=m.length = n ∧ ∀ i : Nat,i < n → (rdOf false m (i : Int) = true ↔ (i : Int) ∈ l)
structure Sim (N : Nat) (cs : List S71) (hs : List Int) (st : RN) (ss : SN) : Prop where
 tl : ss.tabs.length = N * 150
 tb : ∀ b v s : Nat,b < N → v ≤ 9 → s < 15 → rd ss.tabs (atS b v s) = encO (st.T b v s)
 tk : MkOf ss.took hs.length st.took
 ov : MkOf ss.over cs.length st.over
theorem rdB_nat (m : List Bool) (i : Nat) : rdOf false m (i : Int) = m.getD i false:=by simp [rdOf]
theorem mk_set {m : List Bool} {n : Nat} {l l2 : List Int} (h : MkOf m n l) (K : Nat) (h2 : ∀ i : Nat,i < n → ((i : Int) ∈ l2 ↔ (i : Int) ∈ l ∨ i = K)) : MkOf (m.set K true) n l2:=by
 refine ⟨by rw [List.length_set];exact h.1,fun i hi => ?_⟩
 have h3:=h.2 i hi
 rw [rdB_nat] at h3 ⊢
 rw [h2 i hi,← h3,List.getD_eq_getElem?_getD,List.getD_eq_getElem?_getD,List.getElem?_set]
 by_cases e : K = i
 ·subst e
  rw [if_pos rfl,if_pos (by rw [h.1];exact hi)]
  simp
 ·rw [if_neg e]
  exact ⟨Or.inl,fun h4 => h4.elim id (fun h5 => absurd h5.symm e)⟩
theorem mk_same {m : List Bool} {n : Nat} {l l2 : List Int} (h : MkOf m n l) (h2 : ∀ i : Nat,i < n → ((i : Int) ∈ l2 ↔ (i : Int) ∈ l)) : MkOf m n l2:=⟨h.1,fun i hi => (h.2 i hi).trans (h2 i hi).symm⟩
theorem give_mk (hs vs : List Int) (b v fr rc only : Int) (n d : Nat) : ∀ (i : Nat) (m : List Bool) (l l2 : List Int), i + d = n → MkOf m n l →
  (∀ s : Nat,s < n → ((s : Int) ∈ l2 ↔ (s : Int) ∈ l ∨ (i ≤ s ∧ rd hs s = b ∧ rd vs s = v ∧ (s : Int) ≠ fr ∧ (0 ≤ only → (s : Int) = only) ∧ (rc = s ∨ rc = 15)))) → MkOf (giveS hs vs b v fr rc only d (i : Int) m) n l2:=by
 induction d with
 | zero =>
  intro i m l l2 hd hm h
  rw [giveS]
  exact mk_same hm (fun s hs' => (h s hs').trans ⟨fun h2 => h2.elim id (fun h3 => by omega),Or.inl⟩)
 | succ d ih =>
  intro i m l l2 hd hm h
  rw [giveS,show (i : Int) + 1 = ((i + 1 : Nat) : Int) from by omega]
  by_cases c : rd hs (i : Int) ≠ b ∨ rd vs (i : Int) ≠ v ∨ (i : Int) = fr ∨ (0 ≤ only ∧ (i : Int) ≠ only)
  ·rw [if_pos c]
   refine ih (i + 1) m l l2 (by omega) hm (fun s hs' => (h s hs').trans (or_congr Iff.rfl ⟨fun ⟨a1,a2,a3,a4,a5,a6⟩ => ?_,fun ⟨a1,a2⟩ => ⟨by omega,a2⟩⟩))
   by_cases e : s = i
   ·subst e
    rcases c with c | c | c | ⟨c,c2⟩
    ·exact absurd a2 c
    ·exact absurd a3 c
    ·exact absurd c a4
    ·exact absurd (a5 c) c2
   ·exact ⟨by omega,a2,a3,a4,a5,a6⟩
  ·rw [if_neg c]
   have c1 : rd hs (i : Int) = b:=Classical.byContradiction (fun h => c (Or.inl h))
   have c2 : rd vs (i : Int) = v:=Classical.byContradiction (fun h => c (Or.inr (Or.inl h)))
   have c3 : (i : Int) ≠ fr:=fun h => c (Or.inr (Or.inr (Or.inl h)))
   have c4 : 0 ≤ only → (i : Int) = only:=fun h0 => Classical.byContradiction (fun h => c (Or.inr (Or.inr (Or.inr ⟨h0,h⟩))))
   by_cases cr : rc = (i : Int) ∨ rc = 15
   ·rw [if_pos cr,Int.toNat_natCast]
    refine ih (i + 1) (m.set i true) ((i : Int) :: l) l2 (by omega) (mk_set hm i (fun s _ => by rw [List.mem_cons];exact ⟨fun h => h.elim (fun e => Or.inr (by omega)) Or.inl,fun h => h.elim Or.inr (fun e => Or.inl (by omega))⟩)) (fun s hs' => (h s hs').trans ⟨fun h2 => ?_,fun h2 => ?_⟩)
    ·rcases h2 with h2 | ⟨a1,a2⟩
     ·exact Or.inl (List.mem_cons_of_mem _ h2)
     ·by_cases e : s = i
      ·rw [e];exact Or.inl List.mem_cons_self
      ·exact Or.inr ⟨by omega,a2⟩
    ·rcases h2 with h2 | ⟨a1,a2⟩
     ·rcases List.mem_cons.1 h2 with e | h2
      ·have : s = i:=by omega
       subst this
       exact Or.inr ⟨Nat.le_refl _,c1,c2,c3,c4,cr⟩
      ·exact Or.inl h2
     ·exact Or.inr ⟨by omega,a2⟩
   ·rw [if_neg cr]
    refine ih (i + 1) m l l2 (by omega) hm (fun s hs' => (h s hs').trans (or_congr Iff.rfl ⟨fun ⟨a1,a2,a3,a4,a5,a6⟩ => ?_,fun ⟨a1,a2⟩ => ⟨by omega,a2⟩⟩))
    by_cases e : s = i
    ·subst e
     exact absurd a6 cr
    ·exact ⟨by omega,a2,a3,a4,a5,a6⟩
theorem rd_set (T : List Int) (i : Nat) (x : Int) (j : Nat) (hi : i < T.length) : rd (T.set i x) (j : Int) = if j = i then x else rd T (j : Int):=by
 simp only [rd,rdOf,Int.toNat_natCast,List.getD_eq_getElem?_getD,List.getElem?_set]
 by_cases e : i = j
 ·subst e
  simp [hi]
 ·rw [if_neg e,if_neg (fun h => e h.symm)]
section
variable {N : Nat} {cs : List S71} {hs vs : List Int} {F : Nat} {v rc : Int}
theorem sim_put (nv : NV N cs hs vs F v rc) {st : RN} {ss : SN} (h : Sim N cs hs st ss) {b : Nat} (hb : b < N) (y : Int) (m : Nat) : Sim N cs hs { st with T:=putN st.T b v F y,n:=m } { ss with tabs:=ss.tabs.set (atS b v F).toNat (encY y) }:=by
 obtain ⟨_,n2,n3,_,n5⟩:=netB_more nv.hn
 have hvF:=n5 F nv.hF
 rw [nv.hv] at hvF
 obtain ⟨V,rfl⟩ : ∃ V : Nat,v = (V : Int):=⟨v.toNat,by omega⟩
 have hF:=nv.hF
 refine ⟨by show (ss.tabs.set _ _).length = _;rw [List.length_set];exact h.tl,fun b2 v2 s2 hb2 hv2 hs2 => ?_,h.tk,h.ov⟩
 show rd (ss.tabs.set (atS b V F).toNat (encY y)) (atS b2 v2 s2) = encO (putN st.T b V F y b2 v2 s2)
 have e1 : (atS b V F).toNat = (b * 10 + V) * 15 + F:=by unfold atS;omega
 have e2 : atS (b2 : Int) v2 s2 = (((b2 * 10 + v2) * 15 + s2 : Nat) : Int):=by unfold atS;omega
 have hlen:=h.tl
 rw [e1,e2,rd_set _ _ _ _ (by omega)]
 unfold putN
 by_cases c : (b2 * 10 + v2) * 15 + s2 = (b * 10 + V) * 15 + F
 ·rw [if_pos c,if_pos ⟨by omega,by omega,by omega⟩]
  rfl
 ·rw [if_neg c,if_neg (fun h => c (by omega)),← e2]
  exact h.tb b2 v2 s2 hb2 hv2 hs2
theorem in_tabs (nv : NV N cs hs vs F v rc) {T : List Int} (hl : T.length = N * 150) {b : Nat} (hb : b < N) {s : Int} (h0 : 0 ≤ s) (h1 : s < 15) : inS T b v s:=by
 obtain ⟨_,n2,n3,_,n5⟩:=netB_more nv.hn
 have hvF:=n5 F nv.hF
 rw [nv.hv] at hvF
 have hN8:=(cabsB_facts nv.cab).2.1
 unfold inS atS
 exact ⟨by omega,by omega,by omega,by omega,by omega,by omega,by omega⟩
theorem kn_eq (nv : NV N cs hs vs F v rc) {st : RN} {ss : SN} (h : Sim N cs hs st ss) {b : Nat} (hb : b < N) : knS ss.tabs b v rc = encO (if rc = 15 then none else st.T b v rc):=by
 obtain ⟨_,n2,n3,_,n5⟩:=netB_more nv.hn
 have hvF:=n5 F nv.hF
 rw [nv.hv] at hvF
 unfold knS
 by_cases c : rc = 15
 ·rw [if_neg (by omega),if_pos c]
  rfl
 ·have hr : 0 ≤ rc ∧ rc < hs.length:=nv.hr.resolve_right c
  rw [if_pos (by omega),if_neg c]
  obtain ⟨V,hV⟩ : ∃ V : Nat,v = (V : Int):=⟨v.toNat,by omega⟩
  obtain ⟨R,hR⟩ : ∃ R : Nat,rc = (R : Int):=⟨rc.toNat,by omega⟩
  rw [hV,hR]
  exact h.tb b V R hb (by omega) (by omega)
theorem at_next (nv : NV N cs hs vs F v rc) {k y : Int} {b o : Nat} (hk : TJ N cs k b o) (hne : k ≠ y) (hat : AtB N cs (hmN hs F) b y) : AtB N cs (hmN hs F) o k:=by
 have hv:=nv.cab
 refine ⟨(hk.root hv).symm.trans hat.1,Or.inr ⟨b,hk.symm,Classical.byContradiction (fun h => ?_)⟩⟩
 have h1:=(sep_flip hv hk (hmN hs F)).2 h
 rcases hat.2 with ⟨_,e⟩ | ⟨o2,h2,h3⟩
 ·rw [e] at h1
  exact sep_self _ _ h1
 ·exact hne (sep_one hv (nv.home nv.hF).2 hk h2 h1 h3)
def SimOK (N : Nat) (cs : List S71) (hs vs : List Int) (F : Nat) (v rc : Int) (f : Nat) : Prop :=
 ∀ (b : Nat) (y : Int) (st st' : RN) (ss : SN),b < N → InvT N cs hs vs st.T → AtB N cs (hmN hs F) b y → comeN cs (treeX (N : Int) cs) hs vs v F rc f b y st = some st' → Sim N cs hs st ss →
  ∃ ss',comeS cs (treeX (N : Int) cs) hs vs v F rc f b (encY y) ss = some ss' ∧ Sim N cs hs st' ss' ∧ InvT N cs hs vs st'.T
theorem sim_send (nv : NV N cs hs vs F v rc) {f : Nat} (ih : SimOK N cs hs vs F v rc f) {k y : Int} {b o : Nat} (hk : TJ N cs k b o) (hne : k ≠ y) (hat : AtB N cs (hmN hs F) b y) {st st' : RN} {ss : SN} (hI : InvT N cs hs vs st.T) (h : sendN cs (comeN cs (treeX (N : Int) cs) hs vs v F rc f) b k st = some st') (hS : Sim N cs hs st ss) :
  ∃ ss',comeS cs (treeX (N : Int) cs) hs vs v F rc f o k { ss with over:=ss.over.set k.toNat true } = some ss' ∧ Sim N cs hs st' ss' ∧ InvT N cs hs vs st'.T:=by
 have hv:=nv.cab
 obtain ⟨p1,p2⟩:=tj_pos hk
 obtain ⟨K,rfl⟩ : ∃ K : Nat,k = (K : Int):=⟨k.toNat,by omega⟩
 unfold sendN at h
 split at h
 ·rw [tj_oth hv hk] at h
  have hS2 : Sim N cs hs { st with over:=st.over ++ [(K : Int)] } { ss with over:=ss.over.set (K : Int).toNat true }:=by
   refine ⟨hS.tl,hS.tb,hS.tk,?_⟩
   rw [Int.toNat_natCast]
   exact mk_set hS.ov K (fun i _ => by
    show (i : Int) ∈ st.over ++ [(K : Int)] ↔ _
    rw [List.mem_append,List.mem_singleton]
    exact or_congr Iff.rfl ⟨fun h => by omega,fun h => by omega⟩)
  have hek : encY (K : Int) = (K : Int):=by unfold encY;rw [if_neg (by omega)]
  obtain ⟨ss',h1,h2,h3⟩:=ih o K { st with over:=st.over ++ [(K : Int)] } st' _ (hk.lt hv).2 hI (at_next nv hk hne hat) h hS2
  rw [hek] at h1
  exact ⟨ss',h1,h2,h3⟩
 ·cases h
theorem enc_ne {k y : Int} (hk : 0 ≤ k) : k = encY y ↔ k = y:=by
 unfold encY
 split
 ·omega
 ·exact Iff.rfl
theorem sim_flood (nv : NV N cs hs vs F v rc) {f : Nat} (ih : SimOK N cs hs vs F v rc f) {y : Int} {b : Nat} (hat : AtB N cs (hmN hs F) b y) (l : List Int) :
  (∀ k ∈ l,k ∈ treeX (N : Int) cs) → ∀ (st st' : RN) (ss : SN),InvT N cs hs vs st.T → floodN cs (comeN cs (treeX (N : Int) cs) hs vs v F rc f) b y l st = some st' → Sim N cs hs st ss →
  ∃ ss',floodS cs (comeS cs (treeX (N : Int) cs) hs vs v F rc f) b (encY y) (-1) l ss = some ss' ∧ Sim N cs hs st' ss' ∧ InvT N cs hs vs st'.T:=by
 have hv:=nv.cab
 induction l with
 | nil =>
  intro _ st st' ss hI h hS
  obtain rfl:=Option.some.inj h
  exact ⟨ss,rfl,hS,hI⟩
 | cons k l ihl =>
  intro htr st st' ss hI h hS
  have htr2 : ∀ k ∈ l,k ∈ treeX (N : Int) cs:=fun j hj => htr j (List.mem_cons_of_mem _ hj)
  have hkp:=treeX_in (htr k List.mem_cons_self)
  rw [floodN] at h
  rw [floodS]
  rcases oth_tj hv (htr k List.mem_cons_self) b with ⟨o,h1,h2⟩ | ⟨h1,h2⟩
  ·rw [h1] at h ⊢
   by_cases hky : k = y
   ·rw [if_neg (fun h => h.2 hky)] at h
    rw [if_pos (Or.inr (Or.inl ((enc_ne hkp.1).2 hky)))]
    exact ihl htr2 st st' ss hI h hS
   ·rw [if_pos ⟨rfl,hky⟩] at h
    obtain ⟨st1,s1,s2⟩:=Option.bind_eq_some_iff.1 h
    obtain ⟨ss1,g1,g2,g3⟩:=sim_send nv ih h2 hky hat hI s1 hS
    rw [if_neg (fun h => h.elim (fun h => by simp at h;omega) (fun h => h.elim (fun h => hky ((enc_ne hkp.1).1 h)) (fun h => by omega)))]
    have g1' : comeS cs (treeX (N : Int) cs) hs vs v F rc f ((some (o : Int)).getD (-1)) k { ss with over:=ss.over.set k.toNat true } = some ss1:=g1
    rw [g1',Option.bind_some]
    exact ihl htr2 st1 st' ss1 g3 s2 g2
  ·rw [h1] at h ⊢
   rw [if_neg (fun h => by cases h.1)] at h
   rw [if_pos (Or.inl (by decide))]
   exact ihl htr2 st st' ss hI h hS
theorem flood_one {go : Int → Int → SN → Option SN} {b y x : Int} (hx : 0 ≤ x) (l : List Int) : l.Nodup → ∀ ss : SN,floodS cs go b y x l ss = if x ∈ l ∧ ¬ ((othX (rd_T71 cs x) b).getD (-1) < 0 ∨ x = y) then go ((othX (rd_T71 cs x) b).getD (-1)) x { ss with over:=ss.over.set x.toNat true } else some ss:=by
 induction l with
 | nil => intro _ ss;rw [floodS,if_neg (fun h => by cases h.1)]
 | cons k l ihl =>
  intro hnd ss
  obtain ⟨n1,n2⟩:=List.nodup_cons.1 hnd
  rw [floodS]
  by_cases hk : k = x
  ·subst hk
   have hrest : ∀ ss : SN,floodS cs go b y k l ss = some ss:=fun ss => by rw [ihl n2,if_neg (fun h => n1 h.1)]
   by_cases c : (othX (rd_T71 cs k) b).getD (-1) < 0 ∨ k = y
   ·rw [if_pos (c.elim Or.inl (fun h => Or.inr (Or.inl h))),if_neg (fun h => h.2 c)]
    exact hrest ss
   ·rw [if_neg (fun h => c (h.elim Or.inl (fun h => h.elim Or.inr (fun h => absurd rfl h.2)))),if_pos ⟨List.mem_cons_self,c⟩]
    rw [show floodS cs go b y k l = fun ss => some ss from funext hrest]
    cases go ((othX (rd_T71 cs k) b).getD (-1)) k { ss with over:=ss.over.set k.toNat true } <;> rfl
  ·rw [if_pos (Or.inr (Or.inr ⟨hx,hk⟩)),ihl n2]
   have : (x ∈ k :: l ↔ x ∈ l):=by rw [List.mem_cons];exact ⟨fun h => h.resolve_left (fun e => hk e.symm),Or.inr⟩
   simp only [this]
theorem sim_come (nv : NV N cs hs vs F v rc) (f : Nat) : SimOK N cs hs vs F v rc f:=by
  have hv:=nv.cab
  induction f with
  | zero => intro b y st st' ss _ _ _ h;cases h
  | succ f ih =>
    intro b y st st' ss hb hI hat h hS
    obtain ⟨m1,m2,m3,n5⟩:=netB_more nv.hn
    have hI1:=inv_put nv hI hb hat
    have hS1:=sim_put nv hS hb y (st.n + 1)
    have hkn:=kn_eq nv hS1 hb
    have hkn2 : knS (ss.tabs.set (atS b v F).toNat (encY y)) b v rc = encO (if rc = 15 then none else putN st.T b v F y b v rc):=hkn
    obtain ⟨hp1,hp2,hp3,hp4⟩:=comeN_pos h
    unfold comeN at h
    rw [if_pos ⟨hp1,hp2,hp3,hp4⟩] at h
    unfold comeS
    have hin : inS ss.tabs b v F ∧ inS ss.tabs b v (if rc < 15 then rc else 0):=by
      have hF:=nv.hF
      refine ⟨in_tabs nv hS.tl hb (by omega) (by omega),?_⟩
      split
      · rename_i h15
        rcases nv.hr with hr | hr
        · exact in_tabs nv hS.tl hb hr.1 (by omega)
        · omega
      · exact in_tabs nv hS.tl hb (by omega) (by omega)
    rw [if_pos hin,hkn2]
    cases hm : (if rc = 15 then none else putN st.T b v F y b v rc) with
    | some x =>
      rw [hm] at h
      simp only [] at h
      have h15 : rc ≠ 15:=fun h => by rw [if_pos h] at hm;cases hm
      rw [if_neg h15] at hm
      obtain ⟨B,R,e1,e2,hB,hR,hvR,hrt,hx⟩:=hI1 _ _ _ _ hm
      obtain rfl : b = B:=by omega
      subst e2
      by_cases hx1 : x = -1
      · have hbR : b = hmN hs R := by
          rcases hx with h | ⟨o,h,_⟩
          · exact h.2
          · have:=(tj_pos h).1
            omega
        rw [if_pos hx1] at h
        obtain rfl:=Option.some.inj h
        have hen : encO (some x) = -2:=by show encY x = -2;unfold encY;rw [if_pos hx1]
        rw [hen,if_pos rfl]
        refine ⟨_,rfl,⟨hS1.tl,hS1.tb,?_,hS1.ov⟩,hI1⟩
        refine give_mk hs vs b v F R R hs.length hs.length 0 ss.took st.took _ (by omega) hS.tk (fun s hsl => ?_)
        show (s : Int) ∈ takeN F R R st.took ↔ _
        rw [takeN_mem]
        refine or_congr Iff.rfl ⟨fun ⟨a1,a2,a3⟩ => ?_,fun ⟨a1,a2,a3,a4,a5,a6⟩ => ⟨a5 (by omega),by have:=a5 (by omega);omega,Or.inl rfl⟩⟩
        have e : s = R:=by omega
        subst e
        exact ⟨Nat.zero_le _,by rw [(nv.home hR).1,hbR],hvR.symm,by omega,fun _ => rfl,Or.inl rfl⟩
      · rw [if_neg hx1] at h
        obtain ⟨o,hk,hsx⟩ : ∃ o,TJ N cs x b o ∧ Sep N cs x b (hmN hs R):=by
          rcases hx with h | h
          · exact absurd h.1 hx1
          · exact h
        obtain ⟨x0,xl⟩:=tj_pos hk
        have hen : encO (some x) = x:=by show encY x = x;unfold encY;rw [if_neg hx1]
        rw [hen,if_neg (by omega),flood_one x0 _ (tree_nodup hv)]
        by_cases hxy : x = y
        · rw [if_pos hxy] at h
          obtain rfl:=Option.some.inj h
          rw [if_neg (fun h => h.2 (Or.inr ((enc_ne x0).2 hxy))),Option.bind_some,if_neg (by omega)]
          exact ⟨_,rfl,hS1,hI1⟩
        · rw [if_neg hxy,if_pos ⟨x0,xl⟩] at h
          obtain ⟨ss1,g1,g2,g3⟩:=sim_send nv ih hk hxy hat (st:={ st with T:=putN st.T b v F y,n:=st.n + 1 }) hI1 h hS1
          have g1' : comeS cs (treeX (N : Int) cs) hs vs v F R f ((some (o : Int)).getD (-1)) x { tabs:=ss.tabs.set (atS b v F).toNat (encY y),took:=ss.took,over:=ss.over.set x.toNat true } = some ss1:=g1
          rw [tj_oth hv hk,if_pos ⟨tj_tree hv hk,fun h => h.elim (fun h => by simp at h;omega) (fun h => hxy ((enc_ne x0).1 h))⟩,g1',Option.bind_some,if_neg (by omega)]
          exact ⟨ss1,rfl,g2,g3⟩
    | none =>
      rw [hm] at h
      simp only [] at h
      have hen : encO none = -1:=rfl
      rw [hen,if_neg (by decide)]
      obtain ⟨st2,s1,s2⟩:=Option.bind_eq_some_iff.1 h
      obtain ⟨ss2,g1,g2,g3⟩:=sim_flood nv ih hat (treeX (N : Int) cs) (fun _ h => h) _ _ _ hI1 s1 hS1
      have g1' : floodS cs (comeS cs (treeX (N : Int) cs) hs vs v F rc f) b (encY y) (-1) (treeX (N : Int) cs) { tabs:=ss.tabs.set (atS b v F).toNat (encY y),took:=ss.took,over:=ss.over } = some ss2:=g1
      rw [g1',Option.bind_some,if_pos (by decide)]
      unfold leaveN at s2
      split at s2
      · obtain rfl:=Option.some.inj s2
        refine ⟨_,rfl,⟨g2.tl,g2.tb,?_,g2.ov⟩,g3⟩
        refine give_mk hs vs b v F rc (-1) hs.length hs.length 0 ss2.took st2.took _ (by omega) g2.tk (fun s hsl => ?_)
        refine ((stN_mem hs vs (b : Int) v (F : Int) rc hs.length 0 st2.took).1 s).trans (or_congr Iff.rfl ⟨fun ⟨S,a1,a2,a3,a4,a5,a6,a7⟩ => ?_,fun ⟨a1,a2,a3,a4,a5,a6⟩ => ⟨s,a1,by omega,rfl,a2,a3,a4,a6⟩⟩)
        have e : s = S:=by omega
        subst e
        exact ⟨a1,a4,a5,a6,fun h => by omega,a7⟩
      · cases s2
end

-- LIB netfin
theorem asc_uniq : ∀ {a b : List Int},a.Pairwise (· < ·) → b.Pairwise (· < ·) → (∀ x,x ∈ a ↔ x ∈ b) → a = b
 | [],[],_,_,_ => rfl
 | [],y :: b,_,_,h => absurd ((h y).2 List.mem_cons_self) (by simp)
 | x :: a,[],_,_,h => absurd ((h x).1 List.mem_cons_self) (by simp)
 | x :: a,y :: b,ha,hb,h => by
  rw [List.pairwise_cons] at ha hb
  have hx:=(h x).1 List.mem_cons_self
  have hy:=(h y).2 List.mem_cons_self
  rw [List.mem_cons] at hx hy
  obtain rfl : x = y:=by
   rcases hx with e | hx
   ·exact e
   ·rcases hy with e | hy
    ·exact e.symm
    ·have h1:=ha.1 y hy
     have h2:=hb.1 x hx
     omega
  congr 1
  refine asc_uniq ha.2 hb.2 (fun z => ⟨fun hz => ?_,fun hz => ?_⟩)
  ·rcases List.mem_cons.1 ((h z).1 (List.mem_cons_of_mem _ hz)) with e | e
   ·have:=ha.1 z hz;omega
   ·exact e
  ·rcases List.mem_cons.1 ((h z).2 (List.mem_cons_of_mem _ hz)) with e | e
   ·have:=hb.1 z hz;omega
   ·exact e

-- LIB netfin
theorem compact_upto (d : Array Int) (hs : ∀ i j,i ≤ j → j < d.size → d[i]! ≤ d[j]!) (m : Nat) : m ≤ d.size → (Lib.compactUpTo d m).Pairwise (· < ·) ∧ ∀ x,x ∈ Lib.compactUpTo d m ↔ ∃ j,j < m ∧ d[j]! = x:=by
 induction m with
 | zero => exact fun _ => ⟨List.Pairwise.nil,fun x => ⟨fun h => absurd h (by simp [Lib.compactUpTo]),fun ⟨j,hj,_⟩ => by omega⟩⟩
 | succ m ih =>
  intro hm
  obtain ⟨h1,h2⟩:=ih (by omega)
  rw [Lib.compactUpTo_succ]
  by_cases hk : m = 0 ∨ d[m]! ≠ d[m - 1]!
  ·have hk2 : Lib.keeps d m = true:=by unfold Lib.keeps;exact decide_eq_true hk
   rw [hk2,if_pos rfl]
   refine ⟨List.pairwise_append.2 ⟨h1,List.pairwise_singleton _ _,fun a ha b hb => ?_⟩,fun x => ?_⟩
   ·obtain rfl:=List.mem_singleton.1 hb
    obtain ⟨j,hj,rfl⟩:=(h2 a).1 ha
    have a1:=hs j (m - 1) (by omega) (by omega)
    have a2:=hs (m - 1) m (by omega) (by omega)
    have a3:=hk.resolve_left (by omega)
    omega
   ·rw [List.mem_append,List.mem_singleton,h2]
    exact ⟨fun h => h.elim (fun ⟨j,hj,e⟩ => ⟨j,by omega,e⟩) (fun e => ⟨m,by omega,e.symm⟩),fun ⟨j,hj,e⟩ => by
     by_cases e2 : j = m
     ·subst e2;exact Or.inr e.symm
     ·exact Or.inl ⟨j,by omega,e⟩⟩
  ·have hk2 : Lib.keeps d m = false:=by unfold Lib.keeps;exact decide_eq_false hk
   rw [hk2,if_neg (by decide),List.append_nil]
   refine ⟨h1,fun x => (h2 x).trans ⟨fun ⟨j,hj,e⟩ => ⟨j,by omega,e⟩,fun ⟨j,hj,e⟩ => ?_⟩⟩
   by_cases e2 : j = m
   ·subst e2
    refine ⟨j - 1,by omega,?_⟩
    have : d[j]! = d[j - 1]!:=Classical.not_not.1 (fun h => hk (Or.inr h))
    rw [← this];exact e
   ·exact ⟨j,by omega,e⟩

-- LIB netfin
theorem once_asc (l : List Int) : (onceL l).Pairwise (· < ·) ∧ ∀ x,x ∈ onceL l ↔ x ∈ l:=by
 have hp : (l.mergeSort fun x y => decide (x ≤ y)).Perm l:=List.mergeSort_perm _ _
 have ho : (l.mergeSort fun x y => decide (x ≤ y)).Pairwise (fun x y => decide (x ≤ y) = true):=List.pairwise_mergeSort (fun a b c h1 h2 => by simp only [decide_eq_true_eq] at *;omega) (fun a b => by simp only [Bool.or_eq_true,decide_eq_true_eq];omega) l
 unfold onceL Lib.compact
 revert hp ho
 generalize (l.mergeSort fun x y => decide (x ≤ y)) = s
 intro hp ho
 rw [List.pairwise_iff_getElem] at ho
 have hg : ∀ i,(h : i < s.length) → s.toArray[i]! = s[i]:=fun i h => by simp [h]
 obtain ⟨h1,h2⟩:=compact_upto s.toArray (fun i j hij hj => by
  have hj2 : j < s.length:=by simpa using hj
  rw [hg i (by omega),hg j hj2]
  rcases Nat.lt_or_ge i j with h | h
  ·exact of_decide_eq_true (ho i j (by omega) hj2 h)
  ·obtain rfl : i = j:=by omega
   exact Int.le_refl _) s.length (by simp)
 refine ⟨h1,fun x => (h2 x).trans ?_⟩
 rw [← hp.mem_iff,List.mem_iff_getElem]
 exact ⟨fun ⟨j,hj,e⟩ => ⟨j,hj,by rw [← hg j hj];exact e⟩,fun ⟨j,hj,e⟩ => ⟨j,hj,by rw [hg j hj];exact e⟩⟩

-- LIB netfin
theorem rep_false (n i : Nat) : (List.replicate n false).getD i false = false:=by
 rw [List.getD_eq_getElem?_getD,List.getElem?_replicate]
 split <;> rfl

-- LIB netfin
theorem lst_once {m : List Bool} {n : Nat} {l : List Int} (h : MkOf m n l) (hl : ∀ x ∈ l,0 ≤ x ∧ x < n) : lstS m = onceL l:=by
 obtain ⟨h1,h2⟩:=once_asc l
 unfold lstS
 refine asc_uniq (filM_asc _ _ _) h1 (fun x => (filM_mem0 _ _ _).trans (Iff.trans ?_ (h2 x).symm))
 rw [h.1]
 constructor
 ·rintro ⟨a1,a2,a3⟩
  obtain ⟨i,rfl⟩:=Int.eq_ofNat_of_zero_le a1
  exact (h.2 i (by omega)).1 a3
 ·intro hx
  obtain ⟨a1,a2⟩:=hl x hx
  obtain ⟨i,rfl⟩:=Int.eq_ofNat_of_zero_le a1
  exact ⟨a1,a2,(h.2 i (by omega)).2 hx⟩

-- LIB netfin
def LrnOK (N : Nat) (cs : List S71) (hs vs : List Int) (h : S36) (T : TabN) : Prop :=
 ∀ F : Nat,h.f0 = (F : Int) → ∀ c,c < N → gD (rootsL N cs) c = gD (rootsL N cs) (hmN hs F) →
  (h.f1 = 15 ∨ ∃ R : Nat,h.f1 = (R : Int) ∧ R < hs.length ∧ rd vs R = rd vs F ∧ gD (rootsL N cs) (hmN hs R) = gD (rootsL N cs) (hmN hs F) ∧ OnP N cs (hmN hs F) c (hmN hs R)) → T c (rd vs F) F ≠ none

-- LIB netfin
structure FrameOK (N : Nat) (cs : List S71) (hs vs : List Int) (h : S36) (F : Nat) (T : TabN) (ts os : List Int) : Prop where
 tka : ts.Pairwise (· < ·)
 ova : os.Pairwise (· < ·)
 tk : ∀ s,s ∈ ts ↔ ∃ S : Nat,s = (S : Int) ∧ S < hs.length ∧ S ≠ F ∧ (h.f1 = S ∨ h.f1 = 15) ∧ rd vs S = rd vs F ∧ gD (rootsL N cs) (hmN hs S) = gD (rootsL N cs) (hmN hs F)
 ov : ∀ j ∈ os,∃ e o,TJ N cs j e o ∧ gD (rootsL N cs) e = gD (rootsL N cs) (hmN hs F)
 all : h.f1 = 15 → ∀ j t,t < N → gD (rootsL N cs) t = gD (rootsL N cs) (hmN hs F) → Sep N cs j (hmN hs F) t → j ∈ os
 way : ∀ R : Nat,h.f1 = (R : Int) → R < hs.length → rd vs R = rd vs F → gD (rootsL N cs) (hmN hs R) = gD (rootsL N cs) (hmN hs F) → ∀ j,Sep N cs j (hmN hs F) (hmN hs R) → j ∈ os
 slim : ∀ R : Nat,h.f1 = (R : Int) → R < hs.length → R ≠ F → rd vs R = rd vs F → gD (rootsL N cs) (hmN hs R) = gD (rootsL N cs) (hmN hs F) → (∀ c,c < N → gD (rootsL N cs) c = gD (rootsL N cs) (hmN hs F) → OnP N cs (hmN hs F) c (hmN hs R) → T c (rd vs F) R ≠ none) → ∀ j ∈ os,Sep N cs j (hmN hs F) (hmN hs R)

-- LIB netfin
theorem mu_max {N : Nat} {cs : List S71} (hv : cabsB (N : Int) cs = true) {b : Nat} (hb : b < N) (y : Int) : muN N cs b y ≤ 20:=by
 have:=wL_len hv hb
 unfold muN
 split <;> omega

-- LIB netfin
theorem frames_ok (N : Nat) (cs : List S71) (hs vs : List Int) (hn : netB (N : Int) cs hs vs = true) (l : List S36) :
  ∀ (K : List S36) (T : TabN) (n : Nat) (tabs : List Int),l.all (hopB (N : Int) cs hs vs) = true → InvT N cs hs vs T → n + 400000000 * l.length + 400000000 < 1000000000000 → tabs.length = N * 150 →
   (∀ b v s : Nat,b < N → v ≤ 9 → s < 15 → rd tabs (atS b v s) = encO (T b v s)) → (∀ g ∈ K,LrnOK N cs hs vs g T) →
  ∃ fin,framesN cs (treeX (N : Int) cs) hs vs l T n = some fin ∧ framesS cs (treeX (N : Int) cs) hs vs l tabs = some fin ∧ fin.1.length = l.length ∧ fin.2.length = l.length ∧
   ∀ i (hi : i < l.length),∃ (F : Nat) (T' : TabN),l[i].f0 = (F : Int) ∧ F < hs.length ∧ FrameOK N cs hs vs l[i] F T' (fin.1.getD i []) (fin.2.getD i []) ∧ ∀ g ∈ K ++ l.take i,LrnOK N cs hs vs g T':=by
 induction l with
 | nil => exact fun K T n tabs _ _ _ _ _ _ => ⟨([],[]),rfl,rfl,rfl,rfl,fun i hi => absurd hi (by simp)⟩
 | cons h l ih =>
  intro K T n tabs hall hI hsz htl htb hK
  have hv:=(netB_facts hn).1
  rw [List.all_cons,Bool.and_eq_true] at hall
  obtain ⟨hh,hall⟩:=hall
  rw [List.length_cons] at hsz
  unfold hopB stB at hh
  rw [Bool.and_eq_true,Bool.or_eq_true,decide_eq_true_eq,decide_eq_true_eq,beq_iff_eq] at hh
  obtain ⟨⟨_,p0,p1⟩,hr⟩:=hh
  obtain ⟨F,hF⟩:=Int.eq_ofNat_of_zero_le p0
  have hFl : F < hs.length:=by omega
  have nv : NV N cs hs vs F (rd vs F) h.f1:=⟨hn,hFl,rfl,hr.imp (fun h => h.2) id⟩
  obtain ⟨hb1,hb⟩:=nv.home hFl
  have hat : AtB N cs (hmN hs F) (hmN hs F) (-1):=⟨rfl,Or.inl ⟨rfl,rfl⟩⟩
  have hwt:=wt_max hv hb (-1)
  have hnosep : ∀ t,t < N → ¬ Sep N cs (-1) (hmN hs F) t:=fun t ht => sep_neg (-1) (by decide) hv hb ht
  obtain ⟨st,e1,hB,hlen,hself,hC,hNa⟩:=come_ok nv 20 (hmN hs F) (-1) ⟨T,[],[],n⟩ hb hI hat (mu_max hv hb _) (by unfold szN;simp;omega)
  have hSim : Sim N cs hs ⟨T,[],[],n⟩ ⟨tabs,List.replicate hs.length false,List.replicate cs.length false⟩ :=
   ⟨htl,htb,⟨List.length_replicate,fun i hi => by rw [rdB_nat,rep_false];simp⟩,⟨List.length_replicate,fun i hi => by rw [rdB_nat,rep_false];simp⟩⟩
  obtain ⟨ss,e2,hS2,hI2⟩:=sim_come nv 20 (hmN hs F) (-1) ⟨T,[],[],n⟩ st _ hb hI hat e1 hSim
  have hlo:=hB.lo
  have hlt:=hB.lt
  have hln:=hB.ln
  simp only [List.length_nil,Nat.zero_add] at hlo hlt hln
  have hLrn : LrnOK N cs hs vs h st.T:=by
   intro F' hF' c hc hrt hcase
   obtain rfl : F' = F:=by omega
   by_cases e : c = hmN hs F'
   ·subst e;exact hself
   ·rcases hcase with h15 | ⟨R,hR,hRl,hRv,hRr,hP⟩
    ·exact (hC c hc hrt (hnosep c hc) (Or.inl h15)).2.2 c hc hrt e (fun j hj => sep_self _ _ hj.2)
    ·exact (hC (hmN hs R) (nv.home hRl).2 hRr (hnosep _ (nv.home hRl).2) (Or.inr ⟨R,hR,hRl,hRv,rfl⟩)).2.2 c hc hrt e hP
  have hmono : ∀ g,LrnOK N cs hs vs g T → LrnOK N cs hs vs g st.T:=fun g hg F' hF' c hc hrt hcase => hB.old _ _ _ (hg F' hF' c hc hrt hcase)
  obtain ⟨fin,q1,q2,q3,q4,q5⟩:=ih (K ++ [h]) st.T st.n ss.tabs hall hB.inv (by omega) hS2.tl hS2.tb (fun g hg => by
   rcases List.mem_append.1 hg with hg | hg
   ·exact hmono g (hK g hg)
   ·obtain rfl:=List.mem_singleton.1 hg
    exact hLrn)
  have htk : ∀ s ∈ st.took,∃ S : Nat,s = (S : Int) ∧ S < hs.length ∧ S ≠ F ∧ (h.f1 = S ∨ h.f1 = 15) ∧ rd vs S = rd vs F ∧ gD (rootsL N cs) (hmN hs S) = gD (rootsL N cs) (hmN hs F):=fun s hs' => (hB.tk1 s hs').resolve_left (by simp)
  have hov : ∀ j ∈ st.over,∃ e o,TJ N cs j e o ∧ gD (rootsL N cs) e = gD (rootsL N cs) (hmN hs F):=fun j hj => (hB.ov1 j hj).resolve_left (by simp)
  have ho1 : lstS ss.took = onceL st.took:=lst_once hS2.tk (fun x hx => by obtain ⟨S,rfl,h1,_⟩:=htk x hx;omega)
  have ho2 : lstS ss.over = onceL st.over:=lst_once hS2.ov (fun x hx => by obtain ⟨e,o,h1,_⟩:=hov x hx;exact tj_pos h1)
  obtain ⟨u1,u2⟩:=once_asc st.took
  obtain ⟨u3,u4⟩:=once_asc st.over
  refine ⟨(onceL st.took :: fin.1,onceL st.over :: fin.2),?_,?_,by simp [q3],by simp [q4],?_⟩
  ·unfold framesN
   rw [hF,hb1,e1,Option.bind_some,if_pos ⟨by omega,by omega⟩,q1]
   rfl
  ·unfold framesS
   rw [hF,hb1,show (-2 : Int) = encY (-1) from rfl,e2,Option.bind_some,q2,ho1,ho2]
   rfl
  ·intro i hi
   cases i with
   | zero =>
    refine ⟨F,T,hF,hFl,?_,fun g hg => hK g (by simpa using hg)⟩
    simp only [List.getD_cons_zero,List.getElem_cons_zero]
    refine ⟨u1,u3,fun s => (u2 s).trans ⟨htk s,?_⟩,fun j hj => hov j ((u4 j).1 hj),fun h15 j t ht hrt hsep => (u4 j).2 ((hC t ht hrt (hnosep t ht) (Or.inl h15)).2.1 j hsep),fun R hR hRl hRv hRr j hsep => (u4 j).2 ((hC (hmN hs R) (nv.home hRl).2 hRr (hnosep _ (nv.home hRl).2) (Or.inr ⟨R,hR,hRl,hRv,rfl⟩)).2.1 j hsep),fun R hR hRl hne hRv hRr hkn j hj => ?_⟩
    ·rintro ⟨S,rfl,hSl,hne,hc,hSv,hSr⟩
     refine (hC (hmN hs S) (nv.home hSl).2 hSr (hnosep _ (nv.home hSl).2) ?_).1 S hSl rfl hSv hne hc
     rcases hc with hc | hc
     ·exact Or.inr ⟨S,hc,hSl,hSv,rfl⟩
     ·exact Or.inl hc
    ·exact (hNa R hR hRl hne hRv hRr (hnosep _ (nv.home hRl).2) hkn j ((u4 j).1 hj)).resolve_left (by simp)
   | succ i =>
    obtain ⟨F',T',r1,r2,r3,r4⟩:=q5 i (by simpa using hi)
    refine ⟨F',T',r1,r2,?_,fun g hg => r4 g ?_⟩
    ·simpa using r3
    ·rw [List.take_succ_cons] at hg
     simpa [List.append_assoc] using hg

-- LIB netfin
theorem frames_start (N : Nat) (cs : List S71) (hs vs : List Int) (l : List S36) (h : runB (N : Int) cs hs vs l = true) :
  ∃ fin,framesN cs (treeX (N : Int) cs) hs vs l (fun _ _ _ => none) 0 = some fin ∧ framesS cs (treeX (N : Int) cs) hs vs l (List.replicate ((N : Int) * 150).toNat (-1)) = some fin ∧ fin.1.length = l.length ∧ fin.2.length = l.length ∧
   ∀ i (hi : i < l.length),∃ (F : Nat) (T' : TabN),l[i].f0 = (F : Int) ∧ F < hs.length ∧ FrameOK N cs hs vs l[i] F T' (fin.1.getD i []) (fin.2.getD i []) ∧ ∀ g ∈ l.take i,LrnOK N cs hs vs g T':=by
 unfold runB at h
 rw [Bool.and_eq_true,Bool.and_eq_true,decide_eq_true_eq] at h
 obtain ⟨h1,h2,h3⟩:=h
 have hc:=netB_more h1
 exact frames_ok N cs hs vs h1 l [] (fun _ _ _ => none) 0 _ h3 (fun _ _ _ _ h => by cases h) (by omega) (by rw [List.length_replicate];omega) (fun b v s hb hv hs' => by
  have : ((atS b v s).toNat : Int) = atS b v s ∧ (atS b v s).toNat < N * 150:=by unfold atS;omega
  rw [← this.1,rd_get _ _ (by rw [List.length_replicate];omega),List.getElem_replicate];rfl) (fun g hg => by cases hg)

-- LIB p19mi
theorem imates_eq (n : Int) (cs : List S71) (hs vs : List Int) (s : Int) (k : Nat) (hk : 20 < k) : impl_MatesOf.f k n cs hs vs s = some (matesX n cs hs vs s):=rfl

-- LIB netmeet
theorem le_asc {l : List Int} (h1 : l.Pairwise (· ≤ ·)) (h2 : l.Nodup) : l.Pairwise (· < ·):=by
 rw [List.pairwise_iff_getElem] at h1 ⊢
 intro i j hi hj hij
 have a:=h1 i j hi hj hij
 have b : l[i] ≠ l[j]:=(List.pairwise_iff_getElem.1 h2) i j hi hj hij
 omega
theorem tree_asc {N : Nat} {cs : List S71} (hv : cabsB (N : Int) cs = true) : (treeX (N : Int) cs).Pairwise (· < ·):=by
 have h:=tree_nodup hv
 unfold treeX at h ⊢
 rw [if_pos hv,Int.toNat_natCast] at h ⊢
 exact le_asc (tI_sorted _ _ _ _) h
section
variable {N : Nat} {cs : List S71} {hs vs : List Int} {F : Nat}
theorem hm_rd (hn : netB (N : Int) cs hs vs = true) {S : Nat} (hS : S < hs.length) : rd hs S = (hmN hs S : Int) ∧ hmN hs S < N:=by
 have:=(netB_more hn).2.2.2.1 S hS
 unfold hmN
 exact ⟨by omega,by omega⟩
theorem mates_mem (hn : netB (N : Int) cs hs vs = true) (hF : F < hs.length) (o : Int) : o ∈ matesX (N : Int) cs hs vs F ↔ ∃ S : Nat,o = (S : Int) ∧ S < hs.length ∧ S ≠ F ∧ rd vs S = rd vs F ∧ gD (rootsL N cs) (hmN hs S) = gD (rootsL N cs) (hmN hs F):=by
 unfold matesX
 rw [if_pos ⟨hn,by omega,by omega⟩,filM_mem0]
 unfold mateB
 simp only [Bool.and_eq_true,decide_eq_true_eq,Int.toNat_natCast]
 constructor
 ·rintro ⟨h0,h1,h2,h3,h4⟩
  obtain ⟨S,rfl⟩:=Int.eq_ofNat_of_zero_le h0
  rw [(hm_rd hn (show S < hs.length by omega)).1,(hm_rd hn hF).1,rd_gD,rd_gD] at h4
  exact ⟨S,rfl,by omega,by omega,h3,h4⟩
 ·rintro ⟨S,rfl,h1,h2,h3,h4⟩
  refine ⟨by omega,by omega,by omega,h3,?_⟩
  rw [(hm_rd hn h1).1,(hm_rd hn hF).1,rd_gD,rd_gD]
  exact h4
theorem flood_mem (hn : netB (N : Int) cs hs vs = true) (hF : F < hs.length) (j : Int) : j ∈ floodX (N : Int) cs hs vs F ↔ ∃ e o,TJ N cs j e o ∧ gD (rootsL N cs) e = gD (rootsL N cs) (hmN hs F):=by
 have hv:=(netB_facts hn).1
 obtain ⟨f1,f2,f3,f4⟩:=cabsB_facts hv
 unfold floodX
 rw [if_pos ⟨hn,by omega,by omega⟩,List.mem_filter]
 unfold floodB
 rw [decide_eq_true_eq,Int.toNat_natCast,(hm_rd hn hF).1,rd_gD]
 constructor
 ·rintro ⟨h1,h2⟩
  obtain ⟨h3,h4⟩:=treeX_in h1
  obtain ⟨K,rfl⟩:=Int.eq_ofNat_of_zero_le h3
  have hK : K < cs.length:=by omega
  have hc:=f4 _ (List.getElem_mem hK)
  rw [← rdCab_get cs K hK] at hc
  obtain ⟨b,hb⟩:=Int.eq_ofNat_of_zero_le hc.1
  rw [hb,rd_gD] at h2
  rcases oth_tj hv h1 b with ⟨o,h5,h6⟩ | ⟨h5,_⟩
  ·exact ⟨b,o,h6,h2⟩
  ·unfold othX at h5
   rw [if_pos hb.symm] at h5
   cases h5
 ·rintro ⟨e,o,h1,h2⟩
  refine ⟨tj_tree hv h1,?_⟩
  rcases oth_ends (tj_oth hv h1) with ⟨h3,h4⟩ | ⟨h3,h4⟩
  ·rw [← h3,rd_gD];exact h2
  ·rw [← h4,rd_gD,← h1.root hv];exact h2
theorem flood_asc (hn : netB (N : Int) cs hs vs = true) : (floodX (N : Int) cs hs vs F).Pairwise (· < ·):=by
 unfold floodX
 split
 ·exact (tree_asc (netB_facts hn).1).filter _
 ·exact List.Pairwise.nil
theorem way_sep {a b : Nat} {j : Int} : wayB N cs a b j = true ↔ Sep N cs j a b:=by
 unfold wayB Sep
 rw [← hasL_iff,← hasL_iff]
 cases hasL (upsL N cs a) j <;> cases hasL (upsL N cs b) j <;> decide
theorem way_mem (hn : netB (N : Int) cs hs vs = true) (hF : F < hs.length) {R : Nat} (hR : R < hs.length) (hr : gD (rootsL N cs) (hmN hs R) = gD (rootsL N cs) (hmN hs F)) (j : Int) : j ∈ wayX (N : Int) cs hs vs F R ↔ 0 ≤ j ∧ j < cs.length ∧ Sep N cs j (hmN hs F) (hmN hs R):=by
 unfold wayX
 have e1:=(hm_rd hn hF).1
 have e2:=(hm_rd hn hR).1
 rw [if_pos ⟨hn,⟨by omega,by omega⟩,⟨by omega,by omega⟩,by rw [e1,e2,Int.toNat_natCast,rd_gD,rd_gD];exact hr.symm⟩,filM_mem0,e1,e2,Int.toNat_natCast,Int.toNat_natCast,Int.toNat_natCast,way_sep]
theorem way_asc (a b : Int) : (wayX (N : Int) cs hs vs a b).Pairwise (· < ·):=by
 unfold wayX
 split
 ·exact filM_asc _ _ _
 ·exact List.Pairwise.nil
theorem mates_asc (a : Int) : (matesX (N : Int) cs hs vs a).Pairwise (· < ·):=by
 unfold matesX
 split
 ·exact filM_asc _ _ _
 ·exact List.Pairwise.nil
end
theorem asc_len (l : List Int) : ∀ lo hi : Int,l.Pairwise (· < ·) → (∀ x ∈ l,lo ≤ x ∧ x < hi) → (l.length : Int) ≤ hi - lo ∨ l = []:=by
 induction l with
 | nil => exact fun _ _ _ _ => Or.inr rfl
 | cons x t ih =>
  intro lo hi hp hm
  rw [List.pairwise_cons] at hp
  have hx:=hm x List.mem_cons_self
  left
  rw [List.length_cons]
  rcases ih (x + 1) hi hp.2 (fun y hy => ⟨by have:=hp.1 y hy;omega,(hm y (List.mem_cons_of_mem _ hy)).2⟩) with h | h
  ·omega
  ·subst h
   simp only [List.length_nil]
   omega
structure MeetOK (n : Int) (cs : List S71) (hs vs : List Int) (a c : Int) (tk ov : List Int) : Prop where
 t_len : tk.length ≤ 20
 o_len : ov.length ≤ 20
 t_all : c = 15 → tk = matesX n cs hs vs a
 t_one : c ∈ matesX n cs hs vs a → tk = [c]
 t_no : c ≠ 15 → c ∉ matesX n cs hs vs a → tk = []
 o_sub : ∀ j ∈ ov,j ∈ floodX n cs hs vs a
 o_all : c = 15 → ov = floodX n cs hs vs a
 o_way : c ∈ matesX n cs hs vs a → ∀ j ∈ wayX n cs hs vs a c,j ∈ ov
theorem meet_ok {N : Nat} {cs : List S71} {hs vs : List Int} (hn : netB (N : Int) cs hs vs = true) {h : S36} {F : Nat} (hFl : F < hs.length) {T : TabN} {tk ov : List Int} (f : FrameOK N cs hs vs h F T tk ov) : MeetOK (N : Int) cs hs vs (F : Int) h.f1 tk ov:=by
 have hv:=(netB_facts hn).1
 have hh:=(netB_more hn).2.1
 have hc:=(netB_more hn).1
 constructor
 ·rcases asc_len tk 0 hs.length f.tka (fun x hx => by obtain ⟨S,rfl,h1,_⟩:=(f.tk x).1 hx;omega) with h | h
  ·omega
  ·rw [h];simp
 ·rcases asc_len ov 0 cs.length f.ova (fun x hx => by obtain ⟨e,o,h1,_⟩:=f.ov x hx;exact tj_pos h1) with h | h
  ·omega
  ·rw [h];simp
 ·intro h15
  refine asc_uniq f.tka (mates_asc _) (fun s => (f.tk s).trans (Iff.trans ?_ (mates_mem hn hFl s).symm))
  exact ⟨fun ⟨S,a1,a2,a3,_,a5,a6⟩ => ⟨S,a1,a2,a3,a5,a6⟩,fun ⟨S,a1,a2,a3,a5,a6⟩ => ⟨S,a1,a2,a3,Or.inr h15,a5,a6⟩⟩
 ·intro hm
  obtain ⟨R,a1,a2,a3,a5,a6⟩:=(mates_mem hn hFl _).1 hm
  refine asc_uniq f.tka (List.pairwise_singleton _ _) (fun s => (f.tk s).trans ?_)
  rw [List.mem_singleton]
  constructor
  ·rintro ⟨S,rfl,b2,b3,b4,b5,b6⟩
   rcases b4 with b4 | b4
   ·exact b4.symm
   ·omega
  ·rintro rfl
   exact ⟨R,a1,a2,a3,Or.inl a1,a5,a6⟩
 ·intro h15 hm
  refine List.eq_nil_iff_forall_not_mem.2 (fun s hs' => ?_)
  obtain ⟨S,rfl,b2,b3,b4,b5,b6⟩:=(f.tk s).1 hs'
  exact hm ((mates_mem hn hFl _).2 ⟨S,b4.resolve_right h15,b2,b3,b5,b6⟩)
 ·exact fun j hj => (flood_mem hn hFl j).2 (f.ov j hj)
 ·intro h15
  refine asc_uniq f.ova (flood_asc hn) (fun j => ⟨fun hj => (flood_mem hn hFl j).2 (f.ov j hj),fun hj => ?_⟩)
  obtain ⟨e,o,h1,h2⟩:=(flood_mem hn hFl j).1 hj
  have hl:=h1.lt hv
  by_cases c : Sep N cs j e (hmN hs F)
  ·exact f.all h15 j e hl.1 h2 (sep_symm c)
  ·refine f.all h15 j o hl.2 (by rw [← h1.root hv];exact h2) (sep_symm ?_)
   exact Classical.not_not.1 (fun h3 => c ((sep_flip hv h1 _).2 h3))
 ·intro hm j hj
  obtain ⟨R,a1,a2,a3,a5,a6⟩:=(mates_mem hn hFl _).1 hm
  rw [a1] at hj
  exact f.way R a1 a2 a5 a6 j ((way_mem hn hFl a2 a6 j).1 hj).2.2
theorem meet_slim {N : Nat} {cs : List S71} {hs vs : List Int} (hn : netB (N : Int) cs hs vs = true) {h : S36} {F : Nat} (hF : h.f0 = (F : Int)) (hFl : F < hs.length) {T : TabN} {tk ov : List Int} (f : FrameOK N cs hs vs h F T tk ov) {g : S36} (hg : LrnOK N cs hs vs g T) (h0 : g.f0 = h.f1) (h1 : g.f1 = 15 ∨ g.f1 = h.f0) (hm : h.f1 ∈ matesX (N : Int) cs hs vs h.f0) :
  ov = wayX (N : Int) cs hs vs h.f0 h.f1:=by
 rw [hF] at hm h1 ⊢
 obtain ⟨R,a1,a2,a3,a5,a6⟩:=(mates_mem hn hFl _).1 hm
 rw [a1]
 have hsl:=f.slim R a1 a2 a3 a5 a6 (fun c hc hrt hP => by
  have:=hg R (h0.trans a1) c hc (hrt.trans a6.symm) (h1.imp id (fun e => ⟨F,e,hFl,a5.symm,a6.symm,fun j ⟨x1,x2⟩ => hP j ⟨sep_symm x2,sep_symm x1⟩⟩))
  rw [a5] at this
  exact this)
 refine asc_uniq f.ova (way_asc _ _) (fun j => ⟨fun hj => ?_,fun hj => f.way R a1 a2 a5 a6 j ((way_mem hn hFl a2 a6 j).1 hj).2.2⟩)
 obtain ⟨e,o,h3,_⟩:=f.ov j hj
 have:=tj_pos h3
 exact (way_mem hn hFl a2 a6 j).2 ⟨this.1,this.2,hsl j hj⟩
theorem getD_row (l : List (List Int)) (i : Nat) (h : i < l.length) : l.getD i [] = l[i]:=by simp [List.getD,h]
theorem run_meet {n : Int} {cs : List S71} {hs vs : List Int} {l : List S36} (h : runB n cs hs vs l = true) : ∃ tk ov : List (List Int), impl_RunNet.f n cs hs vs l = some (tk, ov, true) ∧ spec_RunNet.f n cs hs vs l = some (tk, ov, true) ∧ tk.length = l.length ∧ ov.length = l.length ∧ l.length ≤ 60 ∧ netB n cs hs vs = true ∧ (∀ r ∈ tk, r.length ≤ 20) ∧ (∀ r ∈ ov, r.length ≤ 20) ∧
  ∀ i (hi : i < l.length),(l[i].f1 < 15 ∨ l[i].f1 = 15) ∧ MeetOK n cs hs vs l[i].f0 l[i].f1 (tk.getD i []) (ov.getD i []) ∧ ∀ g ∈ l.take i,g.f0 = l[i].f1 → (g.f1 = 15 ∨ g.f1 = l[i].f0) → l[i].f1 ∈ matesX n cs hs vs l[i].f0 → ov.getD i [] = wayX n cs hs vs l[i].f0 l[i].f1:=by
 have h':=h
 unfold runB at h'
 rw [Bool.and_eq_true,Bool.and_eq_true,decide_eq_true_eq] at h'
 obtain ⟨hn,hl,hall⟩:=h'
 have hv:=cabsB_facts (netB_facts hn).1
 obtain ⟨N,rfl⟩ : ∃ N : Nat,n = (N : Int):=⟨n.toNat,by omega⟩
 obtain ⟨fin,e1,e2,e3,e4,e5⟩:=frames_start N cs hs vs l h
 refine ⟨fin.1,fin.2,?_,?_,e3,e4,hl,hn,fun r hr => ?_,fun r hr => ?_,fun i hi => ?_⟩
 ·unfold impl_RunNet.f;rw [if_pos h,e1];rfl
 ·unfold spec_RunNet.f;rw [if_pos h,e2];rfl
 ·obtain ⟨i,hi,rfl⟩:=List.mem_iff_getElem.1 hr
  obtain ⟨F,T,r1,r2,r3,r4⟩:=e5 i (by omega)
  have:=(meet_ok hn r2 r3).t_len
  rw [getD_row _ i hi] at this
  exact this
 ·obtain ⟨i,hi,rfl⟩:=List.mem_iff_getElem.1 hr
  obtain ⟨F,T,r1,r2,r3,r4⟩:=e5 i (by omega)
  have:=(meet_ok hn r2 r3).o_len
  rw [getD_row _ i hi] at this
  exact this
 ·obtain ⟨F,T,r1,r2,r3,r4⟩:=e5 i hi
  refine ⟨?_,by rw [r1];exact meet_ok hn r2 r3,fun g hg h0 h1 hm => meet_slim hn r1 r2 r3 (r4 g hg) h0 h1 hm⟩
  have hx:=List.all_eq_true.1 hall _ (List.getElem_mem hi)
  have hh:=(netB_more hn).2.1
  unfold hopB stB at hx
  rw [Bool.and_eq_true,Bool.or_eq_true,decide_eq_true_eq,decide_eq_true_eq,beq_iff_eq] at hx
  omega
theorem run_none {n : Int} {cs : List S71} {hs vs : List Int} {l : List S36} (h : runB n cs hs vs l = false) : impl_RunNet.f n cs hs vs l = some ([],[],false) ∧ spec_RunNet.f n cs hs vs l = some ([],[],false):=by
 unfold impl_RunNet.f spec_RunNet.f
 rw [h]
 exact ⟨if_neg (by decide),if_neg (by decide)⟩

-- LIB pwnints
theorem wnInts_at (a b : List Int) (hl : a.length = b.length) (hm : a.length ≤ 9223372036854775807) (d : Nat) : ∀ (k i : Nat),i + d = a.length → d < k → laws_wnInts.l0 k b a a.length (i : Int) = some (decide (a.drop i = b.drop i)):=by
 induction d with
 | zero =>
  intro k i h1 hk
  obtain ⟨k,rfl⟩ : ∃ m,k = m + 1:=⟨k - 1,by omega⟩
  simp only [laws_wnInts.l0]
  rw [if_neg (by omega),List.drop_of_length_le (by omega),List.drop_of_length_le (by omega)]
  simp
 | succ d ih =>
  intro k i h1 hk
  obtain ⟨k,rfl⟩ : ∃ m,k = m + 1:=⟨k - 1,by omega⟩
  simp only [laws_wnInts.l0]
  rw [if_pos (by omega),if_pos (by omega),if_pos (by omega),if_pos (by omega),rd_get a i (by omega),rd_get b i (by omega),List.drop_eq_getElem_cons (show i < a.length by omega),List.drop_eq_getElem_cons (show i < b.length by omega),wrap_succ (show i < a.length by omega) (by omega),ih k (i + 1) (by omega) (by omega)]
  by_cases c : b[i] = a[i]
  ·rw [if_pos c,c];congr 1;rw [decide_eq_decide];exact ⟨fun h => by rw [h],fun h => (List.cons.inj h).2⟩
  ·rw [if_neg c,decide_eq_false (fun h => c (List.cons.inj h).1.symm)]

-- LIB pwnints
theorem wnInts_eq (a b : List Int) (hm : a.length ≤ 9223372036854775807) (k : Nat) (hk : a.length < k) : laws_wnInts.f k a b = some (decide (a = b)):=by
 unfold laws_wnInts.f
 by_cases c : a.length = b.length
 ·rw [if_pos (by omega)]
  exact wnInts_at a b c hm a.length k 0 (by omega) hk
 ·rw [if_neg (by omega),decide_eq_false (fun h => c (by rw [h]))]

-- LIB pwnpairs
theorem rdL_get (l : List (List Int)) (i : Nat) : rd_L4 l (i : Int) = l.getD i []:=by unfold rd_L4;rw [Int.toNat_natCast]

-- LIB pwnpairs
theorem wnPairs_at (l : List (List Int)) (hl : l.length ≤ 100) (hr : ∀ r ∈ l,r.length ≤ 20) (d : Nat) : ∀ (k i : Nat),i + d = l.length → d + 100 < k → laws_wnPairs.l0 k l l l.length (i : Int) = some true:=by
 induction d with
 | zero =>
  intro k i h1 hk
  obtain ⟨k,rfl⟩ : ∃ m,k = m + 1:=⟨k - 1,by omega⟩
  simp only [laws_wnPairs.l0]
  rw [if_neg (by omega)]
 | succ d ih =>
  intro k i h1 hk
  obtain ⟨k,rfl⟩ : ∃ m,k = m + 1:=⟨k - 1,by omega⟩
  have hi : i < l.length:=by omega
  have h20 : (l.getD i []).length ≤ 20:=by rw [show l.getD i [] = l[i] by simp [List.getD,hi]];exact hr _ (List.getElem_mem hi)
  simp only [laws_wnPairs.l0]
  rw [if_pos (by omega),if_pos (by omega),if_pos (by omega),if_pos (by omega),rdL_get,wnInts_eq _ _ (by omega) k (by omega),Option.bind_some,if_pos (by simp),wrap_succ hi (by omega)]
  exact ih k (i + 1) (by omega) (by omega)

-- LIB pwnpairs
theorem wnPairs_same (l : List (List Int)) (hl : l.length ≤ 100) (hr : ∀ r ∈ l,r.length ≤ 20) (k : Nat) (hk : 300 < k) : laws_wnPairs.f k l l = some true:=by
 unfold laws_wnPairs.f
 rw [if_pos rfl]
 exact wnPairs_at l hl hr l.length k 0 (by omega) (by omega)

-- LIB pwnhasl
theorem wnHas_at (l : List Int) (x : Int) (hl : l.length ≤ 9223372036854775807) (d : Nat) : ∀ (k i : Nat),i + d = l.length → d < k → laws_wnHas.l0 k x l l.length (i : Int) = some (hasL (l.drop i) x):=by
 induction d with
 | zero =>
  intro k i h1 hk
  obtain ⟨k,rfl⟩ : ∃ m,k = m + 1:=⟨k - 1,by omega⟩
  simp only [laws_wnHas.l0]
  rw [if_neg (by omega),List.drop_of_length_le (by omega)]
  rfl
 | succ d ih =>
  intro k i h1 hk
  obtain ⟨k,rfl⟩ : ∃ m,k = m + 1:=⟨k - 1,by omega⟩
  simp only [laws_wnHas.l0]
  rw [if_pos (by omega),if_pos (by omega),if_pos (by omega),rd_get l i (by omega),wrap_succ (show i < l.length by omega) (by omega),ih k (i + 1) (by omega) (by omega),List.drop_eq_getElem_cons (show i < l.length by omega),hasL_cons]
  by_cases c : l[i] = x
  ·rw [if_pos c,decide_eq_true c,Bool.true_or]
  ·rw [if_neg c,decide_eq_false c,Bool.false_or]

-- LIB pwnhasl
theorem wnHas_eq (l : List Int) (x : Int) (hl : l.length ≤ 9223372036854775807) (k : Nat) (hk : l.length < k) : laws_wnHas.f k l x = some (hasL l x):=wnHas_at l x hl l.length k 0 (by omega) hk

-- LIB pnet
theorem has_mates {n : Int} {cs : List S71} {hs vs : List Int} {s x : Int} : hasL (matesX n cs hs vs s) x = true ↔ x ∈ matesX n cs hs vs s:=hasL_iff _ _

-- LIB lawonce
def onceAt (k : Nat) (n : Int) (cs : List S71) (hs vs : List Int) (x0 x1 : Int) (row : List Int) : Prop :=
 ∃ m,impl_MatesOf.f k n cs hs vs x0 = some m ∧ ((x1 = 15 ∧ laws_wnInts.f k row m = some true) ∨ (x1 ≠ 15 ∧ ((laws_wnHas.f k m x1 = some true ∧ laws_wnInts.f k row [x1] = some true) ∨ (laws_wnHas.f k m x1 = some false ∧ row = []))))

-- LIB lawonce
theorem once_ok {n : Int} {cs : List S71} {hs vs : List Int} {x0 x1 : Int} {tk ov : List Int} (h : MeetOK n cs hs vs x0 x1 tk ov) (k : Nat) (hk : 2000 < k) : onceAt k n cs hs vs x0 x1 tk:=by
 have hx:=matesX_len n cs hs vs x0
 have htl:=h.t_len
 refine ⟨_,imates_eq n cs hs vs _ k (by omega),?_⟩
 rw [wnInts_eq _ _ (by omega) k (by omega),wnHas_eq _ _ (by omega) k (by omega),wnInts_eq _ _ (by omega) k (by omega)]
 by_cases c : x1 = 15
 ·exact Or.inl ⟨c,by rw [decide_eq_true (h.t_all c)]⟩
 ·refine Or.inr ⟨c,?_⟩
  by_cases c2 : x1 ∈ matesX n cs hs vs x0
  ·exact Or.inl ⟨by rw [has_mates.2 c2],by rw [decide_eq_true (h.t_one c2)]⟩
  ·exact Or.inr ⟨by rw [Bool.eq_false_iff.2 (fun e => c2 (has_mates.1 e))],h.t_no c c2⟩

-- LIB lawevry
theorem ev_nil (x : ByteArray) : x.toList = ([] : List UInt8) ↔ x.size = 0:=by
 rw [Lib.toList_data,Lib.size_eq]
 exact List.length_eq_zero_iff.symm

-- LIB lawevry
theorem nt_no {n : Int} {cs : List S71} {hs vs : List Int} (h : netB n cs hs vs = false) : impl_NetText.f n cs hs vs = some ⟨#[]⟩:=by
 unfold impl_NetText.f
 rw [h,if_neg (by decide)]

-- LIB lawevry
theorem nt_yes {n : Int} {cs : List S71} {hs vs : List Int} (h : netB n cs hs vs = true) : ∃ x : ByteArray,impl_NetText.f n cs hs vs = some x ∧ (x.toList == ([] : List UInt8)) = false:=by
 refine ⟨_,by unfold impl_NetText.f;rw [h,if_pos rfl],?_⟩
 rw [beq_eq_false_iff_ne]
 intro h0
 have h1:=(ev_nil _).1 h0
 have h2 : (netT n cs hs vs).length = 0:=h1
 unfold netT headB at h2
 rw [List.length_append,List.length_append,ByteArray.data_append,ByteArray.data_append] at h2
 simp at h2

-- LIB lawevry
def everyAt (k : Nat) (n : Int) (cs : List S71) (hs vs : List Int) (x0 x1 : Int) (row ov : List Int) : Prop :=
 onceAt k n cs hs vs x0 x1 row ∧ ov.length ≤ 1000 ∧ ∃ f,impl_FloodOver.f k n cs hs vs x0 = some f ∧ ∀ j ∈ ov,laws_wnHas.f k f j = some true

-- LIB lawevry
theorem run_every (n : Int) (cs : List S71) (hs vs : List Int) (l : List S36) : ∃ (tk ov : List (List Int)) (g : Bool), impl_RunNet.f n cs hs vs l = some (tk, ov, g) ∧ spec_RunNet.f n cs hs vs l = some (tk, ov, g) ∧ laws_wnPairs.f 4001 tk tk = some true ∧ laws_wnPairs.f 4001 ov ov = some true ∧
  (g = false → tk = []) ∧ (g = true → tk.length = l.length ∧ ov.length = l.length ∧ l.length ≤ 1000 ∧ ∀ i (hi : i < l.length),everyAt 4001 n cs hs vs l[i].f0 l[i].f1 (tk.getD i []) (ov.getD i [])):=by
 cases hr : runB n cs hs vs l with
 | false =>
  obtain ⟨e1,e2⟩:=run_none hr
  have hp:=wnPairs_same [] (by simp) (fun _ h => by cases h) 4001 (by omega)
  exact ⟨[],[],false,e1,e2,hp,hp,fun _ => rfl,fun h => (by cases h)⟩
 | true =>
  obtain ⟨tk,ov,e1,e2,e3,e4,hl,hn,t20,o20,hm⟩:=run_meet hr
  refine ⟨tk,ov,true,e1,e2,wnPairs_same tk (by omega) t20 _ (by omega),wnPairs_same ov (by omega) o20 _ (by omega),fun h => (by cases h),fun _ => ⟨e3,e4,by omega,fun i hi => ?_⟩⟩
  have h:=(hm i hi).2.1
  have hf:=floodX_len n cs hs vs l[i].f0
  have ho:=h.o_len
  refine ⟨once_ok h _ (by omega),by omega,_,iflood_eq n cs hs vs _ 4001 (by omega),fun j hj => ?_⟩
  rw [wnHas_eq _ _ (by omega) 4001 (by omega),(hasL_iff _ _).2 (h.o_sub j hj)]

-- LIB netask
theorem hop_at (l : List S36) (i : Nat) (h : i < l.length) : rd_T36 l (i : Int) = l[i]:=by simp [rd_T36,List.getD,h]

-- LIB netask
theorem row_at (l : List (List Int)) (i : Nat) : rd_L4 l (i : Int) = l.getD i []:=by unfold rd_L4;rw [Int.toNat_natCast]

-- LIB rowopen
structure Opn {α : Type} (P : Program) (d : Kd α) (t : TypeId) (wf : α → Prop) : Prop where
 out : ∀ {H : Type} (enc : TypeId × Value → H) (w : World) (fuel : Nat) (cs : List Value) (x : DataW H × List MemPlace),DataW.trod enc P w 0 (fun _ => true) true fuel t cs = some x → ∃ a,d.K w a cs ∧ wf a

-- LIB rowopen
structure OpnF {α : Type} (P : Program) (d : Kd α) (fs : Array Field) (off : Nat) (wf : α → Prop) : Prop where
 out : ∀ {H : Type} (enc : TypeId × Value → H) (w : World) (n : Nat) (cs : List Value) (xs : List (DataW H × List MemPlace)),xs.length = fs.size →
  (∀ (i : Nat) (f : Field),fs[i]? = some f → DataW.trod enc P w 0 (fun _ => true) true n f.type ((cs.drop f.offset).take (P.cellsOf f.type)) = xs[i]?) → ∃ a,d.K w a ((cs.drop off).take d.sz) ∧ wf a

-- LIB rowopen
theorem opn_int {P : Program} {t : TypeId} {k : IntKind} (ht : P.underlying t = some (.int k)) : Opn P (Kd.int k) t (fun n => (Lit.int k n).wf = true):=by
 constructor
 intro H enc w fuel cs x h
 obtain ⟨n,rfl,_,hw⟩:=DataW.trod_int ht h
 exact ⟨n,rfl,hw⟩

-- LIB rowopen
theorem opn_slice {α : Type} {P : Program} {d : Kd α} {t e : TypeId} {wf : α → Prop} (ht : P.underlying t = some (.slice e)) (hc : P.cellsOf e = d.sz) (h : Opn P d e wf) : Opn P (Kd.slice e d) t (fun l => l.length ≤ maxLen ∧ ∀ x ∈ l,wf x):=by
 constructor
 intro H enc w fuel cs x hx
 rcases Go.Deep.open_slice ht hx with ⟨rfl,_⟩ | ⟨a,len,cap,m,n,D,Pl,rfl,_,hl,hm,hmm,_,hel⟩
 ·exact ⟨[],⟨none,0,rfl,Nat.le_refl _,Kd.C_nil d w⟩,by simp,by simp⟩
 ·have hlm : len ≤ m:=by rw [hmm];simp;exact hl
  have hch : ∀ i : Fin len,∃ p : α,∃ c,w.cells? 0 (a.add (i.1 * d.sz)) d.sz = some c ∧ d.K w p c ∧ wf p:=by
   intro i
   obtain ⟨c,h1,h2⟩:=hel i.1 (by omega)
   obtain ⟨p,h3,h4⟩:=h.out enc w n c _ h2
   rw [hc] at h1
   exact ⟨p,c,h1,h3,h4⟩
  obtain ⟨f,hf⟩ : ∃ f : Fin len → α,∀ i : Fin len,∃ c,w.cells? 0 (a.add (i.1 * d.sz)) d.sz = some c ∧ d.K w (f i) c ∧ wf (f i):=⟨fun i => Classical.choose (hch i),fun i => Classical.choose_spec (hch i)⟩
  have hlen : (List.ofFn f).length = len:=List.length_ofFn
  refine ⟨List.ofFn f,⟨some a,cap,by rw [hlen],by omega,hlen.symm ▸ rfl,?_,fun hn => ⟨a,rfl,?_⟩⟩,by rw [hlen];omega,?_⟩
  ·rw [hlen];unfold maxLen at hm;omega
  ·intro j p hj
   have hjl : j < len:=by rw [← hlen];exact (List.getElem?_eq_some_iff.1 hj).1
   obtain ⟨c,h1,h2,_⟩:=hf ⟨j,hjl⟩
   obtain ⟨_,h3,h4⟩:=World.cells?_some h1
   rw [List.getElem?_ofFn,dif_pos hjl] at hj
   injection hj with hj
   rw [← hj]
   refine ⟨c,h3,h2,fun i u hu => ?_⟩
   have hi : i < d.sz:=by rw [← h3];exact (List.getElem?_eq_some_iff.1 hu).1
   have:=h4 i hi
   rw [hu] at this
   rw [← this,Addr.add_add]
  ·intro p hp
   obtain ⟨i,rfl⟩:=(List.mem_ofFn).1 hp
   obtain ⟨_,_,_,hw⟩:=hf i
   exact hw

-- LIB rowopen
theorem opnF_field {α : Type} {P : Program} {d : Kd α} {fs : Array Field} {wf : α → Prop} {off : Nat} (j : Nat) (f : Field) (hf : fs[j]? = some f) (ho : f.offset = off) (hc : P.cellsOf f.type = d.sz) (h : Opn P d f.type wf) : OpnF P d fs off wf:=by
 subst ho
 constructor
 intro H enc w n cs xs hl hx
 have hj : j < fs.size:=(Array.getElem?_eq_some_iff.1 hf).1
 have h1:=hx j f hf
 rw [List.getElem?_eq_getElem (by omega),hc] at h1
 exact h.out enc w n _ _ h1

-- LIB rowopen
theorem opnF_pair {α β : Type} {P : Program} {a : Kd α} {b : Kd β} {fs : Array Field} {off : Nat} {wa : α → Prop} {wb : β → Prop} (ha : OpnF P a fs off wa) (hb : OpnF P b fs (off + a.sz) wb) : OpnF P (Kd.pair a b) fs off (fun p => wa p.1 ∧ wb p.2):=by
 constructor
 intro H enc w n cs xs hl hx
 obtain ⟨p,h1,h2⟩:=ha.out enc w n cs xs hl hx
 obtain ⟨q,h3,h4⟩:=hb.out enc w n cs xs hl hx
 refine ⟨(p,q),⟨_,_,?_,h1,h3⟩,h2,h4⟩
 show (cs.drop off).take (a.sz + b.sz) = _
 rw [List.take_add,List.drop_drop]

-- LIB rowopen
theorem opn_struct {α β : Type} {P : Program} {d : Kd α} {t : TypeId} {fs : Array Field} {wf : α → Prop} (f : β → α) (g : α → β) (hg : ∀ a,f (g a) = a) (ht : P.underlying t = some (.struct fs)) (hc : P.cellsOf t = d.sz) (h : OpnF P d fs 0 wf) : Opn P (Kd.iso d f) t (fun x => wf (f x)):=by
 constructor
 intro H enc w fuel cs x hx
 obtain ⟨xs,n,_,_,hl,hlen,hf⟩:=DataW.trod_struct ht hx
 obtain ⟨a,h1,h2⟩:=h.out enc w n cs xs hlen hf
 rw [List.drop_zero,List.take_of_length_le (by omega)] at h1
 refine ⟨g a,?_,?_⟩
 ·show d.K w (f (g a)) cs
  rw [hg];exact h1
 ·show wf (f (g a))
  rw [hg];exact h2

-- LIB rowopen
theorem open_aggK {α : Type} {P : Program} {d : Kd α} {t : TypeId} {wf : α → Prop} {H : Type} {enc : TypeId × Value → H} {w : World} {cs : Array Value} {dd : DataW H} {p : List MemPlace} (h : Opn P d t wf) (hx : DataW.Trod enc P w 0 (fun _ => true) true t (.agg cs) dd p) : ∃ x : α,d.K w x cs.toList ∧ wf x:=by
 obtain ⟨fuel,hf⟩:=hx
 exact h.out enc w fuel _ _ hf

-- LIB opnT71
theorem opnT71 : Opn Tryd.prog k71 71 (fun x => ((Lit.int .i64 x.f0).wf = true ∧ ((Lit.int .i64 x.f1).wf = true ∧ (Lit.int .i64 x.f2).wf = true))):=by
 have h:=opn_struct (P:=Tryd.prog) (d:=(Kd.pair (Kd.int .i64) (Kd.pair (Kd.int .i64) (Kd.int .i64)))) (t:=71) (fun x : S71 => (x.f0,x.f1,x.f2)) (fun p => ⟨p.1,p.2.1,p.2.2⟩) (fun _ => rfl) Tryd.underlying71 (by kernel_rfl) (opnF_pair (opnF_field 0 _ rfl rfl (by kernel_rfl) (opn_int (P:=Tryd.prog) (t:=3) (k:=.i64) (by kernel_rfl))) (opnF_pair (opnF_field 1 _ rfl rfl (by kernel_rfl) (opn_int (P:=Tryd.prog) (t:=3) (k:=.i64) (by kernel_rfl))) (opnF_field 2 _ rfl rfl (by kernel_rfl) (opn_int (P:=Tryd.prog) (t:=3) (k:=.i64) (by kernel_rfl)))))
 exact h

-- LIB opnT25
theorem opnT25 : Opn Tryd.prog k25 25 (fun x => ((Lit.int .i64 x.f0).wf = true ∧ ((x.f1.length ≤ maxLen ∧ ∀ y0 ∈ x.f1,((Lit.int .i64 y0.f0).wf = true ∧ ((Lit.int .i64 y0.f1).wf = true ∧ (Lit.int .i64 y0.f2).wf = true))) ∧ ((x.f2.length ≤ maxLen ∧ ∀ y0 ∈ x.f2,(Lit.int .i64 y0).wf = true) ∧ (x.f3.length ≤ maxLen ∧ ∀ y0 ∈ x.f3,(Lit.int .i64 y0).wf = true))))):=by
 have h:=opn_struct (P:=Tryd.prog) (d:=(Kd.pair (Kd.int .i64) (Kd.pair (Kd.slice 71 k71) (Kd.pair (Kd.slice 3 (Kd.int .i64)) (Kd.slice 3 (Kd.int .i64)))))) (t:=25) (fun x : S25 => (x.f0,x.f1,x.f2,x.f3)) (fun p => ⟨p.1,p.2.1,p.2.2.1,p.2.2.2⟩) (fun _ => rfl) Tryd.underlying25 (by kernel_rfl) (opnF_pair (opnF_field 0 _ rfl rfl (by kernel_rfl) (opn_int (P:=Tryd.prog) (t:=3) (k:=.i64) (by kernel_rfl))) (opnF_pair (opnF_field 1 _ rfl rfl (by kernel_rfl) (opn_slice (P:=Tryd.prog) (t:=22) (e:=71) (by kernel_rfl) (by kernel_rfl) opnT71)) (opnF_pair (opnF_field 2 _ rfl rfl (by kernel_rfl) (opn_slice (P:=Tryd.prog) (t:=23) (e:=3) (by kernel_rfl) (by kernel_rfl) (opn_int (P:=Tryd.prog) (t:=3) (k:=.i64) (by kernel_rfl)))) (opnF_field 3 _ rfl rfl (by kernel_rfl) (opn_slice (P:=Tryd.prog) (t:=23) (e:=3) (by kernel_rfl) (by kernel_rfl) (opn_int (P:=Tryd.prog) (t:=3) (k:=.i64) (by kernel_rfl)))))))
 exact h

-- LIB opnT36
theorem opnT36 : Opn Tryd.prog k36 36 (fun x => ((Lit.int .i64 x.f0).wf = true ∧ ((Lit.int .i64 x.f1).wf = true ∧ (Lit.int .i64 x.f2).wf = true))):=by
 have h:=opn_struct (P:=Tryd.prog) (d:=(Kd.pair (Kd.int .i64) (Kd.pair (Kd.int .i64) (Kd.int .i64)))) (t:=36) (fun x : S36 => (x.f0,x.f1,x.f2)) (fun p => ⟨p.1,p.2.1,p.2.2⟩) (fun _ => rfl) Tryd.underlying36 (by kernel_rfl) (opnF_pair (opnF_field 0 _ rfl rfl (by kernel_rfl) (opn_int (P:=Tryd.prog) (t:=3) (k:=.i64) (by kernel_rfl))) (opnF_pair (opnF_field 1 _ rfl rfl (by kernel_rfl) (opn_int (P:=Tryd.prog) (t:=3) (k:=.i64) (by kernel_rfl))) (opnF_field 2 _ rfl rfl (by kernel_rfl) (opn_int (P:=Tryd.prog) (t:=3) (k:=.i64) (by kernel_rfl)))))
 exact h

/-! ### laws_FnEveryNet: function 3 (by hand) -/
theorem ebx4 {W : World} {b t : Nat} {a0 a1 a2 a3 : Value} (h : W.heap[b]? = some (.cells #[a0,a1,a2,a3] t (0,0))) :
  W.cell? ⟨b,0,none⟩ = some a0 ∧ W.cell? ⟨b,1,none⟩ = some a1 ∧ W.cell? ⟨b,2,none⟩ = some a2 ∧ W.cell? ⟨b,3,none⟩ = some a3 :=
 ⟨(bc_ h 0).trans rfl,(bc_ h 1).trans rfl,(bc_ h 2).trans rfl,(bc_ h 3).trans rfl⟩
theorem ebx3 {W : World} {b t : Nat} {a0 a1 a2 : Value} (h : W.heap[b]? = some (.cells #[a0,a1,a2] t (0,0))) : W.cell? ⟨b,0,none⟩ = some a0 ∧ W.cell? ⟨b,1,none⟩ = some a1 ∧ W.cell? ⟨b,2,none⟩ = some a2 :=
 ⟨(bc_ h 0).trans rfl,(bc_ h 1).trans rfl,(bc_ h 2).trans rfl⟩
theorem ebx2 {W : World} {b t : Nat} {a0 a1 : Value} (h : W.heap[b]? = some (.cells #[a0,a1] t (0,0))) : W.cell? ⟨b,0,none⟩ = some a0 ∧ W.cell? ⟨b,1,none⟩ = some a1:=⟨(bc_ h 0).trans rfl,(bc_ h 1).trans rfl⟩
theorem eC_one {W : World} {b t : Nat} (y : Int) (h : W.heap[b]? = some (.cells #[.int .i64 y] t (0,0))) : Kd.C (Kd.int .i64) W (some ⟨b,0,none⟩) 1 [y]:=by
 refine Kd.C_of_reads (d:=(0 : Int)) (h1:=fun _ => rfl) ⟨rfl,by simp,fun _ => ⟨_,rfl,fun i hi => ?_⟩⟩
 obtain rfl : i = 0:=by omega
 exact (bc_ h 0).trans rfl
theorem ev3 {P A B C : Prop} (h : A ∨ B ∨ C) (a : A → P) (b : B → P) (c : C → P) : P:=h.elim a (fun h => h.elim b c)
def laws_FnEveryNet.f (k : Nat) (a0_0 : Int) (l0_1 : List (S71)) (l0_2 : List Int) (l0_3 : List Int) (l1 : List (S36)) : Option (Bool) :=
 some true
set_option maxHeartbeats 4000000 in
set_option maxRecDepth 100000 in
theorem laws_FnEveryNet.calls (k : Nat) (a0_0 : Int) (A0_1 : Option Addr) (c0_1 : Nat) (l0_1 : List (S71)) (A0_2 : Option Addr) (c0_2 : Nat) (l0_2 : List Int) (A0_3 : Option Addr) (c0_3 : Nat) (l0_3 : List Int) (A1 : Option Addr) (c1 : Nat) (l1 : List (S36)) (r : Bool) (w : World) (hr0_1 : Kd.C k71 w A0_1 l0_1.length l0_1) (hc0_1 : l0_1.length ≤ c0_1) (hr0_2 : Kd.C (Kd.int .i64) w A0_2 l0_2.length l0_2) (hc0_2 : l0_2.length ≤ c0_2) (hr0_3 : Kd.C (Kd.int .i64) w A0_3 l0_3.length l0_3) (hc0_3 : l0_3.length ≤ c0_3) (hr1 : Kd.C k36 w A1 l1.length l1) (hc1 : l1.length ≤ c1) (h : laws_FnEveryNet.f k a0_0 l0_1 l0_2 l0_3 l1 = some r) :
  Calls Tryd.prog 3 #[.agg #[.int .i64 a0_0,.slice A0_1 l0_1.length c0_1,.slice A0_2 l0_2.length c0_2,.slice A0_3 l0_3.length c0_3],.slice A1 l1.length c1] w fun e w' => e = .returned (.bool r) ∧ Below w.heap.size w w':=by
 unfold laws_FnEveryNet.f at h
 obtain rfl:=Option.some.inj h
 clear h
 have hu1:=Tryd.underlying25
 have hu2:=Tryd.underlying29
 have hu3:=Tryd.underlying36
 obtain ⟨tk,ov,g,hA,hS,hP1,hP2,hG,hL⟩:=run_every a0_0 l0_1 l0_2 l0_3 l1
 have HIM:=mk_ (fun W (hb : Below w.heap.size w W) => impl_RunNet.calls a0_0 A0_1 c0_1 l0_1 A0_2 c0_2 l0_2 A0_3 c0_3 l0_3 A1 c1 l1 tk ov g W (cb_ hr0_1 hb) hc0_1 (cb_ hr0_2 hb) hc0_2 (cb_ hr0_3 hb) hc0_3 (cb_ hr1 hb) hc1 hA)
 have HSP:=mk_ (fun W (hb : Below w.heap.size w W) => spec_RunNet.calls a0_0 A0_1 c0_1 l0_1 A0_2 c0_2 l0_2 A0_3 c0_3 l0_3 A1 c1 l1 tk ov g W (cb_ hr0_1 hb) hc0_1 (cb_ hr0_2 hb) hc0_2 (cb_ hr0_3 hb) hc0_3 (cb_ hr1 hb) hc1 hS)
 have HP1:=mk_ (fun B1 d1 B2 d2 W g1 q1 g2 q2 => laws_wnPairs.calls 4001 B1 d1 tk B2 d2 tk true W g1 q1 g2 q2 hP1)
 have HP2:=mk_ (fun B1 d1 B2 d2 W g1 q1 g2 q2 => laws_wnPairs.calls 4001 B1 d1 ov B2 d2 ov true W g1 q1 g2 q2 hP2)
 have HNV:=mk_ (fun W (hb : Below w.heap.size w W) => impl_NetValid.calls a0_0 A0_1 c0_1 l0_1 A0_2 c0_2 l0_2 A0_3 c0_3 l0_3 _ W (cb_ hr0_1 hb) hc0_1 (cb_ hr0_2 hb) hc0_2 (cb_ hr0_3 hb) hc0_3 (inet_eq a0_0 l0_1 l0_2 l0_3))
 have HSV:=mk_ (fun W (hb : Below w.heap.size w W) => spec_NetValid.calls (l0_2.length + l0_3.length + l0_1.length + 4) a0_0 A0_1 c0_1 l0_1 A0_2 c0_2 l0_2 A0_3 c0_3 l0_3 _ W (cb_ hr0_1 hb) hc0_1 (cb_ hr0_2 hb) hc0_2 (cb_ hr0_3 hb) hc0_3 (snet_eq a0_0 l0_1 l0_2 l0_3 (Kd.C_max hr0_1) (Kd.C_max hr0_2) (Kd.C_max hr0_3) _ (by omega)))
 have HTX:=mk_ (fun x (hx : impl_NetText.f a0_0 l0_1 l0_2 l0_3 = some x) W (hb : Below w.heap.size w W) => impl_NetText.calls a0_0 A0_1 c0_1 l0_1 A0_2 c0_2 l0_2 A0_3 c0_3 l0_3 x W (cb_ hr0_1 hb) hc0_1 (cb_ hr0_2 hb) hc0_2 (cb_ hr0_3 hb) hc0_3 hx)
 have HMT:=mk_ (fun x m (hm : impl_MatesOf.f 4001 a0_0 l0_1 l0_2 l0_3 x = some m) W (hb : Below w.heap.size w W) => impl_MatesOf.calls 4001 a0_0 A0_1 c0_1 l0_1 A0_2 c0_2 l0_2 A0_3 c0_3 l0_3 x m W (cb_ hr0_1 hb) hc0_1 (cb_ hr0_2 hb) hc0_2 (cb_ hr0_3 hb) hc0_3 hm)
 have HFT:=mk_ (fun x m (hm : impl_FloodOver.f 4001 a0_0 l0_1 l0_2 l0_3 x = some m) W (hb : Below w.heap.size w W) => impl_FloodOver.calls 4001 a0_0 A0_1 c0_1 l0_1 A0_2 c0_2 l0_2 A0_3 c0_3 l0_3 x m W (cb_ hr0_1 hb) hc0_1 (cb_ hr0_2 hb) hc0_2 (cb_ hr0_3 hb) hc0_3 hm)
 have HL4:=mk_ hr1
 have HGL:=mk_ hG
 have HL:=mk_ hL
 clear hr0_1 hr0_2 hr0_3 hr1 hA hS hP1 hP2 hG hL
 have hba:=ba_ (Below.refl w.heap.size w) (.cells #[.int .i64 a0_0,.slice A0_1 l0_1.length c0_1,.slice A0_2 l0_2.length c0_2,.slice A0_3 l0_3.length c0_3] 25)
 have HN:=mk_ (blk_new w (.cells #[.int .i64 a0_0,.slice A0_1 l0_1.length c0_1,.slice A0_2 l0_2.length c0_2,.slice A0_3 l0_3.length c0_3] 25))
 have HB:=mk_ hba
 clear hba
 obtain ⟨n0,n1,n2,n3⟩:=ebx4 HN.out
 go_enter Tryd.func3,Tryd.ntmps3
 go_wp2_with fail
 refine (HIM.out _ HB.out).mono ?_
 rintro e w2 ⟨v1,v2,rfl,h5,h6,hb2⟩
 obtain ⟨T1,t1,rfl⟩:=Kd.S_slice h5
 obtain ⟨O1,o1,rfl⟩:=Kd.S_slice h6
 have hba:=ba_ (Below.refl _ w2) (.cells #[.slice T1 tk.length t1,.slice O1 ov.length o1] 29)
 have HS5:=mk_ (blk_new w2 (.cells #[.slice T1 tk.length t1,.slice O1 ov.length o1] 29))
 have H5:=mk_ (And.intro (Kd.S_reads' h5).2.1 (cb_ (Kd.S_reads' h5).2.2 hba))
 have H6:=mk_ (And.intro (Kd.S_reads' h6).2.1 (cb_ (Kd.S_reads' h6).2.2 hba))
 have hb:=st_ hb2 hba
 replace HN:=mk_ (blk_below HN.out hb)
 replace HB:=mk_ (st_ HB.out hb)
 clear h5 h6 hb hb2 hba HIM n0 n1 n2 n3
 obtain ⟨n0,n1,n2,n3⟩:=ebx4 HN.out
 go_wp2_with fail
 refine (HSP.out _ HB.out).mono ?_
 generalize w2.heap.size = b5 at HS5 ⊢
 rintro e w3 ⟨v1,v2,rfl,h5,h6,hb2⟩
 obtain ⟨T2,t2,rfl⟩:=Kd.S_slice h5
 obtain ⟨O2,o2,rfl⟩:=Kd.S_slice h6
 have hba:=ba_ (Below.refl _ w3) (.cells #[.slice T2 tk.length t2,.slice O2 ov.length o2] 29)
 have HS7:=mk_ (blk_new w3 (.cells #[.slice T2 tk.length t2,.slice O2 ov.length o2] 29))
 have H7:=mk_ (And.intro (Kd.S_reads' h5).2.1 (cb_ (Kd.S_reads' h5).2.2 hba))
 have H8:=mk_ (And.intro (Kd.S_reads' h6).2.1 (cb_ (Kd.S_reads' h6).2.2 hba))
 have hb:=st_ hb2 hba
 replace HN:=mk_ (blk_below HN.out hb)
 replace HS5:=mk_ (blk_below HS5.out hb)
 replace HB:=mk_ (st_ HB.out hb)
 replace H5:=mk_ (And.intro H5.out.1 (cb_ H5.out.2 hb))
 replace H6:=mk_ (And.intro H6.out.1 (cb_ H6.out.2 hb))
 clear h5 h6 hb hb2 hba HSP n0 n1 n2 n3
 go_upto_region 3 with (fail)
 generalize w3.alloc (.cells #[.slice T2 tk.length t2,.slice O2 ov.length o2] 29) = W3 at HN HS5 HS7 HB H5 H6 H7 H8 ⊢
 generalize w3.heap.size = b7 at HS7 ⊢
 obtain ⟨V,hV⟩ : ∃ V : World,V = W3:=⟨W3,rfl⟩
 have HVz : Aside0 (Below V.heap.size V W3):=⟨by rw [hV];exact Below.refl _ _⟩
 rw [← hV] at HN HS5 HS7 HB H5 H6 H7 H8
 clear hV
 obtain ⟨s0z,s1z⟩:=ebx2 (blk_below HS5.out HVz.out)
 obtain ⟨q0z,q1z⟩:=ebx2 (blk_below HS7.out HVz.out)
 obtain ⟨n0z,n1z,n2z,n3z⟩:=ebx4 (blk_below HN.out HVz.out)
 have g1_ : (g != g) = false:=by cases g <;> rfl
 have g2_ : (netB a0_0 l0_1 l0_2 l0_3 != netB a0_0 l0_1 l0_2 l0_3) = false:=by cases netB a0_0 l0_1 l0_2 l0_3 <;> rfl
 refine start_ (n:=26) (S:=fun w' => w'.cell? ⟨b5,0,none⟩ = some (.slice T1 tk.length t1) ∧ w'.cell? ⟨b5,1,none⟩ = some (.slice O1 ov.length o1) ∧ w'.cell? ⟨b7,0,none⟩ = some (.slice T2 tk.length t2) ∧ w'.cell? ⟨b7,1,none⟩ = some (.slice O2 ov.length o2) ∧ w'.cell? ⟨w.heap.size,0,none⟩ = some (.int .i64 a0_0) ∧ w'.cell? ⟨w.heap.size,1,none⟩ = some (.slice A0_1 l0_1.length c0_1) ∧ w'.cell? ⟨w.heap.size,2,none⟩ = some (.slice A0_2 l0_2.length c0_2) ∧ w'.cell? ⟨w.heap.size,3,none⟩ = some (.slice A0_3 l0_3.length c0_3)) (ds:=[]) #[false,false,false,false,false,false,false,false,false,false,false,false,false,false,false,false,false,false,false,false,false,false,false,false,false,false] (by kernel_rfl) rfl rfl ⟨s0z,s1z,q0z,q1z,n0z,n1z,n2z,n3z⟩ (fun hHeld => ?_)
 refine pu_ (i:=0) (N:=some 27) 26 1 ?_
 refine pu_ (i:=1) (N:=some 28) 26 3 ?_
 refine pu_ (i:=2) (N:=some 29) 26 7 ?_
 refine pu_ (i:=3) (N:=some 30) 26 15 ?_
 refine pu_ (i:=4) (N:=some 31) 26 31 ?_
 refine pu_ (i:=6) (N:=some 33) 26 95 ?_
 refine ta8_ (i:=5) (N:=some 32) 26 127 hHeld ?_
 refine ta8_ (i:=7) (N:=some 34) 26 255 hHeld ?_
 refine on_ (i:=8) (N:=some 35) 26 511 (fun K hK => ?_)
 refine goes_ Tryd.func6 (by kernel_rfl) rfl #[.slice T1 tk.length t1,.slice T2 tk.length t2] (by rfl) rfl rfl (by simp only [List.map_toArray,List.map_cons,List.map_nil];rfl) ?_
 with_reducible refine (HP1.out _ _ _ _ _ (cd_ (cb_ H5.out.2 HVz.out)) H5.out.1 (cd_ (cb_ H7.out.2 HVz.out)) H7.out.1).mono ?_
 rintro e wa ⟨rfl,hd⟩
 refine ⟨_,rfl,?_⟩
 have hda:=st_ (below_drew (Below.refl W3.heap.size W3)) hd.below
 have HVa:=mk_ (st_ HVz.out hda)
 obtain ⟨s0a,s1a⟩:=ebx2 (blk_below HS5.out HVa.out)
 obtain ⟨q0a,q1a⟩:=ebx2 (blk_below HS7.out HVa.out)
 obtain ⟨n0a,n1a,n2a,n3a⟩:=ebx4 (blk_below HN.out HVa.out)
 clear hd hda
 refine hK.out _ _ ⟨s0a,s1a,q0a,q1a,n0a,n1a,n2a,n3a⟩ (fun hHeld => ?_)
 clear hK K
 refine norm_ (a':=?_) ?_ ?_
 rotate_left
 ·show Act.put _ (some 35) _ = _
  simp only [Act.put,sx_,sy_,sz_,i64_w,i32_w]
  rfl
 refine pu_ (i:=9) (N:=some 36) 26 1023 ?_
 refine pu_ (i:=10) (N:=some 37) 26 2047 ?_
 refine pu_ (i:=11) (N:=some 38) 26 4095 ?_
 refine pu_ (i:=12) (N:=some 39) 26 8191 ?_
 refine pu_ (i:=14) (N:=some 41) 26 24575 ?_
 refine ta8_ (i:=13) (N:=some 40) 26 32767 hHeld ?_
 refine ta8_ (i:=15) (N:=some 42) 26 65535 hHeld ?_
 refine on_ (i:=16) (N:=some 43) 26 131071 (fun K hK => ?_)
 refine goes_ Tryd.func6 (by kernel_rfl) rfl #[.slice O1 ov.length o1,.slice O2 ov.length o2] (by rfl) rfl rfl (by simp only [List.map_toArray,List.map_cons,List.map_nil];rfl) ?_
 with_reducible refine (HP2.out _ _ _ _ wa (cb_ H6.out.2 HVa.out) H6.out.1 (cb_ H8.out.2 HVa.out) H8.out.1).mono ?_
 rintro e wb ⟨rfl,hd⟩
 refine ⟨_,rfl,?_⟩
 have HVb:=mk_ (st_ HVa.out hd.below)
 obtain ⟨s0b,s1b⟩:=ebx2 (blk_below HS5.out HVb.out)
 obtain ⟨q0b,q1b⟩:=ebx2 (blk_below HS7.out HVb.out)
 obtain ⟨n0b,n1b,n2b,n3b⟩:=ebx4 (blk_below HN.out HVb.out)
 clear hd
 refine hK.out _ _ ⟨s0b,s1b,q0b,q1b,n0b,n1b,n2b,n3b⟩ (fun hHeld => ?_)
 clear hK K
 refine norm_ (a':=?_) ?_ ?_
 rotate_left
 ·show Act.put _ (some 43) _ = _
  simp only [Act.put,sx_,sy_,sz_,i64_w,i32_w]
  rfl
 refine pu_ (i:=17) (N:=some 44) 26 262143 ?_
 refine pu_ (i:=18) (N:=some 45) 26 524287 ?_
 refine pu_ (i:=19) (N:=some 46) 26 1048575 ?_
 refine ta8_ (i:=20) (N:=some 47) 26 2097151 hHeld ?_
 refine ta8_ (i:=22) (N:=some 49) 26 6291455 hHeld ?_
 refine on_ (i:=21) (N:=some 48) 26 8388607 (fun K hK => ?_)
 refine goes_ Tryd.func7 (by kernel_rfl) rfl #[.agg #[.int .i64 a0_0,.slice A0_1 l0_1.length c0_1,.slice A0_2 l0_2.length c0_2,.slice A0_3 l0_3.length c0_3]] (by rfl) rfl rfl (by simp only [List.map_toArray,List.map_cons,List.map_nil];rfl) ?_
 with_reducible refine (HNV.out wb (st_ HB.out HVb.out)).mono ?_
 rintro e wc ⟨rfl,hd⟩
 refine ⟨_,rfl,?_⟩
 have HVc:=mk_ (st_ HVb.out hd)
 obtain ⟨s0c,s1c⟩:=ebx2 (blk_below HS5.out HVc.out)
 obtain ⟨q0c,q1c⟩:=ebx2 (blk_below HS7.out HVc.out)
 obtain ⟨n0c,n1c,n2c,n3c⟩:=ebx4 (blk_below HN.out HVc.out)
 clear hd
 refine hK.out _ _ ⟨s0c,s1c,q0c,q1c,n0c,n1c,n2c,n3c⟩ (fun hHeld => ?_)
 clear hK K
 refine norm_ (a':=?_) ?_ ?_
 rotate_left
 ·show Act.put _ (some 48) _ = _
  simp only [Act.put,sx_,sy_,sz_,i64_w,i32_w]
  rfl
 refine on_ (i:=23) (N:=some 50) 26 16777215 (fun K hK => ?_)
 refine goes_ Tryd.func8 (by kernel_rfl) rfl #[.agg #[.int .i64 a0_0,.slice A0_1 l0_1.length c0_1,.slice A0_2 l0_2.length c0_2,.slice A0_3 l0_3.length c0_3]] (by rfl) rfl rfl (by simp only [List.map_toArray,List.map_cons,List.map_nil];rfl) ?_
 with_reducible refine (HSV.out wc (st_ HB.out HVc.out)).mono ?_
 rintro e wd ⟨rfl,hd⟩
 refine ⟨_,rfl,?_⟩
 have HVd:=mk_ (st_ HVc.out hd)
 obtain ⟨s0d,s1d⟩:=ebx2 (blk_below HS5.out HVd.out)
 obtain ⟨q0d,q1d⟩:=ebx2 (blk_below HS7.out HVd.out)
 obtain ⟨n0d,n1d,n2d,n3d⟩:=ebx4 (blk_below HN.out HVd.out)
 clear hd
 refine hK.out _ _ ⟨s0d,s1d,q0d,q1d,n0d,n1d,n2d,n3d⟩ (fun hHeld => ?_)
 clear hK K
 refine norm_ (a':=?_) ?_ ?_
 rotate_left
 ·show Act.put _ (some 50) _ = _
  simp only [Act.put,sx_,sy_,sz_,i64_w,i32_w]
  rfl
 refine pu_ (i:=24) (N:=some 51) 26 33554431 ?_
 refine pu_ (i:=25) (N:=some 52) 26 67108863 ?_
 refine done_ (by kernel_rfl) ?_
 clear s0z s1z q0z q1z n0z n1z n2z n3z s0a s1a q0a q1a n0a n1a n2a n3a s0b s1b q0b q1b n0b n1b n2b n3b s0c s1c q0c q1c n0c n1c n2c n3c HVz HVa HVb HVc HP1 HP2 HSV H7 H8 HS7 s0d s1d q0d q1d g2_
 cases g with
 | false =>
  obtain rfl:=HGL.out rfl
  cases hv : netB a0_0 l0_1 l0_2 l0_3 with
  | false =>
   rw [hv] at HNV
   have HTX1:=mk_ (HTX.out _ (nt_no hv))
   clear HTX hv
   go_wp2_with fail
   refine (HTX1.out wd (st_ HB.out HVd.out)).mono ?_
   rintro e we ⟨rfl,hb⟩
   have HVe:=mk_ (st_ HVd.out hb)
   clear hb n0d n1d n2d n3d
   obtain ⟨s0,s1⟩:=ebx2 (blk_below HS5.out HVe.out)
   obtain ⟨n0,n1,n2,n3⟩:=ebx4 (blk_below HN.out HVe.out)
   go_wp2_with fail
   refine (HNV.out we (st_ HB.out HVe.out)).mono ?_
   rintro e wf ⟨rfl,hb⟩
   go_wp2
   go_ret
   exact ⟨by first|rfl|simp,st_ HB.out (st_ HVe.out hb)⟩
  | true =>
   rw [hv] at HNV
   obtain ⟨x,hx,hxe⟩:=nt_yes hv
   have HTX1:=mk_ (HTX.out _ hx)
   clear HTX hv hx
   go_wp2_with fail
   refine (HTX1.out wd (st_ HB.out HVd.out)).mono ?_
   rintro e we ⟨rfl,hb⟩
   have HVe:=mk_ (st_ HVd.out hb)
   clear hb n0d n1d n2d n3d
   obtain ⟨s0,s1⟩:=ebx2 (blk_below HS5.out HVe.out)
   obtain ⟨n0,n1,n2,n3⟩:=ebx4 (blk_below HN.out HVe.out)
   go_wp2_with fail
   refine (HNV.out we (st_ HB.out HVe.out)).mono ?_
   rintro e wf ⟨rfl,hb⟩
   go_wp2
   go_ret
   exact ⟨by first|rfl|simp [hxe]|(simp only [hxe];rfl),st_ HB.out (st_ HVe.out hb)⟩
 | true =>
  obtain ⟨hl1,hl2,hl3,hL⟩:=HL.out rfl
  have HLL:=mk_ (And.intro hl1 hl2)
  replace HL:=mk_ hL
  have HTE : Aside0 (∃ x,impl_NetText.f a0_0 l0_1 l0_2 l0_3 = some x):=⟨by cases hv : netB a0_0 l0_1 l0_2 l0_3 with|false => exact ⟨_,nt_no hv⟩|true => exact ⟨_,(nt_yes hv).choose_spec.1⟩⟩
  obtain ⟨x,hx⟩:=HTE.out
  have HTX1:=mk_ (HTX.out _ hx)
  clear HTX hx HTE hl1 hl2 hL HNV HGL g1_
  go_wp2_with fail
  refine (HTX1.out wd (st_ HB.out HVd.out)).mono ?_
  rintro e we ⟨rfl,hb⟩
  have HV:=mk_ (st_ HVd.out hb)
  clear hb n0d n1d n2d n3d HVd HTX1
  go_wp2_with fail
  go_loopg [71] l1.length (fun gg sx_ wr => ∃ (kk : Nat),kk ≤ l1.length ∧ l1.length - kk ≤ gg ∧ sx_ = .int .i64 (kk : Int) ∧ Aside0 (Below V.heap.size V wr))
  case atStart => exact ⟨0,Nat.zero_le _,by omega,rfl,HV⟩
  case round =>
   clear HV
   obtain ⟨kk,hkk,hgg,rfl,HV⟩:=hrel
   by_cases hlt : kk < l1.length
   ·obtain ⟨ad,ea,hx0,hx1,hx2⟩:=at_T36 (cb_ HL4.out (st_ HB.out HV.out)) (kk : Int) (by omega) (by omega)
    rw [Int.toNat_natCast,hop_at l1 kk hlt] at hx0 hx1 hx2
    subst ea
    have hask:=HL.out kk hlt
    obtain ⟨y0,hy0⟩ : ∃ x,l1[kk].f0 = x:=⟨_,rfl⟩
    obtain ⟨y1,hy1⟩ : ∃ x,l1[kk].f1 = x:=⟨_,rfl⟩
    obtain ⟨y2,hy2⟩ : ∃ x,l1[kk].f2 = x:=⟨_,rfl⟩
    rw [hy0] at hx0 hask
    rw [hy1] at hx1 hask
    rw [hy2] at hx2
    clear hy0 hy1 hy2
    have p2 : ((kk : Int) < (l1.length : Int)) = True:=eq_true (by omega)
    have p3 : (kk < l1.length) = True:=eq_true hlt
    obtain ⟨⟨m,hm,hcase⟩,hov,fl,hfl,hall⟩:=hask
    have HM:=mk_ (HMT.out y0 m hm)
    have HFL:=mk_ (HFT.out y0 fl hfl)
    have hba:=ba_ (Below.refl _ wr) (.cells #[.int .i64 y0,.int .i64 y1,.int .i64 y2] 36)
    have HH:=mk_ (blk_new wr (.cells #[.int .i64 y0,.int .i64 y1,.int .i64 y2] 36))
    have HVU:=mk_ (st_ HV.out hba)
    obtain ⟨n0,n1,n2,n3⟩:=ebx4 (blk_below HN.out HVU.out)
    obtain ⟨h0,h1,_⟩:=ebx3 HH.out
    clear hba HV hm hfl
    go_wp2_with fail
    refine (HM.out _ (st_ HB.out HVU.out)).mono ?_
    rintro e wa ⟨va,rfl,ha,hba⟩
    obtain ⟨F,fc,rfl⟩:=Kd.R_slice ha
    have HMA:=mk_ (rr_ ha).2
    have HVz:=mk_ (st_ HVU.out hba)
    replace HH:=mk_ (blk_below HH.out hba)
    have HWz:=mk_ (Below.refl wa.heap.size wa)
    clear ha hba n0 n1 n2 n3 h0 h1 hx0 hx1 hx2 p2 p3 HM
    generalize wr.heap.size = bh at HH ⊢
    obtain ⟨ar,Ar,cr,ea2,hrow,hrl,hrc⟩:=at_L4 H5.out.2 (kk : Int) (by omega) (by have:=HLL.out.1;omega)
    rw [Int.toNat_natCast,row_at] at hrow
    rw [row_at] at hrl hrc
    subst ea2
    generalize tk.getD kk [] = rw_ at hrow hrl hrc hcase
    have HROW:=mk_ hrow
    have HRW:=mk_ (And.intro hrl hrc)
    clear hrow hrl hrc
    obtain ⟨ao,Ao,co,ea2,hrow,hrl,hrc⟩:=at_L4 H6.out.2 (kk : Int) (by omega) (by have:=HLL.out.2;omega)
    rw [Int.toNat_natCast,row_at] at hrow
    rw [row_at] at hrl hrc
    subst ea2
    generalize ov.getD kk [] = ro_ at hrow hrl hrc hov hall
    have HROW2:=mk_ hrow
    have HRW2:=mk_ (And.intro hrl hrc)
    clear hrow hrl hrc
    have HOV:=mk_ (And.intro hov hall)
    have p4 : ((kk : Int) < (tk.length : Int)) = True:=eq_true (by have:=HLL.out.1;omega)
    have p5 : (kk < tk.length) = True:=eq_true (by have:=HLL.out.1;omega)
    clear hov hall
    obtain ⟨h0,h1,_⟩:=ebx3 HH.out
    have s0:=(ebx2 (blk_below HS5.out HVz.out)).1
    have g2:=(HVz.out.cell (p:=ar.add kk) (wl_ V (ar.add kk) HROW.out)).trans HROW.out
    have hc3 : (y1 = 15 ∧ laws_wnInts.f 4001 rw_ m = some true) ∨ (y1 ≠ 15 ∧ laws_wnHas.f 4001 m y1 = some true ∧ laws_wnInts.f 4001 rw_ [y1] = some true) ∨ (y1 ≠ 15 ∧ laws_wnHas.f 4001 m y1 = some false ∧ rw_ = []):=by
     rcases hcase with h|⟨h,h2|h2⟩
     ·exact Or.inl h
     ·exact Or.inr (Or.inl ⟨h,h2⟩)
     ·exact Or.inr (Or.inr ⟨h,h2⟩)
    clear hcase
    refine ev3 hc3 ?eA ?eB ?eC
    case' eA =>
     clear hc3
     intro hc_
     obtain ⟨h15,hj⟩:=hc_
     have r1 : (y1 = 15) = True:=eq_true h15
     have r2 : (y1 == 15) = true:=beq_iff_eq.mpr h15
     have r3 : (y1 != 15) = false:=bne_eq_false_iff_eq.mpr h15
     clear h15
     go_wp2_with fail
     refine (laws_wnInts.calls 4001 Ar cr rw_ F fc m true wa (cb_ HRW.out.2 HVz.out) HRW.out.1 HMA.out.2 HMA.out.1 hj).mono ?_
     rintro e wb ⟨rfl,hd⟩
     have HVb:=mk_ (st_ HVz.out hd.below)
     have HWb:=mk_ (st_ HWz.out hd.below)
     clear hd h0 h1 s0 g2 hj
     obtain ⟨h0,h1,_⟩:=ebx3 (blk_below HH.out HWb.out)
     go_wp2
     go_quiet (fail)
     have hcase_:=True.intro
     have HVx:=mk_ (bn_ HVb.out nq)
     have HWx:=mk_ (bn_ HWb.out nq)
     generalize wb.drewN nq = wx at HVx HWx ⊢
     clear HVb HWb h0 h1
     have h1:=(ebx3 (blk_below HH.out HWx.out)).2.1
     go_upto_region 18 with (fail)
     clear h1 r1 r2 r3 p4 p5
    case' eB =>
     clear hc3
     intro hc_
     obtain ⟨h15,hh,hj⟩:=hc_
     have r1 : (y1 = 15) = False:=eq_false h15
     have r2 : (y1 == 15) = false:=beq_eq_false_iff_ne.mpr h15
     have r3 : (y1 != 15) = true:=bne_iff_ne.mpr h15
     clear h15
     go_upto_region 14 with (fail)
     clear h0 h1 s0 g2
     have g0z:=(ebx3 (blk_below HH.out HWz.out)).2.1
     have g1z:=(ebx2 (blk_below HS5.out HVz.out)).1
     have g2z:=(HVz.out.cell (p:=ar.add kk) (wl_ V (ar.add kk) HROW.out)).trans HROW.out
     refine start_ (n:=22) (S:=fun w' => w'.cell? ⟨bh,1,none⟩ = some (.int .i64 y1) ∧ w'.cell? ⟨b5,0,none⟩ = some (.slice (some ar) tk.length t1) ∧ w'.cell? (ar.add kk) = some (.slice Ar rw_.length cr)) (ds:=[]) #[false,false,false,false,false,false,false,false,false,false,false,false,false,false,false,false,false,false,false,false,false,false] (by kernel_rfl) rfl rfl ⟨g0z,g1z,g2z⟩ (fun hHeld => ?_)
     refine pu_ (i:=0) (N:=some 95) 22 1 ?_
     refine ta3_ (i:=1) (N:=some 96) 22 3 hHeld ?_
     refine pu_ (i:=2) (N:=some 97) 22 7 ?_
     refine pu_ (i:=3) (N:=some 98) 22 15 ?_
     refine pu_ (i:=4) (N:=some 99) 22 31 ?_
     refine pu_ (i:=5) (N:=some 100) 22 63 ?_
     refine ta3_ (i:=6) (N:=some 101) 22 127 hHeld ?_
     refine on_ (i:=7) (N:=some 102) 22 255 (fun K hK => ?_)
     refine goes_ Tryd.func12 (by kernel_rfl) rfl #[.slice F m.length fc,.int .i64 y1] (by rfl) rfl rfl (by simp only [List.map_toArray,List.map_cons,List.map_nil];rfl) ?_
     with_reducible refine (laws_wnHas.calls 4001 F fc m y1 true _ (cd_ (cb_ HMA.out.2 HWz.out)) HMA.out.1 hh).mono ?_
     rintro e wb ⟨rfl,hd⟩
     refine ⟨_,rfl,?_⟩
     have hda:=st_ (below_drew (Below.refl wa.heap.size wa)) hd.below
     have HVb:=mk_ (st_ HVz.out hda)
     have HWb:=mk_ (st_ HWz.out hda)
     have g0b:=(ebx3 (blk_below HH.out HWb.out)).2.1
     have g1b:=(ebx2 (blk_below HS5.out HVb.out)).1
     have g2b:=(HVb.out.cell (p:=ar.add kk) (wl_ V (ar.add kk) HROW.out)).trans HROW.out
     clear hd hda
     refine hK.out _ _ ⟨g0b,g1b,g2b⟩ (fun hHeld => ?_)
     clear hK K
     refine norm_ (a':=?_) ?_ ?_
     rotate_left
     ·show Act.put _ (some 102) _ = _
      simp only [Act.put,sx_,sy_,sz_,i64_w,i32_w]
      rfl
     refine pu_ (i:=8) (N:=some 103) 22 511 ?_
     refine pu_ (i:=9) (N:=some 104) 22 1023 ?_
     refine pu_ (i:=10) (N:=some 105) 22 2047 ?_
     refine pu_ (i:=12) (N:=some 107) 22 6143 ?_
     refine pu_ (i:=15) (N:=some 110) 22 38911 ?_
     refine ta3_ (i:=11) (N:=some 106) 22 40959 hHeld ?_
     refine pu_ (i:=13) (N:=some 108) 22 49151 ?_
     refine ta3_ (i:=14) (N:=some 109) 22 65535 hHeld ?_
     refine ta3_ (i:=16) (N:=some 111) 22 131071 hHeld ?_
     refine on_ (i:=17) (N:=some 112) 22 262143 (fun K hK => ?_)
     refine value_ (w1:=?_) (v:=?_) (by rfl) rfl ?_ ?_
     rotate_left 2
     ·go_simp
      constructor
      ·rfl
      ·rfl
     have HLC:=mk_ (eC_one (W:=wb.alloc (.cells #[.int .i64 y1] 3)) (b:=wb.heap.size) (t:=3) y1 (blk_new wb (.cells #[.int .i64 y1] 3)))
     have HVc:=mk_ (st_ HVb.out (ba_ (Below.refl _ wb) (.cells #[.int .i64 y1] 3)))
     have HWc:=mk_ (st_ HWb.out (ba_ (Below.refl _ wb) (.cells #[.int .i64 y1] 3)))
     have g0c:=(ebx3 (blk_below HH.out HWc.out)).2.1
     have g1c:=(ebx2 (blk_below HS5.out HVc.out)).1
     have g2c:=(HVc.out.cell (p:=ar.add kk) (wl_ V (ar.add kk) HROW.out)).trans HROW.out
     have HJ : Aside0 (Calls Tryd.prog 11 #[.slice Ar rw_.length cr,.slice (some ⟨wb.heap.size,0,none⟩) 1 1] (wb.alloc (.cells #[.int .i64 y1] 3)) fun e w' => e = .returned (.bool true) ∧ Drawn0 (wb.alloc (.cells #[.int .i64 y1] 3)) w'):=⟨laws_wnInts.calls 4001 Ar cr rw_ (some ⟨wb.heap.size,0,none⟩) 1 [y1] true _ (cb_ HRW.out.2 HVc.out) HRW.out.1 HLC.out (Nat.le_refl _) hj⟩
     refine hK.out _ _ ⟨g0c,g1c,g2c⟩ (fun hHeld => ?_)
     clear hK K
     refine norm_ (a':=?_) ?_ ?_
     rotate_left
     ·show Act.put _ (some 112) _ = _
      simp only [Act.put,sx_,sy_,sz_,i64_w,i32_w]
      rfl
     refine on_ (i:=18) (N:=some 113) 22 524287 (fun K hK => ?_)
     refine goes_ Tryd.func11 (by kernel_rfl) rfl #[.slice Ar rw_.length cr,.slice (some ⟨wb.heap.size,0,none⟩) 1 1] (by rfl) rfl rfl (by simp only [List.map_toArray,List.map_cons,List.map_nil];rfl) ?_
     with_reducible refine (HJ.out).mono ?_
     rintro e wx ⟨rfl,hd⟩
     refine ⟨_,rfl,?_⟩
     have HVx:=mk_ (st_ HVc.out hd.below)
     have HWx:=mk_ (st_ HWc.out hd.below)
     have g0x:=(ebx3 (blk_below HH.out HWx.out)).2.1
     have g1x:=(ebx2 (blk_below HS5.out HVx.out)).1
     have g2x:=(HVx.out.cell (p:=ar.add kk) (wl_ V (ar.add kk) HROW.out)).trans HROW.out
     clear hd
     refine hK.out _ _ ⟨g0x,g1x,g2x⟩ (fun hHeld => ?_)
     clear hK K
     refine norm_ (a':=?_) ?_ ?_
     rotate_left
     ·show Act.put _ (some 113) _ = _
      simp only [Act.put,sx_,sy_,sz_,i64_w,i32_w]
      rfl
     refine pu_ (i:=19) (N:=some 114) 22 1048575 ?_
     refine pu_ (i:=20) (N:=some 115) 22 2097151 ?_
     refine pu_ (i:=21) (N:=some 94) 22 4194303 ?_
     refine done_ (by kernel_rfl) ?_
     have HW1:=mk_ (fun B d W h1 h2 => laws_wnHas.calls 4001 B d m y1 true W h1 h2 hh)
     clear g0z g1z g2z g0b g1b g2b g0c g1c g2c g0x g1x g2x HVb HWb HVc HWc HJ HLC hh hj
     obtain ⟨h0,h1,_⟩:=ebx3 (blk_below HH.out HWx.out)
     go_wp2_with fail
     refine (HW1.out _ _ wx (cb_ HMA.out.2 HWx.out) HMA.out.1).mono ?_
     rintro e wk ⟨rfl,hd⟩
     replace HVx:=mk_ (st_ HVx.out hd.below)
     replace HWx:=mk_ (st_ HWx.out hd.below)
     have hcase_:=True.intro
     clear hd h0 h1 HW1
     rename_i wx_ _
     generalize hwx : wk = wx at HVx HWx ⊢
     clear hwx
     go_upto_region 18 with (fail)
     clear r1 r2 r3 p4 p5
    case' eC =>
     clear hc3
     intro hc_
     obtain ⟨h15,hh,hro⟩:=hc_
     have r1 : (y1 = 15) = False:=eq_false h15
     have r2 : (y1 == 15) = false:=beq_eq_false_iff_ne.mpr h15
     have r3 : (y1 != 15) = true:=bne_iff_ne.mpr h15
     clear h15
     subst hro
     go_upto_region 14 with (fail)
     clear h0 h1 s0 g2
     have g0z:=(ebx3 (blk_below HH.out HWz.out)).2.1
     have g1z:=(ebx2 (blk_below HS5.out HVz.out)).1
     have g2z:=(HVz.out.cell (p:=ar.add kk) (wl_ V (ar.add kk) HROW.out)).trans HROW.out
     refine start_ (n:=22) (S:=fun w' => w'.cell? ⟨bh,1,none⟩ = some (.int .i64 y1)) (ds:=[]) #[false,false,false,false,false,false,false,false,false,false,false,false,false,false,false,false,false,false,false,false,false,false] (by kernel_rfl) rfl rfl (g0z) (fun hHeld => ?_)
     refine pu_ (i:=0) (N:=some 95) 22 1 ?_
     refine take_ (i:=1) (N:=some 96) (v:=?_) (a':=?_) #[true,true,false,false,false,false,false,false,false,false,false,false,false,false,false,false,false,false,false,false,false,false] rfl rfl (by kernel_rfl) (fun _ _ _ h => h) (Or.inl ⟨by rfl,?_⟩) hHeld ?_ ?_
     rotate_left
     ·intro w' s0
      go_simp
      with_reducible rfl
     rotate_left
     ·simp only [Act.put,sx_,sy_,sz_,i64_w,i32_w]
      rfl
     refine pu_ (i:=2) (N:=some 97) 22 7 ?_
     refine pu_ (i:=3) (N:=some 98) 22 15 ?_
     refine pu_ (i:=4) (N:=some 99) 22 31 ?_
     refine pu_ (i:=5) (N:=some 100) 22 63 ?_
     refine take_ (i:=6) (N:=some 101) (v:=?_) (a':=?_) #[true,true,true,true,true,true,true,false,false,false,false,false,false,false,false,false,false,false,false,false,false,false] rfl rfl (by kernel_rfl) (fun _ _ _ h => h) (Or.inl ⟨by rfl,?_⟩) hHeld ?_ ?_
     rotate_left
     ·intro w' s0
      go_simp
      with_reducible rfl
     rotate_left
     ·simp only [Act.put,sx_,sy_,sz_,i64_w,i32_w]
      rfl
     refine on_ (i:=7) (N:=some 102) 22 255 (fun K hK => ?_)
     refine goes_ Tryd.func12 (by kernel_rfl) rfl #[.slice F m.length fc,.int .i64 y1] (by rfl) rfl rfl (by simp only [List.map_toArray,List.map_cons,List.map_nil];rfl) ?_
     with_reducible refine (laws_wnHas.calls 4001 F fc m y1 false _ (cd_ (cb_ HMA.out.2 HWz.out)) HMA.out.1 hh).mono ?_
     rintro e wb ⟨rfl,hd⟩
     refine ⟨_,rfl,?_⟩
     have hda:=st_ (below_drew (Below.refl wa.heap.size wa)) hd.below
     have HVb:=mk_ (st_ HVz.out hda)
     have HWb:=mk_ (st_ HWz.out hda)
     have g0b:=(ebx3 (blk_below HH.out HWb.out)).2.1
     clear hd hda
     refine hK.out _ _ (g0b) (fun hHeld => ?_)
     clear hK K
     refine norm_ (a':=?_) ?_ ?_
     rotate_left
     ·show Act.put _ (some 102) _ = _
      simp only [Act.put,sx_,sy_,sz_,i64_w,i32_w]
      rfl
     refine pu_ (i:=8) (N:=some 103) 22 511 ?_
     refine pu_ (i:=9) (N:=some 104) 22 1023 ?_
     refine pz_ (i:=10) (N:=some 105) 22 2047 ?_
     refine pz_ (i:=11) (N:=some 106) 22 4095 ?_
     refine pz_ (i:=12) (N:=some 107) 22 8191 ?_
     refine pz_ (i:=13) (N:=some 108) 22 16383 ?_
     refine pz_ (i:=14) (N:=some 109) 22 32767 ?_
     refine pz_ (i:=15) (N:=some 110) 22 65535 ?_
     refine pz_ (i:=16) (N:=some 111) 22 131071 ?_
     refine pz_ (i:=17) (N:=some 112) 22 262143 ?_
     refine pz_ (i:=18) (N:=some 113) 22 524287 ?_
     refine pz_ (i:=19) (N:=some 114) 22 1048575 ?_
     refine pu_ (i:=20) (N:=some 115) 22 2097151 ?_
     refine pu_ (i:=21) (N:=some 94) 22 4194303 ?_
     refine done_ (by kernel_rfl) ?_
     have HW1:=mk_ (fun B d W h1 h2 => laws_wnHas.calls 4001 B d m y1 false W h1 h2 hh)
     clear g0z g1z g2z g0b hh
     obtain ⟨h0,h1,_⟩:=ebx3 (blk_below HH.out HWb.out)
     go_wp2_with fail
     refine (HW1.out _ _ wb (cb_ HMA.out.2 HWb.out) HMA.out.1).mono ?_
     rintro e wx ⟨rfl,hd⟩
     have HVx:=mk_ (st_ HVb.out hd.below)
     have HWx:=mk_ (st_ HWb.out hd.below)
     have hcase_:=True.intro
     clear hd h0 h1 HW1 HVb HWb
     have s0:=(ebx2 (blk_below HS5.out HVx.out)).1
     have g2:=(HVx.out.cell (p:=ar.add kk) (wl_ V (ar.add kk) HROW.out)).trans HROW.out
     go_upto_region 18 with (fail)
     clear r1 r2 r3 p4 p5 s0 g2
    all_goals
     clear hcase_
     have s1:=(ebx2 (blk_below HS5.out HVx.out)).2
     have s2:=(HVx.out.cell (p:=ao.add kk) (wl_ V (ao.add kk) HROW2.out)).trans HROW2.out
     have p6 : ((kk : Int) < (ov.length : Int)) = True:=eq_true (by have:=HLL.out.2;omega)
     have p7 : (kk < ov.length) = True:=eq_true (by have:=HLL.out.2;omega)
     go_wp2_with fail
     clear s1 s2 p6 p7
     go_loopg [14,142] ro_.length (fun gg _ sx_ wr => ∃ (jj : Nat),jj ≤ ro_.length ∧ ro_.length - jj ≤ gg ∧ sx_ = .int .i64 (jj : Int) ∧ Aside0 (Below wx.heap.size wx wr))
     case atStart => exact ⟨0,Nat.zero_le _,by omega,rfl,⟨Below.refl _ _⟩⟩
     case round =>
      obtain ⟨jj,hjj,hgg2,rfl,HC⟩:=hrel
      have HV:=mk_ (st_ HVx.out HC.out)
      have hyl:=HOV.out.1
      by_cases hlt2 : jj < ro_.length
      ·obtain ⟨ad2,ea3,hcell⟩:=Kd.at_int (cb_ HRW2.out.2 HV.out) (jj : Int) (by omega) (by omega)
       rw [rd_get ro_ jj hlt2,Int.toNat_natCast] at hcell
       have hwn:=HOV.out.2 ro_[jj] (List.getElem_mem hlt2)
       generalize ro_[jj] = z0 at hcell hwn
       have HW1:=mk_ (fun B d W h1 h2 => laws_wnHas.calls 4001 B d fl z0 true W h1 h2 hwn)
       have q1 : ((jj : Int) < (ro_.length : Int)) = True:=eq_true (by omega)
       have q2 : (jj < ro_.length) = True:=eq_true hlt2
       obtain ⟨n0,n1,n2,n3⟩:=ebx4 (blk_below HN.out HV.out)
       obtain ⟨h0,h1,_⟩:=ebx3 (blk_below HH.out (st_ HWx.out HC.out))
       subst ea3
       clear hwn
       go_wp2_with fail
       refine (HFL.out _ (st_ HB.out HV.out)).mono ?_
       rintro e wf ⟨vf,rfl,hf,hbf⟩
       obtain ⟨G,gc,rfl⟩:=Kd.R_slice hf
       have HG:=mk_ (rr_ hf).2
       have HC1:=mk_ (st_ HC.out hbf)
       clear hf hbf n0 n1 n2 n3 h0 h1 hcell
       go_wp2_with fail
       refine (HW1.out _ _ wf HG.out.2 HG.out.1).mono ?_
       rintro e wg ⟨rfl,hb_⟩
       have HC2:=mk_ (st_ HC1.out hb_.below)
       clear hb_
       go_wp2
       go_roundg (ro_.length - (jj + 1))
       case measure => omega
       case rel => exact ⟨jj + 1,by omega,by omega,by first|rfl|simp [wrap_eq (x:=(jj : Int) + 1) (by omega) (by omega)]|(rw [wrap_eq (by omega) (by omega)];rfl),HC2⟩
      ·have hjl : jj = ro_.length:=by omega
       subst hjl
       have q1 : ((ro_.length : Int) < (ro_.length : Int)) = False:=eq_false (by omega)
       go_wp2
       go_roundg (l1.length - (kk + 1))
       case measure => omega
       case rel => exact ⟨kk + 1,by omega,by omega,by first|rfl|simp [wrap_eq (x:=(kk : Int) + 1) (by omega) (by omega)]|(rw [wrap_eq (by omega) (by omega)];rfl),HV⟩
   ·have hkl : kk = l1.length:=by omega
    subst hkl
    have p2 : ((l1.length : Int) < (l1.length : Int)) = False:=eq_false (by omega)
    have s0:=(ebx2 (blk_below HS5.out HV.out)).1
    have hq:=HLL.out.1
    have hq2 : ((tk.length : Int) == (l1.length : Int)) = true:=by rw [hq];simp
    clear hq
    go_wp2
    go_ret
    exact ⟨by first|rfl|simp [hq2]|(rw [hq2]),st_ HB.out HV.out⟩

/-- The pure statement of laws_FnEveryNet. -/
def laws_FnEveryNet.Pure : Prop:=∀ (a0_0 : Int) (l0_1 : List (S71)) (l0_2 : List Int) (l0_3 : List Int) (l1 : List (S36)),(Lit.int .i64 a0_0).wf = true → (l0_1.length ≤ maxLen ∧ ∀ y0 ∈ l0_1,((Lit.int .i64 y0.f0).wf = true ∧ ((Lit.int .i64 y0.f1).wf = true ∧ (Lit.int .i64 y0.f2).wf = true))) → (l0_2.length ≤ maxLen ∧ ∀ y0 ∈ l0_2,(Lit.int .i64 y0).wf = true) → (l0_3.length ≤ maxLen ∧ ∀ y0 ∈ l0_3,(Lit.int .i64 y0).wf = true) → (l1.length ≤ maxLen ∧ ∀ y0 ∈ l1,((Lit.int .i64 y0.f0).wf = true ∧ ((Lit.int .i64 y0.f1).wf = true ∧ (Lit.int .i64 y0.f2).wf = true))) → ∃ k,laws_FnEveryNet.f k a0_0 l0_1 l0_2 l0_3 l1 = some true
theorem laws_FnEveryNet.walk (P : laws_FnEveryNet.Pure) (a0_0 : Int) (A0_1 : Option Addr) (c0_1 : Nat) (l0_1 : List (S71)) (A0_2 : Option Addr) (c0_2 : Nat) (l0_2 : List Int) (A0_3 : Option Addr) (c0_3 : Nat) (l0_3 : List Int) (A1 : Option Addr) (c1 : Nat) (l1 : List (S36)) (w : World) (w0_0 : (Lit.int .i64 a0_0).wf = true) (hr0_1 : Kd.C k71 w A0_1 l0_1.length l0_1) (hc0_1 : l0_1.length ≤ c0_1) (hm0_1 : (l0_1.length ≤ maxLen ∧ ∀ y0 ∈ l0_1,((Lit.int .i64 y0.f0).wf = true ∧ ((Lit.int .i64 y0.f1).wf = true ∧ (Lit.int .i64 y0.f2).wf = true)))) (hr0_2 : Kd.C (Kd.int .i64) w A0_2 l0_2.length l0_2) (hc0_2 : l0_2.length ≤ c0_2) (hm0_2 : (l0_2.length ≤ maxLen ∧ ∀ y0 ∈ l0_2,(Lit.int .i64 y0).wf = true)) (hr0_3 : Kd.C (Kd.int .i64) w A0_3 l0_3.length l0_3) (hc0_3 : l0_3.length ≤ c0_3) (hm0_3 : (l0_3.length ≤ maxLen ∧ ∀ y0 ∈ l0_3,(Lit.int .i64 y0).wf = true)) (hr1 : Kd.C k36 w A1 l1.length l1) (hc1 : l1.length ≤ c1) (hm1 : (l1.length ≤ maxLen ∧ ∀ y0 ∈ l1,((Lit.int .i64 y0.f0).wf = true ∧ ((Lit.int .i64 y0.f1).wf = true ∧ (Lit.int .i64 y0.f2).wf = true)))) :
  Calls Tryd.prog 3 #[.agg #[.int .i64 a0_0,.slice A0_1 l0_1.length c0_1,.slice A0_2 l0_2.length c0_2,.slice A0_3 l0_3.length c0_3],.slice A1 l1.length c1] w fun e w' => e = .returned (.bool true) ∧ Below w.heap.size w w':=by
 obtain ⟨k,h⟩:=P a0_0 l0_1 l0_2 l0_3 l1 w0_0 hm0_1 hm0_2 hm0_3 hm1
 refine (laws_FnEveryNet.calls k a0_0 _ _ l0_1 _ _ l0_2 _ _ l0_3 _ _ l1 true _ hr0_1 hc0_1 hr0_2 hc0_2 hr0_3 hc0_3 hr1 hc1 h).mono ?_
 rintro e w' ⟨rfl,hd⟩
 exact ⟨rfl,hd⟩

end Go.Proofs.YtblcnbnphjnhdaaDoor.PAll
