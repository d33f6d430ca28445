/- Proved here: contracts of functions of the given program, or lemmas on them, for the laws of this seat. Written by xprint.py, a program of this session, on the ground of the kit's print; parts by hand: wip/x/ext. -/
import Derived.Test.YtblcnbnphjnhdaaPAllx0
import Derived.Test.YtblcnbnphjnhdaaPAllx1
import Derived.Test.YtblcnbnphjnhdaaPAllx4
import Derived.Test.YtblcnbnphjnhdaaPAllx5
import Derived.Test.YtblcnbnphjnhdaaPAllx6
import Derived.Test.YtblcnbnphjnhdaaPAllx7
import Derived.Test.YtblcnbnphjnhdaaPAllx8
import Derived.Test.YtblcnbnphjnhdaaPAllx9
import Derived.Test.YtblcnbnphjnhdaaPAllx10
namespace Go.Proofs.Ytblcnbnphjnhdaa.PAll
open Go.RowKit Go.Proofs.YtblcnbnphjnhdaaW.PrintWords Go.Proofs.YtblcnbnphjnhdaaW.PrintLast Go.Proofs.YtblcnbnphjnhdaaW.PrintMore
attribute [local go_sem] max2_int min2_int max_two min_two max_three min_three max_four min_four   -- for this text's walks alone
set_option linter.unusedVariables false
set_option linter.unusedSimpArgs false

-- LIB netfin
theorem asc_uniq : ∀ {a b : List Int},a.Pairwise (· < ·) → b.Pairwise (· < ·) → (∀ x,x ∈ a ↔ x ∈ b) → a = b
 | [],[],_,_,_ => rfl
 | [],y :: b,_,_,h => absurd ((h y).2 List.mem_cons_self) (by simp)
 | x :: a,[],_,_,h => absurd ((h x).1 List.mem_cons_self) (by simp)
 | x :: a,y :: b,ha,hb,h => by
  rw [List.pairwise_cons] at ha hb
  have hx:=(h x).1 List.mem_cons_self
  have hy:=(h y).2 List.mem_cons_self
  rw [List.mem_cons] at hx hy
  obtain rfl : x = y:=by
   rcases hx with e | hx
   ·exact e
   ·rcases hy with e | hy
    ·exact e.symm
    ·have h1:=ha.1 y hy
     have h2:=hb.1 x hx
     omega
  congr 1
  refine asc_uniq ha.2 hb.2 (fun z => ⟨fun hz => ?_,fun hz => ?_⟩)
  ·rcases List.mem_cons.1 ((h z).1 (List.mem_cons_of_mem _ hz)) with e | e
   ·have:=ha.1 z hz;omega
   ·exact e
  ·rcases List.mem_cons.1 ((h z).2 (List.mem_cons_of_mem _ hz)) with e | e
   ·have:=hb.1 z hz;omega
   ·exact e
theorem compact_upto (d : Array Int) (hs : ∀ i j,i ≤ j → j < d.size → d[i]! ≤ d[j]!) (m : Nat) : m ≤ d.size → (Lib.compactUpTo d m).Pairwise (· < ·) ∧ ∀ x,x ∈ Lib.compactUpTo d m ↔ ∃ j,j < m ∧ d[j]! = x:=by
 induction m with
 | zero => exact fun _ => ⟨List.Pairwise.nil,fun x => ⟨fun h => absurd h (by simp [Lib.compactUpTo]),fun ⟨j,hj,_⟩ => by omega⟩⟩
 | succ m ih =>
  intro hm
  obtain ⟨h1,h2⟩:=ih (by omega)
  rw [Lib.compactUpTo_succ]
  by_cases hk : m = 0 ∨ d[m]! ≠ d[m - 1]!
  ·have hk2 : Lib.keeps d m = true:=by unfold Lib.keeps;exact decide_eq_true hk
   rw [hk2,if_pos rfl]
   refine ⟨List.pairwise_append.2 ⟨h1,List.pairwise_singleton _ _,fun a ha b hb => ?_⟩,fun x => ?_⟩
   ·obtain rfl:=List.mem_singleton.1 hb
    obtain ⟨j,hj,rfl⟩:=(h2 a).1 ha
    have a1:=hs j (m - 1) (by omega) (by omega)
    have a2:=hs (m - 1) m (by omega) (by omega)
    have a3:=hk.resolve_left (by omega)
    omega
   ·rw [List.mem_append,List.mem_singleton,h2]
    exact ⟨fun h => h.elim (fun ⟨j,hj,e⟩ => ⟨j,by omega,e⟩) (fun e => ⟨m,by omega,e.symm⟩),fun ⟨j,hj,e⟩ => by
     by_cases e2 : j = m
     ·subst e2;exact Or.inr e.symm
     ·exact Or.inl ⟨j,by omega,e⟩⟩
  ·have hk2 : Lib.keeps d m = false:=by unfold Lib.keeps;exact decide_eq_false hk
   rw [hk2,if_neg (by decide),List.append_nil]
   refine ⟨h1,fun x => (h2 x).trans ⟨fun ⟨j,hj,e⟩ => ⟨j,by omega,e⟩,fun ⟨j,hj,e⟩ => ?_⟩⟩
   by_cases e2 : j = m
   ·subst e2
    refine ⟨j - 1,by omega,?_⟩
    have : d[j]! = d[j - 1]!:=Classical.not_not.1 (fun h => hk (Or.inr h))
    rw [← this];exact e
   ·exact ⟨j,by omega,e⟩
theorem once_asc (l : List Int) : (onceL l).Pairwise (· < ·) ∧ ∀ x,x ∈ onceL l ↔ x ∈ l:=by
 have hp : (l.mergeSort fun x y => decide (x ≤ y)).Perm l:=List.mergeSort_perm _ _
 have ho : (l.mergeSort fun x y => decide (x ≤ y)).Pairwise (fun x y => decide (x ≤ y) = true):=List.pairwise_mergeSort (fun a b c h1 h2 => by simp only [decide_eq_true_eq] at *;omega) (fun a b => by simp only [Bool.or_eq_true,decide_eq_true_eq];omega) l
 unfold onceL Lib.compact
 revert hp ho
 generalize (l.mergeSort fun x y => decide (x ≤ y)) = s
 intro hp ho
 rw [List.pairwise_iff_getElem] at ho
 have hg : ∀ i,(h : i < s.length) → s.toArray[i]! = s[i]:=fun i h => by simp [h]
 obtain ⟨h1,h2⟩:=compact_upto s.toArray (fun i j hij hj => by
  have hj2 : j < s.length:=by simpa using hj
  rw [hg i (by omega),hg j hj2]
  rcases Nat.lt_or_ge i j with h | h
  ·exact of_decide_eq_true (ho i j (by omega) hj2 h)
  ·obtain rfl : i = j:=by omega
   exact Int.le_refl _) s.length (by simp)
 refine ⟨h1,fun x => (h2 x).trans ?_⟩
 rw [← hp.mem_iff,List.mem_iff_getElem]
 exact ⟨fun ⟨j,hj,e⟩ => ⟨j,hj,by rw [← hg j hj];exact e⟩,fun ⟨j,hj,e⟩ => ⟨j,hj,by rw [hg j hj];exact e⟩⟩
theorem rep_false (n i : Nat) : (List.replicate n false).getD i false = false:=by
 rw [List.getD_eq_getElem?_getD,List.getElem?_replicate]
 split <;> rfl
theorem lst_once {m : List Bool} {n : Nat} {l : List Int} (h : MkOf m n l) (hl : ∀ x ∈ l,0 ≤ x ∧ x < n) : lstS m = onceL l:=by
 obtain ⟨h1,h2⟩:=once_asc l
 unfold lstS
 refine asc_uniq (filM_asc _ _ _) h1 (fun x => (filM_mem0 _ _ _).trans (Iff.trans ?_ (h2 x).symm))
 rw [h.1]
 constructor
 ·rintro ⟨a1,a2,a3⟩
  obtain ⟨i,rfl⟩:=Int.eq_ofNat_of_zero_le a1
  exact (h.2 i (by omega)).1 a3
 ·intro hx
  obtain ⟨a1,a2⟩:=hl x hx
  obtain ⟨i,rfl⟩:=Int.eq_ofNat_of_zero_le a1
  exact ⟨a1,a2,(h.2 i (by omega)).2 hx⟩
def LrnOK (N : Nat) (cs : List S83) (hs vs : List Int) (h : S37) (T : TabN) : Prop :=
 ∀ F : Nat,h.f0 = (F : Int) → ∀ c,c < N → gD (rootsL N cs) c = gD (rootsL N cs) (hmN hs F) →
  (h.f1 = 15 ∨ ∃ R : Nat,h.f1 = (R : Int) ∧ R < hs.length ∧ rd vs R = rd vs F ∧ gD (rootsL N cs) (hmN hs R) = gD (rootsL N cs) (hmN hs F) ∧ OnP N cs (hmN hs F) c (hmN hs R)) → T c (rd vs F) F ≠ none
structure FrameOK (N : Nat) (cs : List S83) (hs vs : List Int) (h : S37) (F : Nat) (T : TabN) (ts os : List Int) : Prop where
 tka : ts.Pairwise (· < ·)
 ova : os.Pairwise (· < ·)
 tk : ∀ s,s ∈ ts ↔ ∃ S : Nat,s = (S : Int) ∧ S < hs.length ∧ S ≠ F ∧ (h.f1 = S ∨ h.f1 = 15) ∧ rd vs S = rd vs F ∧ gD (rootsL N cs) (hmN hs S) = gD (rootsL N cs) (hmN hs F)
 ov : ∀ j ∈ os,∃ e o,TJ N cs j e o ∧ gD (rootsL N cs) e = gD (rootsL N cs) (hmN hs F)
 all : h.f1 = 15 → ∀ j t,t < N → gD (rootsL N cs) t = gD (rootsL N cs) (hmN hs F) → Sep N cs j (hmN hs F) t → j ∈ os
 way : ∀ R : Nat,h.f1 = (R : Int) → R < hs.length → rd vs R = rd vs F → gD (rootsL N cs) (hmN hs R) = gD (rootsL N cs) (hmN hs F) → ∀ j,Sep N cs j (hmN hs F) (hmN hs R) → j ∈ os
 slim : ∀ R : Nat,h.f1 = (R : Int) → R < hs.length → R ≠ F → rd vs R = rd vs F → gD (rootsL N cs) (hmN hs R) = gD (rootsL N cs) (hmN hs F) → (∀ c,c < N → gD (rootsL N cs) c = gD (rootsL N cs) (hmN hs F) → OnP N cs (hmN hs F) c (hmN hs R) → T c (rd vs F) R ≠ none) → ∀ j ∈ os,Sep N cs j (hmN hs F) (hmN hs R)
theorem mu_max {N : Nat} {cs : List S83} (hv : cabsB (N : Int) cs = true) {b : Nat} (hb : b < N) (y : Int) : muN N cs b y ≤ 20:=by
 have:=wL_len hv hb
 unfold muN
 split <;> omega
theorem frames_ok (N : Nat) (cs : List S83) (hs vs : List Int) (hn : netB (N : Int) cs hs vs = true) (l : List S37) :
  ∀ (K : List S37) (T : TabN) (n : Nat) (tabs : List Int),l.all (hopB (N : Int) cs hs vs) = true → InvT N cs hs vs T → n + 400000000 * l.length + 400000000 < 1000000000000 → tabs.length = N * 150 →
   (∀ b v s : Nat,b < N → v ≤ 9 → s < 15 → rd tabs (atS b v s) = encO (T b v s)) → (∀ g ∈ K,LrnOK N cs hs vs g T) →
  ∃ fin,framesN cs (treeX (N : Int) cs) hs vs l T n = some fin ∧ framesS cs (treeX (N : Int) cs) hs vs l tabs = some fin ∧ fin.1.length = l.length ∧ fin.2.length = l.length ∧
   ∀ i (hi : i < l.length),∃ (F : Nat) (T' : TabN),l[i].f0 = (F : Int) ∧ F < hs.length ∧ FrameOK N cs hs vs l[i] F T' (fin.1.getD i []) (fin.2.getD i []) ∧ ∀ g ∈ K ++ l.take i,LrnOK N cs hs vs g T':=by
 induction l with
 | nil => exact fun K T n tabs _ _ _ _ _ _ => ⟨([],[]),rfl,rfl,rfl,rfl,fun i hi => absurd hi (by simp)⟩
 | cons h l ih =>
  intro K T n tabs hall hI hsz htl htb hK
  have hv:=(netB_facts hn).1
  rw [List.all_cons,Bool.and_eq_true] at hall
  obtain ⟨hh,hall⟩:=hall
  rw [List.length_cons] at hsz
  unfold hopB stB at hh
  rw [Bool.and_eq_true,Bool.or_eq_true,decide_eq_true_eq,decide_eq_true_eq,beq_iff_eq] at hh
  obtain ⟨⟨_,p0,p1⟩,hr⟩:=hh
  obtain ⟨F,hF⟩:=Int.eq_ofNat_of_zero_le p0
  have hFl : F < hs.length:=by omega
  have nv : NV N cs hs vs F (rd vs F) h.f1:=⟨hn,hFl,rfl,hr.imp (fun h => h.2) id⟩
  obtain ⟨hb1,hb⟩:=nv.home hFl
  have hat : AtB N cs (hmN hs F) (hmN hs F) (-1):=⟨rfl,Or.inl ⟨rfl,rfl⟩⟩
  have hwt:=wt_max hv hb (-1)
  have hnosep : ∀ t,t < N → ¬ Sep N cs (-1) (hmN hs F) t:=fun t ht => sep_neg (-1) (by decide) hv hb ht
  obtain ⟨st,e1,hB,hlen,hself,hC,hNa⟩:=come_ok nv 20 (hmN hs F) (-1) ⟨T,[],[],n⟩ hb hI hat (mu_max hv hb _) (by unfold szN;simp;omega)
  have hSim : Sim N cs hs ⟨T,[],[],n⟩ ⟨tabs,List.replicate hs.length false,List.replicate cs.length false⟩ :=
   ⟨htl,htb,⟨List.length_replicate,fun i hi => by rw [rdB_nat,rep_false];simp⟩,⟨List.length_replicate,fun i hi => by rw [rdB_nat,rep_false];simp⟩⟩
  obtain ⟨ss,e2,hS2,hI2⟩:=sim_come nv 20 (hmN hs F) (-1) ⟨T,[],[],n⟩ st _ hb hI hat e1 hSim
  have hlo:=hB.lo
  have hlt:=hB.lt
  have hln:=hB.ln
  simp only [List.length_nil,Nat.zero_add] at hlo hlt hln
  have hLrn : LrnOK N cs hs vs h st.T:=by
   intro F' hF' c hc hrt hcase
   obtain rfl : F' = F:=by omega
   by_cases e : c = hmN hs F'
   ·subst e;exact hself
   ·rcases hcase with h15 | ⟨R,hR,hRl,hRv,hRr,hP⟩
    ·exact (hC c hc hrt (hnosep c hc) (Or.inl h15)).2.2 c hc hrt e (fun j hj => sep_self _ _ hj.2)
    ·exact (hC (hmN hs R) (nv.home hRl).2 hRr (hnosep _ (nv.home hRl).2) (Or.inr ⟨R,hR,hRl,hRv,rfl⟩)).2.2 c hc hrt e hP
  have hmono : ∀ g,LrnOK N cs hs vs g T → LrnOK N cs hs vs g st.T:=fun g hg F' hF' c hc hrt hcase => hB.old _ _ _ (hg F' hF' c hc hrt hcase)
  obtain ⟨fin,q1,q2,q3,q4,q5⟩:=ih (K ++ [h]) st.T st.n ss.tabs hall hB.inv (by omega) hS2.tl hS2.tb (fun g hg => by
   rcases List.mem_append.1 hg with hg | hg
   ·exact hmono g (hK g hg)
   ·obtain rfl:=List.mem_singleton.1 hg
    exact hLrn)
  have htk : ∀ s ∈ st.took,∃ S : Nat,s = (S : Int) ∧ S < hs.length ∧ S ≠ F ∧ (h.f1 = S ∨ h.f1 = 15) ∧ rd vs S = rd vs F ∧ gD (rootsL N cs) (hmN hs S) = gD (rootsL N cs) (hmN hs F):=fun s hs' => (hB.tk1 s hs').resolve_left (by simp)
  have hov : ∀ j ∈ st.over,∃ e o,TJ N cs j e o ∧ gD (rootsL N cs) e = gD (rootsL N cs) (hmN hs F):=fun j hj => (hB.ov1 j hj).resolve_left (by simp)
  have ho1 : lstS ss.took = onceL st.took:=lst_once hS2.tk (fun x hx => by obtain ⟨S,rfl,h1,_⟩:=htk x hx;omega)
  have ho2 : lstS ss.over = onceL st.over:=lst_once hS2.ov (fun x hx => by obtain ⟨e,o,h1,_⟩:=hov x hx;exact tj_pos h1)
  obtain ⟨u1,u2⟩:=once_asc st.took
  obtain ⟨u3,u4⟩:=once_asc st.over
  refine ⟨(onceL st.took :: fin.1,onceL st.over :: fin.2),?_,?_,by simp [q3],by simp [q4],?_⟩
  ·unfold framesN
   rw [hF,hb1,e1,Option.bind_some,if_pos ⟨by omega,by omega⟩,q1]
   rfl
  ·unfold framesS
   rw [hF,hb1,show (-2 : Int) = encY (-1) from rfl,e2,Option.bind_some,q2,ho1,ho2]
   rfl
  ·intro i hi
   cases i with
   | zero =>
    refine ⟨F,T,hF,hFl,?_,fun g hg => hK g (by simpa using hg)⟩
    simp only [List.getD_cons_zero,List.getElem_cons_zero]
    refine ⟨u1,u3,fun s => (u2 s).trans ⟨htk s,?_⟩,fun j hj => hov j ((u4 j).1 hj),fun h15 j t ht hrt hsep => (u4 j).2 ((hC t ht hrt (hnosep t ht) (Or.inl h15)).2.1 j hsep),fun R hR hRl hRv hRr j hsep => (u4 j).2 ((hC (hmN hs R) (nv.home hRl).2 hRr (hnosep _ (nv.home hRl).2) (Or.inr ⟨R,hR,hRl,hRv,rfl⟩)).2.1 j hsep),fun R hR hRl hne hRv hRr hkn j hj => ?_⟩
    ·rintro ⟨S,rfl,hSl,hne,hc,hSv,hSr⟩
     refine (hC (hmN hs S) (nv.home hSl).2 hSr (hnosep _ (nv.home hSl).2) ?_).1 S hSl rfl hSv hne hc
     rcases hc with hc | hc
     ·exact Or.inr ⟨S,hc,hSl,hSv,rfl⟩
     ·exact Or.inl hc
    ·exact (hNa R hR hRl hne hRv hRr (hnosep _ (nv.home hRl).2) hkn j ((u4 j).1 hj)).resolve_left (by simp)
   | succ i =>
    obtain ⟨F',T',r1,r2,r3,r4⟩:=q5 i (by simpa using hi)
    refine ⟨F',T',r1,r2,?_,fun g hg => r4 g ?_⟩
    ·simpa using r3
    ·rw [List.take_succ_cons] at hg
     simpa [List.append_assoc] using hg
theorem frames_start (N : Nat) (cs : List S83) (hs vs : List Int) (l : List S37) (h : runB (N : Int) cs hs vs l = true) :
  ∃ fin,framesN cs (treeX (N : Int) cs) hs vs l (fun _ _ _ => none) 0 = some fin ∧ framesS cs (treeX (N : Int) cs) hs vs l (List.replicate ((N : Int) * 150).toNat (-1)) = some fin ∧ fin.1.length = l.length ∧ fin.2.length = l.length ∧
   ∀ i (hi : i < l.length),∃ (F : Nat) (T' : TabN),l[i].f0 = (F : Int) ∧ F < hs.length ∧ FrameOK N cs hs vs l[i] F T' (fin.1.getD i []) (fin.2.getD i []) ∧ ∀ g ∈ l.take i,LrnOK N cs hs vs g T':=by
 unfold runB at h
 rw [Bool.and_eq_true,Bool.and_eq_true,decide_eq_true_eq] at h
 obtain ⟨h1,h2,h3⟩:=h
 have hc:=netB_more h1
 exact frames_ok N cs hs vs h1 l [] (fun _ _ _ => none) 0 _ h3 (fun _ _ _ _ h => by cases h) (by omega) (by rw [List.length_replicate];omega) (fun b v s hb hv hs' => by
  have : ((atS b v s).toNat : Int) = atS b v s ∧ (atS b v s).toNat < N * 150:=by unfold atS;omega
  rw [← this.1,rd_get _ _ (by rw [List.length_replicate];omega),List.getElem_replicate];rfl) (fun g hg => by cases hg)

-- LIB p19mi
def mateB (n : Int) (cs : List S83) (hs vs : List Int) (s o : Int) : Bool:=decide (o ≠ s) && (decide (rd vs o = rd vs s) && decide (rd (rootsL n.toNat cs) (rd hs o) = rd (rootsL n.toNat cs) (rd hs s)))
def matesX (n : Int) (cs : List S83) (hs vs : List Int) (s : Int) : List Int:=if netB n cs hs vs = true ∧ 0 ≤ s ∧ s < hs.length then filM (mateB n cs hs vs s) hs.length 0 else []

-- LIB netmeet
theorem le_asc {l : List Int} (h1 : l.Pairwise (· ≤ ·)) (h2 : l.Nodup) : l.Pairwise (· < ·):=by
 rw [List.pairwise_iff_getElem] at h1 ⊢
 intro i j hi hj hij
 have a:=h1 i j hi hj hij
 have b : l[i] ≠ l[j]:=(List.pairwise_iff_getElem.1 h2) i j hi hj hij
 omega
theorem tree_asc {N : Nat} {cs : List S83} (hv : cabsB (N : Int) cs = true) : (treeX (N : Int) cs).Pairwise (· < ·):=by
 have h:=tree_nodup hv
 unfold treeX at h ⊢
 rw [if_pos hv,Int.toNat_natCast] at h ⊢
 exact le_asc (tI_sorted _ _ _ _) h
section
variable {N : Nat} {cs : List S83} {hs vs : List Int} {F : Nat}
theorem hm_rd (hn : netB (N : Int) cs hs vs = true) {S : Nat} (hS : S < hs.length) : rd hs S = (hmN hs S : Int) ∧ hmN hs S < N:=by
 have:=(netB_more hn).2.2.2.1 S hS
 unfold hmN
 exact ⟨by omega,by omega⟩
theorem mates_mem (hn : netB (N : Int) cs hs vs = true) (hF : F < hs.length) (o : Int) : o ∈ matesX (N : Int) cs hs vs F ↔ ∃ S : Nat,o = (S : Int) ∧ S < hs.length ∧ S ≠ F ∧ rd vs S = rd vs F ∧ gD (rootsL N cs) (hmN hs S) = gD (rootsL N cs) (hmN hs F):=by
 unfold matesX
 rw [if_pos ⟨hn,by omega,by omega⟩,filM_mem0]
 unfold mateB
 simp only [Bool.and_eq_true,decide_eq_true_eq,Int.toNat_natCast]
 constructor
 ·rintro ⟨h0,h1,h2,h3,h4⟩
  obtain ⟨S,rfl⟩:=Int.eq_ofNat_of_zero_le h0
  rw [(hm_rd hn (show S < hs.length by omega)).1,(hm_rd hn hF).1,rd_gD,rd_gD] at h4
  exact ⟨S,rfl,by omega,by omega,h3,h4⟩
 ·rintro ⟨S,rfl,h1,h2,h3,h4⟩
  refine ⟨by omega,by omega,by omega,h3,?_⟩
  rw [(hm_rd hn h1).1,(hm_rd hn hF).1,rd_gD,rd_gD]
  exact h4
theorem flood_mem (hn : netB (N : Int) cs hs vs = true) (hF : F < hs.length) (j : Int) : j ∈ floodX (N : Int) cs hs vs F ↔ ∃ e o,TJ N cs j e o ∧ gD (rootsL N cs) e = gD (rootsL N cs) (hmN hs F):=by
 have hv:=(netB_facts hn).1
 obtain ⟨f1,f2,f3,f4⟩:=cabsB_facts hv
 unfold floodX
 rw [if_pos ⟨hn,by omega,by omega⟩,List.mem_filter]
 unfold floodB
 rw [decide_eq_true_eq,Int.toNat_natCast,(hm_rd hn hF).1,rd_gD]
 constructor
 ·rintro ⟨h1,h2⟩
  obtain ⟨h3,h4⟩:=treeX_in h1
  obtain ⟨K,rfl⟩:=Int.eq_ofNat_of_zero_le h3
  have hK : K < cs.length:=by omega
  have hc:=f4 _ (List.getElem_mem hK)
  rw [← rdCab_get cs K hK] at hc
  obtain ⟨b,hb⟩:=Int.eq_ofNat_of_zero_le hc.1
  rw [hb,rd_gD] at h2
  rcases oth_tj hv h1 b with ⟨o,h5,h6⟩ | ⟨h5,_⟩
  ·exact ⟨b,o,h6,h2⟩
  ·unfold othX at h5
   rw [if_pos hb.symm] at h5
   cases h5
 ·rintro ⟨e,o,h1,h2⟩
  refine ⟨tj_tree hv h1,?_⟩
  rcases oth_ends (tj_oth hv h1) with ⟨h3,h4⟩ | ⟨h3,h4⟩
  ·rw [← h3,rd_gD];exact h2
  ·rw [← h4,rd_gD,← h1.root hv];exact h2
theorem flood_asc (hn : netB (N : Int) cs hs vs = true) : (floodX (N : Int) cs hs vs F).Pairwise (· < ·):=by
 unfold floodX
 split
 ·exact (tree_asc (netB_facts hn).1).filter _
 ·exact List.Pairwise.nil
theorem way_sep {a b : Nat} {j : Int} : wayB N cs a b j = true ↔ Sep N cs j a b:=by
 unfold wayB Sep
 rw [← hasL_iff,← hasL_iff]
 cases hasL (upsL N cs a) j <;> cases hasL (upsL N cs b) j <;> decide
theorem way_mem (hn : netB (N : Int) cs hs vs = true) (hF : F < hs.length) {R : Nat} (hR : R < hs.length) (hr : gD (rootsL N cs) (hmN hs R) = gD (rootsL N cs) (hmN hs F)) (j : Int) : j ∈ wayX (N : Int) cs hs vs F R ↔ 0 ≤ j ∧ j < cs.length ∧ Sep N cs j (hmN hs F) (hmN hs R):=by
 unfold wayX
 have e1:=(hm_rd hn hF).1
 have e2:=(hm_rd hn hR).1
 rw [if_pos ⟨hn,⟨by omega,by omega⟩,⟨by omega,by omega⟩,by rw [e1,e2,Int.toNat_natCast,rd_gD,rd_gD];exact hr.symm⟩,filM_mem0,e1,e2,Int.toNat_natCast,Int.toNat_natCast,Int.toNat_natCast,way_sep]
theorem way_asc (a b : Int) : (wayX (N : Int) cs hs vs a b).Pairwise (· < ·):=by
 unfold wayX
 split
 ·exact filM_asc _ _ _
 ·exact List.Pairwise.nil
theorem mates_asc (a : Int) : (matesX (N : Int) cs hs vs a).Pairwise (· < ·):=by
 unfold matesX
 split
 ·exact filM_asc _ _ _
 ·exact List.Pairwise.nil
end
theorem asc_len (l : List Int) : ∀ lo hi : Int,l.Pairwise (· < ·) → (∀ x ∈ l,lo ≤ x ∧ x < hi) → (l.length : Int) ≤ hi - lo ∨ l = []:=by
 induction l with
 | nil => exact fun _ _ _ _ => Or.inr rfl
 | cons x t ih =>
  intro lo hi hp hm
  rw [List.pairwise_cons] at hp
  have hx:=hm x List.mem_cons_self
  left
  rw [List.length_cons]
  rcases ih (x + 1) hi hp.2 (fun y hy => ⟨by have:=hp.1 y hy;omega,(hm y (List.mem_cons_of_mem _ hy)).2⟩) with h | h
  ·omega
  ·subst h
   simp only [List.length_nil]
   omega
structure MeetOK (n : Int) (cs : List S83) (hs vs : List Int) (a c : Int) (tk ov : List Int) : Prop where
 t_len : tk.length ≤ 20
 o_len : ov.length ≤ 20
 t_all : c = 15 → tk = matesX n cs hs vs a
 t_one : c ∈ matesX n cs hs vs a → tk = [c]
 t_no : c ≠ 15 → c ∉ matesX n cs hs vs a → tk = []
 o_sub : ∀ j ∈ ov,j ∈ floodX n cs hs vs a
 o_all : c = 15 → ov = floodX n cs hs vs a
 o_way : c ∈ matesX n cs hs vs a → ∀ j ∈ wayX n cs hs vs a c,j ∈ ov
theorem meet_ok {N : Nat} {cs : List S83} {hs vs : List Int} (hn : netB (N : Int) cs hs vs = true) {h : S37} {F : Nat} (hFl : F < hs.length) {T : TabN} {tk ov : List Int} (f : FrameOK N cs hs vs h F T tk ov) : MeetOK (N : Int) cs hs vs (F : Int) h.f1 tk ov:=by
 have hv:=(netB_facts hn).1
 have hh:=(netB_more hn).2.1
 have hc:=(netB_more hn).1
 constructor
 ·rcases asc_len tk 0 hs.length f.tka (fun x hx => by obtain ⟨S,rfl,h1,_⟩:=(f.tk x).1 hx;omega) with h | h
  ·omega
  ·rw [h];simp
 ·rcases asc_len ov 0 cs.length f.ova (fun x hx => by obtain ⟨e,o,h1,_⟩:=f.ov x hx;exact tj_pos h1) with h | h
  ·omega
  ·rw [h];simp
 ·intro h15
  refine asc_uniq f.tka (mates_asc _) (fun s => (f.tk s).trans (Iff.trans ?_ (mates_mem hn hFl s).symm))
  exact ⟨fun ⟨S,a1,a2,a3,_,a5,a6⟩ => ⟨S,a1,a2,a3,a5,a6⟩,fun ⟨S,a1,a2,a3,a5,a6⟩ => ⟨S,a1,a2,a3,Or.inr h15,a5,a6⟩⟩
 ·intro hm
  obtain ⟨R,a1,a2,a3,a5,a6⟩:=(mates_mem hn hFl _).1 hm
  refine asc_uniq f.tka (List.pairwise_singleton _ _) (fun s => (f.tk s).trans ?_)
  rw [List.mem_singleton]
  constructor
  ·rintro ⟨S,rfl,b2,b3,b4,b5,b6⟩
   rcases b4 with b4 | b4
   ·exact b4.symm
   ·omega
  ·rintro rfl
   exact ⟨R,a1,a2,a3,Or.inl a1,a5,a6⟩
 ·intro h15 hm
  refine List.eq_nil_iff_forall_not_mem.2 (fun s hs' => ?_)
  obtain ⟨S,rfl,b2,b3,b4,b5,b6⟩:=(f.tk s).1 hs'
  exact hm ((mates_mem hn hFl _).2 ⟨S,b4.resolve_right h15,b2,b3,b5,b6⟩)
 ·exact fun j hj => (flood_mem hn hFl j).2 (f.ov j hj)
 ·intro h15
  refine asc_uniq f.ova (flood_asc hn) (fun j => ⟨fun hj => (flood_mem hn hFl j).2 (f.ov j hj),fun hj => ?_⟩)
  obtain ⟨e,o,h1,h2⟩:=(flood_mem hn hFl j).1 hj
  have hl:=h1.lt hv
  by_cases c : Sep N cs j e (hmN hs F)
  ·exact f.all h15 j e hl.1 h2 (sep_symm c)
  ·refine f.all h15 j o hl.2 (by rw [← h1.root hv];exact h2) (sep_symm ?_)
   exact Classical.not_not.1 (fun h3 => c ((sep_flip hv h1 _).2 h3))
 ·intro hm j hj
  obtain ⟨R,a1,a2,a3,a5,a6⟩:=(mates_mem hn hFl _).1 hm
  rw [a1] at hj
  exact f.way R a1 a2 a5 a6 j ((way_mem hn hFl a2 a6 j).1 hj).2.2
theorem meet_slim {N : Nat} {cs : List S83} {hs vs : List Int} (hn : netB (N : Int) cs hs vs = true) {h : S37} {F : Nat} (hF : h.f0 = (F : Int)) (hFl : F < hs.length) {T : TabN} {tk ov : List Int} (f : FrameOK N cs hs vs h F T tk ov) {g : S37} (hg : LrnOK N cs hs vs g T) (h0 : g.f0 = h.f1) (h1 : g.f1 = 15 ∨ g.f1 = h.f0) (hm : h.f1 ∈ matesX (N : Int) cs hs vs h.f0) :
  ov = wayX (N : Int) cs hs vs h.f0 h.f1:=by
 rw [hF] at hm h1 ⊢
 obtain ⟨R,a1,a2,a3,a5,a6⟩:=(mates_mem hn hFl _).1 hm
 rw [a1]
 have hsl:=f.slim R a1 a2 a3 a5 a6 (fun c hc hrt hP => by
  have:=hg R (h0.trans a1) c hc (hrt.trans a6.symm) (h1.imp id (fun e => ⟨F,e,hFl,a5.symm,a6.symm,fun j ⟨x1,x2⟩ => hP j ⟨sep_symm x2,sep_symm x1⟩⟩))
  rw [a5] at this
  exact this)
 refine asc_uniq f.ova (way_asc _ _) (fun j => ⟨fun hj => ?_,fun hj => f.way R a1 a2 a5 a6 j ((way_mem hn hFl a2 a6 j).1 hj).2.2⟩)
 obtain ⟨e,o,h3,_⟩:=f.ov j hj
 have:=tj_pos h3
 exact (way_mem hn hFl a2 a6 j).2 ⟨this.1,this.2,hsl j hj⟩
theorem getD_row (l : List (List Int)) (i : Nat) (h : i < l.length) : l.getD i [] = l[i]:=by simp [List.getD,h]
theorem run_meet {n : Int} {cs : List S83} {hs vs : List Int} {l : List S37} (h : runB n cs hs vs l = true) : ∃ tk ov : List (List Int), impl_RunNet.f n cs hs vs l = some (tk, ov, true) ∧ spec_RunNet.f n cs hs vs l = some (tk, ov, true) ∧ tk.length = l.length ∧ ov.length = l.length ∧ l.length ≤ 60 ∧ netB n cs hs vs = true ∧ (∀ r ∈ tk, r.length ≤ 20) ∧ (∀ r ∈ ov, r.length ≤ 20) ∧
  ∀ i (hi : i < l.length),(l[i].f1 < 15 ∨ l[i].f1 = 15) ∧ MeetOK n cs hs vs l[i].f0 l[i].f1 (tk.getD i []) (ov.getD i []) ∧ ∀ g ∈ l.take i,g.f0 = l[i].f1 → (g.f1 = 15 ∨ g.f1 = l[i].f0) → l[i].f1 ∈ matesX n cs hs vs l[i].f0 → ov.getD i [] = wayX n cs hs vs l[i].f0 l[i].f1:=by
 have h':=h
 unfold runB at h'
 rw [Bool.and_eq_true,Bool.and_eq_true,decide_eq_true_eq] at h'
 obtain ⟨hn,hl,hall⟩:=h'
 have hv:=cabsB_facts (netB_facts hn).1
 obtain ⟨N,rfl⟩ : ∃ N : Nat,n = (N : Int):=⟨n.toNat,by omega⟩
 obtain ⟨fin,e1,e2,e3,e4,e5⟩:=frames_start N cs hs vs l h
 refine ⟨fin.1,fin.2,?_,?_,e3,e4,hl,hn,fun r hr => ?_,fun r hr => ?_,fun i hi => ?_⟩
 ·unfold impl_RunNet.f;rw [if_pos h,e1];rfl
 ·unfold spec_RunNet.f;rw [if_pos h,e2];rfl
 ·obtain ⟨i,hi,rfl⟩:=List.mem_iff_getElem.1 hr
  obtain ⟨F,T,r1,r2,r3,r4⟩:=e5 i (by omega)
  have:=(meet_ok hn r2 r3).t_len
  rw [getD_row _ i hi] at this
  exact this
 ·obtain ⟨i,hi,rfl⟩:=List.mem_iff_getElem.1 hr
  obtain ⟨F,T,r1,r2,r3,r4⟩:=e5 i (by omega)
  have:=(meet_ok hn r2 r3).o_len
  rw [getD_row _ i hi] at this
  exact this
 ·obtain ⟨F,T,r1,r2,r3,r4⟩:=e5 i hi
  refine ⟨?_,by rw [r1];exact meet_ok hn r2 r3,fun g hg h0 h1 hm => meet_slim hn r1 r2 r3 (r4 g hg) h0 h1 hm⟩
  have hx:=List.all_eq_true.1 hall _ (List.getElem_mem hi)
  have hh:=(netB_more hn).2.1
  unfold hopB stB at hx
  rw [Bool.and_eq_true,Bool.or_eq_true,decide_eq_true_eq,decide_eq_true_eq,beq_iff_eq] at hx
  omega
theorem run_none {n : Int} {cs : List S83} {hs vs : List Int} {l : List S37} (h : runB n cs hs vs l = false) : impl_RunNet.f n cs hs vs l = some ([],[],false) ∧ spec_RunNet.f n cs hs vs l = some ([],[],false):=by
 unfold impl_RunNet.f spec_RunNet.f
 rw [h]
 exact ⟨if_neg (by decide),if_neg (by decide)⟩

-- LIB pints
theorem toIntS_at (l : List Int) (hl : l.length ≤ 1048576) (d : Nat) : ∀ (k i : Nat) (x : List Int),i + d = l.length → x.length = l.length → x.take i = l.take i → d < k → laws_toIntS.l0 k l x (i : Int) = some l:=by
 induction d with
 | zero =>
  intro k i x h1 h2 h3 hk
  obtain ⟨k,rfl⟩ : ∃ m,k = m + 1:=⟨k - 1,by omega⟩
  simp only [laws_toIntS.l0]
  rw [if_neg (by omega)]
  have e1 : x.take i = x:=List.take_of_length_le (by omega)
  have e2 : l.take i = l:=List.take_of_length_le (by omega)
  rw [← e1,h3,e2]
 | succ d ih =>
  intro k i x h1 h2 h3 hk
  obtain ⟨k,rfl⟩ : ∃ m,k = m + 1:=⟨k - 1,by omega⟩
  simp only [laws_toIntS.l0]
  rw [if_pos (by omega),if_pos (by omega),if_pos (by omega),wrap_succ (show i < l.length by omega) (by omega),rd_get l i (by omega),Int.toNat_natCast]
  refine ih k (i + 1) (x.set i l[i]) (by omega) (by rw [List.length_set];exact h2) ?_ (by omega)
  rw [List.take_add_one,List.take_add_one,List.take_set,List.getElem?_set_self (by omega),List.getElem?_eq_getElem (by omega),List.set_eq_of_length_le (by rw [List.length_take];omega),h3]
theorem toIntS_eq (l : List Int) (hl : l.length ≤ 1048576) (k : Nat) (hk : l.length < k) : laws_toIntS.f k l = some l:=by
 unfold laws_toIntS.f
 rw [if_pos (by omega),if_pos (by omega)]
 exact toIntS_at l hl l.length k 0 _ (by omega) (by simp) (by simp) hk
theorem eqIntS_at (l : List Int) (hl : l.length ≤ 9223372036854775807) (d : Nat) : ∀ (k i : Nat),i + d = l.length → d < k → laws_eqIntS.l0 k l l (i : Int) = some true:=by
 induction d with
 | zero =>
  intro k i h1 hk
  obtain ⟨k,rfl⟩ : ∃ m,k = m + 1:=⟨k - 1,by omega⟩
  simp only [laws_eqIntS.l0]
  rw [if_neg (by omega)]
 | succ d ih =>
  intro k i h1 hk
  obtain ⟨k,rfl⟩ : ∃ m,k = m + 1:=⟨k - 1,by omega⟩
  simp only [laws_eqIntS.l0]
  rw [if_pos (by omega),if_pos (by omega),if_pos (by omega),if_pos trivial,wrap_succ (show i < l.length by omega) (by omega)]
  exact ih k (i + 1) (by omega) (by omega)
theorem eqIntS_eq (l : List Int) (hl : l.length ≤ 9223372036854775807) (k : Nat) (hk : l.length < k) : laws_eqIntS.f k l l = some true:=by
 unfold laws_eqIntS.f
 rw [if_pos rfl]
 exact eqIntS_at l hl l.length k 0 (by omega) hk

-- LIB p19e
-- what the exact laws do with their arguments
theorem rdLab_get (l : List S117) (i : Nat) (h : i < l.length) : rd_T117 l (i : Int) = l[i]:=by simp [rd_T117,List.getD_eq_getElem?_getD,h]
def cvC (l : List S117) : List S83:=l.map fun x => ⟨x.f0,x.f1,x.f2⟩
theorem cvC_len (l : List S117) : (cvC l).length = l.length:=by unfold cvC;simp
theorem toCable_at (l : List S117) (hl : l.length ≤ 1048576) (d : Nat) : ∀ (k i : Nat) (x : List S83),i + d = l.length → x.length = l.length → x.take i = (cvC l).take i → d < k → laws_toCableS.l0 k l x (i : Int) = some (cvC l):=by
 have hc:=cvC_len l
 induction d with
 | zero =>
  intro k i x h1 h2 h3 hk
  obtain ⟨k,rfl⟩ : ∃ m,k = m + 1:=⟨k - 1,by omega⟩
  simp only [laws_toCableS.l0]
  rw [if_neg (by omega)]
  have e1 : x.take i = x:=List.take_of_length_le (by omega)
  have e2 : (cvC l).take i = cvC l:=List.take_of_length_le (by omega)
  rw [← e1,h3,e2]
 | succ d ih =>
  intro k i x h1 h2 h3 hk
  obtain ⟨k,rfl⟩ : ∃ m,k = m + 1:=⟨k - 1,by omega⟩
  simp only [laws_toCableS.l0,laws_toCable.f,Option.bind_some]
  rw [if_pos (by omega),if_pos (by omega),if_pos (by omega),wrap_succ (show i < l.length by omega) (by omega),rdLab_get l i (by omega),Int.toNat_natCast]
  have e : (cvC l)[i]? = some ⟨l[i].f0,l[i].f1,l[i].f2⟩:=by unfold cvC;simp [show i < l.length by omega]
  refine ih k (i + 1) _ (by omega) (by rw [List.length_set];exact h2) ?_ (by omega)
  rw [List.take_add_one,List.take_add_one,List.take_set,List.getElem?_set_self (by omega),e,List.set_eq_of_length_le (by rw [List.length_take];omega),h3]
theorem toCable_eq (l : List S117) (hl : l.length ≤ 1048576) (k : Nat) (hk : l.length < k) : laws_toCableS.f k l = some (cvC l):=by
 unfold laws_toCableS.f
 rw [if_pos (by omega),if_pos (by omega)]
 exact toCable_at l hl l.length k 0 _ (by omega) (by simp) (by simp) hk
theorem eqCable_at (l : List S83) (hl : l.length ≤ 9223372036854775807) (d : Nat) : ∀ (k i : Nat),i + d = l.length → d < k → laws_eqCableS.l0 k l l (i : Int) = some true:=by
 induction d with
 | zero =>
  intro k i h1 hk
  obtain ⟨k,rfl⟩ : ∃ m,k = m + 1:=⟨k - 1,by omega⟩
  simp only [laws_eqCableS.l0]
  rw [if_neg (by omega)]
 | succ d ih =>
  intro k i h1 hk
  obtain ⟨k,rfl⟩ : ∃ m,k = m + 1:=⟨k - 1,by omega⟩
  have e : ∀ (a b c : Int),laws_eqCable.f a b c a b c = some true:=fun a b c => by unfold laws_eqCable.f;rw [if_pos rfl,if_pos rfl,if_pos rfl]
  simp only [laws_eqCableS.l0]
  rw [if_pos (by omega),if_pos (by omega),if_pos (by omega),e,Option.bind_some,if_pos rfl,wrap_succ (show i < l.length by omega) (by omega)]
  exact ih k (i + 1) (by omega) (by omega)
theorem eqCable_eq (l : List S83) (hl : l.length ≤ 9223372036854775807) (k : Nat) (hk : l.length < k) : laws_eqCableS.f k l l = some true:=by
 unfold laws_eqCableS.f
 rw [if_pos rfl]
 exact eqCable_at l hl l.length k 0 (by omega) hk
theorem szInt_of (l : List Int) (hl : l.length ≤ maxLen) (m : Int) (h0 : 0 ≤ m) (h1 : m ≤ 1048576) : ∃ n : Int,laws_szIntS.f l m = some n ∧ (¬ n < 0 → l.length ≤ m ∧ n = m - l.length):=by
 unfold maxLen at hl
 unfold laws_szIntS.f
 rw [wrap_eq (by omega) (by omega)]
 split
 ·exact ⟨_,rfl,fun h => absurd (show (-1 : Int) < 0 by decide) h⟩
 ·exact ⟨_,rfl,fun h => by omega⟩
theorem szNet_eq (n : Int) (cs : List S117) (hs vs : List Int) (h1 : cs.length ≤ maxLen) (h2 : hs.length ≤ maxLen) (h3 : vs.length ≤ maxLen) : ∃ m : Int,laws_szNet.f n cs hs vs 1048576 = some m ∧ (¬ m < 0 → cs.length + hs.length + vs.length ≤ 1048576 ∧ 0 ≤ m ∧ m ≤ 1048576):=by
 have hc : ∃ m : Int,laws_szCableS.f cs 1048576 = some m ∧ (¬ m < 0 → cs.length ≤ 1048576 ∧ m = 1048576 - cs.length):=by
  unfold maxLen at h1
  unfold laws_szCableS.f
  rw [wrap_eq (by omega) (by omega)]
  split
  ·exact ⟨_,rfl,fun h => absurd (show (-1 : Int) < 0 by decide) h⟩
  ·exact ⟨_,rfl,fun h => by omega⟩
 obtain ⟨m1,e1,g1⟩:=hc
 unfold laws_szNet.f
 rw [e1,Option.bind_some]
 by_cases c1 : m1 < 0
 ·rw [if_pos c1];exact ⟨_,rfl,fun h => absurd (show (-1 : Int) < 0 by decide) h⟩
 obtain ⟨q1,q2⟩:=g1 c1
 obtain ⟨m2,e2,g2⟩:=szInt_of hs h2 m1 (by omega) (by omega)
 rw [if_neg c1,e2,Option.bind_some]
 by_cases c2 : m2 < 0
 ·rw [if_pos c2];exact ⟨_,rfl,fun h => absurd (show (-1 : Int) < 0 by decide) h⟩
 obtain ⟨q3,q4⟩:=g2 c2
 obtain ⟨m3,e3,g3⟩:=szInt_of vs h3 m2 (by omega) (by omega)
 rw [if_neg c2,e3,Option.bind_some]
 by_cases c3 : m3 < 0
 ·rw [if_pos c3];exact ⟨_,rfl,fun h => absurd (show (-1 : Int) < 0 by decide) h⟩
 rw [if_neg c3]
 exact ⟨_,rfl,fun h => by have:=g3 h;omega⟩
theorem toNet_eq (n : Int) (cs : List S117) (hs vs : List Int) (h : cs.length + hs.length + vs.length ≤ 1048576) (k : Nat) (hk : cs.length + hs.length + vs.length < k) : laws_toNet.f k n cs hs vs = some (n,cvC cs,hs,vs):=by
 unfold laws_toNet.f
 rw [toCable_eq cs (by omega) k (by omega),Option.bind_some,toIntS_eq hs (by omega) k (by omega),Option.bind_some,toIntS_eq vs (by omega) k (by omega),Option.bind_some]
theorem eqNet_eq (n : Int) (cs : List S83) (hs vs : List Int) (h : cs.length + hs.length + vs.length ≤ 1048576) (k : Nat) (hk : cs.length + hs.length + vs.length < k) : laws_eqNet.f k n cs hs vs n cs hs vs = some true:=by
 unfold laws_eqNet.f
 rw [if_pos rfl,eqCable_eq cs (by omega) k (by omega),Option.bind_some,if_pos rfl,eqIntS_eq hs (by omega) k (by omega),Option.bind_some,if_pos rfl,eqIntS_eq vs (by omega) k (by omega),Option.bind_some,if_pos rfl]

-- LIB pheldint
theorem heldInt_at (d : Nat) : ∀ (k i : Nat) (m : Int) (l : List Int),i + d = l.length → l.length ≤ 4611686018427387904 → d < k → 0 ≤ m → m + d ≤ 4611686018427387904 → l.drop i = mkI m d → laws_heldIntS.l0 k l m i = some (m + d):=by
 induction d with
 | zero =>
  intro k i m l h1 hl hk h2 h3 h4
  obtain ⟨k,rfl⟩ : ∃ m,k = m + 1:=⟨k - 1,by omega⟩
  simp only [laws_heldIntS.l0]
  rw [if_neg (by omega),show m + ((0 : Nat) : Int) = m by omega]
 | succ d ih =>
  intro k i m l h1 hl hk h2 h3 h4
  obtain ⟨k,rfl⟩ : ∃ m,k = m + 1:=⟨k - 1,by omega⟩
  rw [List.drop_eq_getElem_cons (show i < l.length by omega),mkI] at h4
  obtain ⟨e1,e2⟩:=List.cons.inj h4
  simp only [laws_heldIntS.l0]
  rw [if_pos (by omega),if_pos (by omega),rd_get l i (by omega),e1,wrap_eq (by omega) (by omega),wrap_succ (show i < l.length by omega) (by omega),ih k (i + 1) (m + 1) l (by omega) hl (by omega) (by omega) (by omega) e2]
  simp
  omega
theorem heldInt_eq (n : Nat) (m : Int) (hl : n ≤ 2305843009213693952) (h0 : 0 ≤ m) (h1 : m ≤ 2305843009213693952) (k : Nat) (hk : n < k) : laws_heldIntS.f k (mkI m n) m = some (m + n):=by
 have h:=heldInt_at n k 0 m (mkI m n) (by rw [mkI_len];omega) (by rw [mkI_len];omega) hk h0 (by omega) rfl
 exact h

-- LIB p19x
theorem markCable_at (d : Nat) : ∀ (k i : Nat) (m : Int) (l : List S83),i + d = l.length → l.length ≤ 1000000000 → d < k → 0 ≤ m → m + 3 * d ≤ 4611686018427387904 → ∃ x,laws_markCableS.l0 k l m i = some (m + 3 * d,x):=by
 induction d with
 | zero =>
  intro k i m l h1 hl hk h2 h3
  obtain ⟨k,rfl⟩ : ∃ m,k = m + 1:=⟨k - 1,by omega⟩
  simp only [laws_markCableS.l0]
  rw [if_neg (by omega),show m + 3 * ((0 : Nat) : Int) = m by omega]
  exact ⟨_,rfl⟩
 | succ d ih =>
  intro k i m l h1 hl hk h2 h3
  obtain ⟨k,rfl⟩ : ∃ m,k = m + 1:=⟨k - 1,by omega⟩
  simp only [laws_markCableS.l0,Option.bind_some]
  rw [if_pos (by omega),if_pos (by omega),wrap_eq (x:=m + 1) (by omega) (by omega),wrap_eq (x:=m + 1 + 1) (by omega) (by omega),wrap_eq (x:=m + 1 + 1 + 1) (by omega) (by omega),wrap_succ (show i < l.length by omega) (by omega),show m + 3 * ((d + 1 : Nat) : Int) = m + 1 + 1 + 1 + 3 * (d : Int) by omega]
  exact ih k (i + 1) (m + 1 + 1 + 1) _ (by simp only [List.length_set];omega) (by simp only [List.length_set];omega) (by omega) (by omega) (by omega)

-- LIB phops
-- what the exact laws do with frames
theorem rdLop_get (l : List S88) (i : Nat) (h : i < l.length) : rd_T88 l (i : Int) = l[i]:=by simp [rd_T88,List.getD_eq_getElem?_getD,h]
def cvH (l : List S88) : List S37:=l.map fun x => ⟨x.f0,x.f1,x.f2⟩
theorem cvH_len (l : List S88) : (cvH l).length = l.length:=by unfold cvH;simp
theorem toHop_at (l : List S88) (hl : l.length ≤ 1048576) (d : Nat) : ∀ (k i : Nat) (x : List S37),i + d = l.length → x.length = l.length → x.take i = (cvH l).take i → d < k → laws_toHopS.l0 k l x (i : Int) = some (cvH l):=by
 have hc:=cvH_len l
 induction d with
 | zero =>
  intro k i x h1 h2 h3 hk
  obtain ⟨k,rfl⟩ : ∃ m,k = m + 1:=⟨k - 1,by omega⟩
  simp only [laws_toHopS.l0]
  rw [if_neg (by omega)]
  have e1 : x.take i = x:=List.take_of_length_le (by omega)
  have e2 : (cvH l).take i = cvH l:=List.take_of_length_le (by omega)
  rw [← e1,h3,e2]
 | succ d ih =>
  intro k i x h1 h2 h3 hk
  obtain ⟨k,rfl⟩ : ∃ m,k = m + 1:=⟨k - 1,by omega⟩
  simp only [laws_toHopS.l0,laws_toHop.f,Option.bind_some]
  rw [if_pos (by omega),if_pos (by omega),if_pos (by omega),wrap_succ (show i < l.length by omega) (by omega),rdLop_get l i (by omega),Int.toNat_natCast]
  have e : (cvH l)[i]? = some ⟨l[i].f0,l[i].f1,l[i].f2⟩:=by unfold cvH;simp [show i < l.length by omega]
  refine ih k (i + 1) _ (by omega) (by rw [List.length_set];exact h2) ?_ (by omega)
  rw [List.take_add_one,List.take_add_one,List.take_set,List.getElem?_set_self (by omega),e,List.set_eq_of_length_le (by rw [List.length_take];omega),h3]
theorem toHop_eq (l : List S88) (hl : l.length ≤ 1048576) (k : Nat) (hk : l.length < k) : laws_toHopS.f k l = some (cvH l):=by
 unfold laws_toHopS.f
 rw [if_pos (by omega),if_pos (by omega)]
 exact toHop_at l hl l.length k 0 _ (by omega) (by simp) (by simp) hk
theorem eqHop_at (l : List S37) (hl : l.length ≤ 9223372036854775807) (d : Nat) : ∀ (k i : Nat),i + d = l.length → d < k → laws_eqHopS.l0 k l l (i : Int) = some true:=by
 induction d with
 | zero =>
  intro k i h1 hk
  obtain ⟨k,rfl⟩ : ∃ m,k = m + 1:=⟨k - 1,by omega⟩
  simp only [laws_eqHopS.l0]
  rw [if_neg (by omega)]
 | succ d ih =>
  intro k i h1 hk
  obtain ⟨k,rfl⟩ : ∃ m,k = m + 1:=⟨k - 1,by omega⟩
  have e : ∀ (a b c : Int),laws_eqHop.f a b c a b c = some true:=fun a b c => by unfold laws_eqHop.f;rw [if_pos rfl,if_pos rfl,if_pos rfl]
  simp only [laws_eqHopS.l0]
  rw [if_pos (by omega),if_pos (by omega),if_pos (by omega),e,Option.bind_some,if_pos rfl,wrap_succ (show i < l.length by omega) (by omega)]
  exact ih k (i + 1) (by omega) (by omega)
theorem eqHop_eq (l : List S37) (hl : l.length ≤ 9223372036854775807) (k : Nat) (hk : l.length < k) : laws_eqHopS.f k l l = some true:=by
 unfold laws_eqHopS.f
 rw [if_pos rfl]
 exact eqHop_at l hl l.length k 0 (by omega) hk
theorem szHop_of (l : List S88) (hl : l.length ≤ maxLen) (m : Int) (h0 : 0 ≤ m) (h1 : m ≤ 1048576) : ∃ n : Int,laws_szHopS.f l m = some n ∧ (¬ n < 0 → l.length ≤ m):=by
 unfold maxLen at hl
 unfold laws_szHopS.f
 rw [wrap_eq (by omega) (by omega)]
 split
 ·exact ⟨_,rfl,fun h => absurd (show (-1 : Int) < 0 by decide) h⟩
 ·exact ⟨_,rfl,fun h => by omega⟩
theorem markHop_at (d : Nat) : ∀ (k i : Nat) (m : Int) (l : List S37),i + d = l.length → l.length ≤ 1000000000 → d < k → 0 ≤ m → m + 3 * d ≤ 4611686018427387904 → ∃ x,laws_markHopS.l0 k l m i = some (m + 3 * d,x):=by
 induction d with
 | zero =>
  intro k i m l h1 hl hk h2 h3
  obtain ⟨k,rfl⟩ : ∃ m,k = m + 1:=⟨k - 1,by omega⟩
  simp only [laws_markHopS.l0]
  rw [if_neg (by omega),show m + 3 * ((0 : Nat) : Int) = m by omega]
  exact ⟨_,rfl⟩
 | succ d ih =>
  intro k i m l h1 hl hk h2 h3
  obtain ⟨k,rfl⟩ : ∃ m,k = m + 1:=⟨k - 1,by omega⟩
  simp only [laws_markHopS.l0,Option.bind_some]
  rw [if_pos (by omega),if_pos (by omega),wrap_eq (x:=m + 1) (by omega) (by omega),wrap_eq (x:=m + 1 + 1) (by omega) (by omega),wrap_eq (x:=m + 1 + 1 + 1) (by omega) (by omega),wrap_succ (show i < l.length by omega) (by omega),show m + 3 * ((d + 1 : Nat) : Int) = m + 1 + 1 + 1 + 3 * (d : Int) by omega]
  exact ih k (i + 1) (m + 1 + 1 + 1) _ (by simp only [List.length_set];omega) (by simp only [List.length_set];omega) (by omega) (by omega) (by omega)

-- LIB pnetss
-- what the exact laws do with rows of rows of numbers
theorem eqISS_at (l : List (List Int)) (hl : l.length ≤ 100) (hr : ∀ r ∈ l,r.length ≤ 20) (d : Nat) : ∀ (k i : Nat),i + d = l.length → d + 100 < k → laws_eqIntSS.l0 k l l (i : Int) = some true:=by
 induction d with
 | zero =>
  intro k i h1 hk
  obtain ⟨k,rfl⟩ : ∃ m,k = m + 1:=⟨k - 1,by omega⟩
  simp only [laws_eqIntSS.l0]
  rw [if_neg (by omega)]
 | succ d ih =>
  intro k i h1 hk
  obtain ⟨k,rfl⟩ : ∃ m,k = m + 1:=⟨k - 1,by omega⟩
  have hi : i < l.length:=by omega
  have hg : rd_L4 l (i : Int) = l[i]:=by simp [rd_L4,List.getD,hi]
  have h20:=hr _ (List.getElem_mem hi)
  simp only [laws_eqIntSS.l0]
  rw [if_pos (by omega),if_pos (by omega),if_pos (by omega),hg,eqIntS_eq _ (by omega) k (by omega),Option.bind_some,if_pos rfl,wrap_succ hi (by omega)]
  exact ih k (i + 1) (by omega) (by omega)
theorem eqISS_eq (l : List (List Int)) (hl : l.length ≤ 100) (hr : ∀ r ∈ l,r.length ≤ 20) (k : Nat) (hk : 300 < k) : laws_eqIntSS.f k l l = some true:=by
 unfold laws_eqIntSS.f
 rw [if_pos rfl]
 exact eqISS_at l hl hr l.length k 0 (by omega) (by omega)
theorem eqSent_eq (t o : List (List Int)) (ht : t.length ≤ 100) (hr : ∀ r ∈ t,r.length ≤ 20) (ho : o.length ≤ 100) (hq : ∀ r ∈ o,r.length ≤ 20) (k : Nat) (hk : 300 < k) : laws_eqSent.f k t o t o = some true:=by
 unfold laws_eqSent.f
 rw [eqISS_eq t ht hr k hk,Option.bind_some,if_pos rfl,eqISS_eq o ho hq k hk,Option.bind_some,if_pos rfl]
theorem mkNI_bound (l : List (List Int)) (h : ∀ y ∈ l,y.length ≤ 20) : ∀ a,mkNI l a ≤ a + 20 * (l.length : Int):=by
 induction l with
 | nil => intro a;show a ≤ a + 20 * 0;omega
 | cons r l ih =>
  intro a
  have h1:=ih (fun y hy => h y (List.mem_cons_of_mem _ hy)) (a + (r.length : Int))
  have h2:=h r (List.mem_cons_self ..)
  show mkNI l (a + (r.length : Int)) ≤ _
  rw [List.length_cons]
  omega
theorem mkSSI_get (l : List (List Int)) (i : Nat) (hi : i < l.length) : ∀ a,(mkSSI l a)[i]? = some (mkI (mkNI (l.take i) a) l[i].length):=by
 induction l generalizing i with
 | nil => simp at hi
 | cons r l ih =>
  intro a
  cases i with
  | zero => rfl
  | succ i => exact ih i (by simpa using hi) _
theorem heldISS_at (l : List (List Int)) (hl : l.length ≤ 100) (a : Int) (h0 : 0 ≤ a) (hm : mkNI l a ≤ 1000000000) (hK : ∀ y ∈ l,y.length ≤ 20) (d : Nat) : ∀ i : Nat,i + d = l.length → ∀ k,100 + d < k → laws_heldIntSS.l0 k (mkSSI l a) (mkNI (l.take i) a) (i : Int) = some (mkNI l a):=by
 induction d with
 | zero =>
  intro i hi k hk
  obtain ⟨k,rfl⟩ : ∃ m,k = m + 1:=⟨k - 1,by omega⟩
  simp only [laws_heldIntSS.l0]
  rw [if_neg (by rw [mkSSI_len];omega),List.take_of_length_le (by omega)]
 | succ d ih =>
  intro i hi k hk
  obtain ⟨k,rfl⟩ : ∃ m,k = m + 1:=⟨k - 1,by omega⟩
  have hi2 : i < l.length:=by omega
  simp only [laws_heldIntSS.l0]
  have hr : rd_L4 (mkSSI l a) (i : Int) = mkI (mkNI (l.take i) a) l[i].length:=by
   unfold rd_L4
   rw [Int.toNat_natCast,List.getD_eq_getElem?_getD,mkSSI_get l i hi2]
   rfl
  have h1:=mkNI_take l i hi2 a
  have h2:=mkNI_le (l.take i) a
  have h3:=hK _ (List.getElem_mem hi2)
  rw [if_pos (by rw [mkSSI_len];omega),if_pos (by omega),hr,heldInt_eq _ _ (by omega) (by omega) (by omega) k (by omega),Option.bind_some,if_neg (by omega),wrap_eq (by omega) (by omega)]
  have h:=ih (i + 1) (by omega) k (by omega)
  rw [List.take_succ_eq_append_getElem hi2,mkNI_snoc] at h
  exact h
theorem heldISS_eq (l : List (List Int)) (hl : l.length ≤ 100) (a : Int) (h0 : 0 ≤ a) (hm : mkNI l a ≤ 1000000000) (hK : ∀ y ∈ l,y.length ≤ 20) (k : Nat) (hk : 300 < k) : laws_heldIntSS.f k (mkSSI l a) a = some (mkNI l a):=by
 unfold laws_heldIntSS.f
 exact heldISS_at l hl a h0 hm hK l.length 0 (by omega) k (by omega)

end Go.Proofs.Ytblcnbnphjnhdaa.PAll
