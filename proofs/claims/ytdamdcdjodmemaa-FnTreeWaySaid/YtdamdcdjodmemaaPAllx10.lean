/- Proved here: contracts of functions of the given program, or lemmas on them, for the laws of this seat. Written by xprint.py, a program of this session, on the ground of the kit's print; parts by hand: wip/x/ext. -/
import Derived.Test.YtdamdcdjodmemaaPAllx0
import Derived.Test.YtdamdcdjodmemaaPAllx1
import Derived.Test.YtdamdcdjodmemaaPAllx2
import Derived.Test.YtdamdcdjodmemaaPAllx3
import Derived.Test.YtdamdcdjodmemaaPAllx4
import Derived.Test.YtdamdcdjodmemaaPAllx5
import Derived.Test.YtdamdcdjodmemaaPAllx7
import Derived.Test.YtdamdcdjodmemaaPAllx8
import Derived.Test.YtdamdcdjodmemaaPAllx9
namespace Go.Proofs.Ytdamdcdjodmemaa.PAll
open Go.RowKit Go.Proofs.YtdamdcdjodmemaaW.PrintWords Go.Proofs.YtdamdcdjodmemaaW.PrintLast Go.Proofs.YtdamdcdjodmemaaW.PrintMore
attribute [local go_sem] max2_int min2_int max_two min_two max_three min_three max_four min_four   -- for this text's walks alone
set_option linter.unusedVariables false
set_option linter.unusedSimpArgs false

-- LIB flood
theorem treeX_len (n : Int) (cs : List S51) : (treeX n cs).length ≤ 8:=by
  unfold treeX
  split
  · rename_i hv
    obtain ⟨f1,f2,_,_⟩:=cabsB_facts hv
    have h:=(tree_perm (upN n.toNat cs) n.toNat cs.length (fun x _ => (upX_lt cs _ _).2)).length_eq
    have:=uL_len (upN n.toNat cs) n.toNat 0
    omega
  · simp
theorem treeX_in {n : Int} {cs : List S51} {k : Int} (h : k ∈ treeX n cs) : 0 ≤ k ∧ k < cs.length:=by
  unfold treeX at h
  split at h
  · have:=tI_ge _ _ _ _ _ h;omega
  · cases h
def floodB (n : Int) (cs : List S51) (hs : List Int) (s k : Int) : Bool:=decide (rd (rootsL n.toNat cs) (rd_T51 cs k).f0 = rd (rootsL n.toNat cs) (rd hs s))
/-- The cables over which a frame for all goes. -/
def floodX (n : Int) (cs : List S51) (hs vs : List Int) (s : Int) : List Int:=if netB n cs hs vs = true ∧ 0 ≤ s ∧ s < hs.length then (treeX n cs).filter (floodB n cs hs s) else []
theorem floodX_len (n : Int) (cs : List S51) (hs vs : List Int) (s : Int) : (floodX n cs hs vs s).length ≤ 8:=by
  unfold floodX
  split
  · exact Nat.le_trans (List.length_filter_le _ _) (treeX_len n cs)
  · simp
theorem iflood_at (n : Int) (cs : List S51) (hs vs : List Int) (s : Int) (hv : netB n cs hs vs = true) (h0 : 0 ≤ s) (h1 : s < hs.length) (d : Nat) : ∀ (k i : Nat) (acc : List Int),i + d = (treeX n cs).length → acc.length + d ≤ 15 → d < k →
    impl_FloodOver.l0 k s (rootsL n.toNat cs) acc (treeX n cs) (treeX n cs).length (i : Int) n cs hs vs = some (acc ++ ((treeX n cs).drop i).filter (floodB n cs hs s)):=by
  obtain ⟨q1,q2,q3,q4⟩:=netB_facts hv
  obtain ⟨p1,p2,p3,p4⟩:=cabsB_facts q1
  have hr:=rootsL_len n.toNat cs
  have ht:=treeX_len n cs
  induction d with
  | zero =>
    intro k i acc e1 e2 hk
    obtain ⟨k,rfl⟩ : ∃ m,k = m + 1:=⟨k - 1,by omega⟩
    simp only [impl_FloodOver.l0]
    rw [if_neg (by omega),List.drop_of_length_le (by omega),List.filter_nil,List.append_nil]
  | succ d ih =>
    intro k i acc e1 e2 hk
    obtain ⟨k,rfl⟩ : ∃ m,k = m + 1:=⟨k - 1,by omega⟩
    have hi : i < (treeX n cs).length:=by omega
    obtain ⟨t0,t1⟩:=treeX_in (List.getElem_mem hi)
    obtain ⟨K,hK⟩:=Int.eq_ofNat_of_zero_le t0
    have hKl : K < cs.length:=by omega
    have hc:=p4 _ (List.getElem_mem hKl)
    have hrd : rd_T51 cs (K : Int) = cs[K]:=rdCab_get cs K hKl
    obtain ⟨S,hS⟩:=Int.eq_ofNat_of_zero_le h0
    have m2:=q4 (rd hs s) (by rw [hS,rd_get hs S (by omega)];exact List.getElem_mem _)
    simp only [impl_FloodOver.l0]
    rw [if_pos (by omega),if_pos (by omega),if_pos (by omega),rd_get _ i hi,hK,if_pos (by omega),if_pos (by omega),hrd,if_pos (by omega),if_pos (by omega),if_pos h0,if_pos h1,if_pos m2.1,if_pos (by omega),wrap_succ hi (by omega),List.drop_eq_getElem_cons hi,hK]
    by_cases c : rd (rootsL n.toNat cs) cs[K].f0 = rd (rootsL n.toNat cs) (rd hs s)
    · rw [if_pos c,if_pos (by omega),ih k (i + 1) _ (by omega) (by simp;omega) (by omega),List.filter_cons_of_pos (by unfold floodB;rw [hrd];exact decide_eq_true c),List.append_assoc];rfl
    · rw [if_neg c,ih k (i + 1) acc (by omega) (by omega) (by omega),List.filter_cons_of_neg (by unfold floodB;rw [hrd];simp [c])]
theorem iflood_eq (n : Int) (cs : List S51) (hs vs : List Int) (s : Int) (k : Nat) (hk : 500 < k) : impl_FloodOver.f k n cs hs vs s = some (floodX n cs hs vs s):=by
  unfold impl_FloodOver.f floodX
  rw [istation_eq,Option.bind_some]
  by_cases c : netB n cs hs vs = true ∧ 0 ≤ s ∧ s < hs.length
  · obtain ⟨q1,q2,q3,q4⟩:=netB_facts c.1
    have ht:=treeX_len n cs
    have e : impl_rootsOf.f n cs = some (rootsL n.toNat cs):=by unfold impl_rootsOf.f;rw [if_pos q1]
    rw [decide_eq_true c,if_pos rfl,if_pos c,e,Option.bind_some,itree_eq n cs k (by omega),Option.bind_some]
    exact iflood_at n cs hs vs s c.1 c.2.1 c.2.2 (treeX n cs).length k 0 [] (by omega) (by simp;omega) (by omega)
  · rw [decide_eq_false c,if_neg (by decide),if_neg c]

-- LIB way
/-- A way up from a bridge: the bridges of it that have an up, and the bridge behind them. -/
inductive Ch (u : Nat → Int) (nx : Nat → Nat) : Nat → List Nat → Nat → Prop
  | nil (a : Nat) : Ch u nx a [] a
  | cons {a : Nat} {w : List Nat} {r : Nat} : 0 ≤ u a → Ch u nx (nx a) w r → Ch u nx a (a :: w) r
structure UpOk (N : Nat) (u : Nat → Int) (nx : Nat → Nat) (c : Nat → Int) : Prop where
  pos : ∀ b,b < N → 0 ≤ c b
  up : ∀ b,b < N → 0 ≤ u b → nx b < N ∧ c (nx b) < c b
theorem ch_some {N : Nat} {u : Nat → Int} {nx : Nat → Nat} {c : Nat → Int} (H : UpOk N u nx c) (S : Nat) : ∀ a,a < N → c a < S → ∃ w r,Ch u nx a w r ∧ u r < 0 ∧ r < N:=by
  induction S with
  | zero => intro a ha h;have:=H.pos a ha;omega
  | succ S ih =>
    intro a ha h
    by_cases e : 0 ≤ u a
    · obtain ⟨h1,h2⟩:=H.up a ha e
      obtain ⟨w,r,q1,q2,q3⟩:=ih (nx a) h1 (by omega)
      exact ⟨a :: w,r,Ch.cons e q1,q2,q3⟩
    · exact ⟨[],a,Ch.nil a,by omega,ha⟩
theorem ch_facts {N : Nat} {u : Nat → Int} {nx : Nat → Nat} {c : Nat → Int} (H : UpOk N u nx c) {a : Nat} {w : List Nat} {r : Nat} (h : Ch u nx a w r) : a < N → r < N ∧ c r ≤ c a ∧ (∀ x ∈ w,x < N ∧ 0 ≤ u x ∧ c x ≤ c a ∧ c r < c x) ∧ w.Nodup:=by
  induction h with
  | nil a => exact fun ha => ⟨ha,Int.le_refl _,fun x hx => (by cases hx),List.Pairwise.nil⟩
  | @cons a w r h0 hc ih =>
    intro ha
    obtain ⟨h1,h2⟩:=H.up a ha h0
    obtain ⟨i1,i2,i3,i4⟩:=ih h1
    refine ⟨i1,by omega,fun x hx => ?_,List.Pairwise.cons (fun x hx e => ?_) i4⟩
    · rcases List.mem_cons.1 hx with rfl | hx
      · exact ⟨ha,h0,Int.le_refl _,by omega⟩
      · have:=i3 x hx;omega
    · have:=i3 x hx;rw [← e] at this;omega
theorem ch_det {u : Nat → Int} {nx : Nat → Nat} {a : Nat} {w w2 : List Nat} {r r2 : Nat} (h : Ch u nx a w r) (h2 : Ch u nx a w2 r2) (hr : u r < 0) (hr2 : u r2 < 0) : w = w2 ∧ r = r2:=by
  induction h generalizing w2 with
  | nil a =>
    cases h2 with
    | nil _ => exact ⟨rfl,rfl⟩
    | cons h0 _ => omega
  | cons h0 _ ih =>
    cases h2 with
    | nil _ => omega
    | cons _ h3 => obtain ⟨rfl,e⟩:=ih h3 hr;exact ⟨rfl,e⟩
theorem ch_at {u : Nat → Int} {nx : Nat → Nat} {b : Nat} {v : List Nat} {r : Nat} (h : Ch u nx b v r) {a : Nat} (ha : a ∈ v) : ∃ q t,v = q ++ a :: t ∧ Ch u nx b q a ∧ Ch u nx a (a :: t) r:=by
  induction h with
  | nil b => cases ha
  | @cons b v r h0 hc ih =>
    by_cases e : a = b
    · subst e;exact ⟨[],v,rfl,Ch.nil a,Ch.cons h0 hc⟩
    · obtain ⟨q,t,e1,e2,e3⟩:=ih ((List.mem_cons.1 ha).resolve_left e)
      exact ⟨b :: q,t,by rw [e1];rfl,Ch.cons h0 e2,e3⟩
/-- Two ways to the same end part at one place. -/
theorem ch_meet {N : Nat} {u : Nat → Int} {nx : Nat → Nat} {c : Nat → Int} (H : UpOk N u nx c) {b : Nat} (hb : b < N) {v : List Nat} {r : Nat} (hv : Ch u nx b v r) (hr : u r < 0) {a : Nat} {w : List Nat} (hw : Ch u nx a w r) : a < N →
    ∃ p q t m,w = p ++ t ∧ v = q ++ t ∧ Ch u nx a p m ∧ Ch u nx b q m ∧ (∀ x ∈ p,x ∉ v) ∧ (∀ x ∈ q,x ∉ w):=by
  obtain ⟨v1,v2,v3,v4⟩:=ch_facts H hv hb
  induction hw with
  | nil a => exact fun ha => ⟨[],v,[],a,rfl,by simp,Ch.nil a,hv,fun x hx => (by cases hx),fun x _ hx => (by cases hx)⟩
  | @cons a w r h0 hc ih =>
    intro ha
    obtain ⟨h1,h2⟩:=H.up a ha h0
    by_cases e : a ∈ v
    · obtain ⟨q,t,e1,e2,e3⟩:=ch_at hv e
      have hd:=(ch_det e3 (Ch.cons h0 hc) hr hr).1
      rw [hd] at e1
      refine ⟨[],q,a :: w,a,rfl,e1,Ch.nil a,e2,fun x hx => (by cases hx),fun x hx hx2 => ?_⟩
      rw [e1] at v4
      exact (List.nodup_append.1 v4).2.2 x hx x hx2 rfl
    · obtain ⟨p,q,t,m,i1,i2,i3,i4,i5,i6⟩:=ih hv hr v1 v2 v3 h1
      refine ⟨a :: p,q,t,m,by rw [i1];rfl,i2,Ch.cons h0 i3,i4,fun x hx => ?_,fun x hx hx2 => ?_⟩
      · rcases List.mem_cons.1 hx with rfl | hx
        · exact e
        · exact i5 x hx
      · rcases List.mem_cons.1 hx2 with rfl | hx2
        · exact e (by rw [i2];exact List.mem_append_left _ hx)
        · exact i6 x hx hx2
theorem ch_join {u : Nat → Int} {nx : Nat → Nat} {a : Nat} {p : List Nat} {m : Nat} (h : Ch u nx a p m) {P : Nat → Prop} (hP : ∀ x ∈ p,P x ↔ P (nx x)) : P a ↔ P m:=by
  induction h with
  | nil _ => exact Iff.rfl
  | cons _ _ ih => exact (hP _ List.mem_cons_self).trans (ih (fun x hx => hP x (List.mem_cons_of_mem _ hx)))
/-- Numbers below n, each once, are at most n many. -/
theorem nodup_len (n : Nat) : ∀ l : List Nat,l.Nodup → (∀ x ∈ l,x < n) → l.length ≤ n:=by
  induction n with
  | zero =>
    intro l _ h
    cases l with
    | nil => exact Nat.le_refl _
    | cons x t => exact absurd (h x List.mem_cons_self) (by omega)
  | succ n ih =>
    intro l hn h
    have h1:=ih (l.filter (fun x => decide (x ≠ n))) (hn.filter _) (fun x hx => by
      obtain ⟨q1,q2⟩:=List.mem_filter.1 hx
      have:=h x q1
      have : x ≠ n:=of_decide_eq_true q2
      omega)
    have h2 : l.length ≤ (l.filter (fun x => decide (x ≠ n))).length + 1:=by
      have h3 : ∀ l : List Nat,l.Nodup → l.length ≤ (l.filter (fun x => decide (x ≠ n))).length + 1 ∧ (n ∉ l → l.length ≤ (l.filter (fun x => decide (x ≠ n))).length):=by
        intro l
        induction l with
        | nil => exact fun _ => ⟨Nat.zero_le _,fun _ => Nat.le_refl _⟩
        | cons x t it =>
          intro hx
          obtain ⟨g1,g2⟩:=List.nodup_cons.1 hx
          obtain ⟨j1,j2⟩:=it g2
          by_cases e : x = n
          · subst e
            rw [List.filter_cons_of_neg (by simp)]
            exact ⟨by have:=j2 g1;rw [List.length_cons];omega,fun hne => absurd List.mem_cons_self hne⟩
          · rw [List.filter_cons_of_pos (by simp [e]),List.length_cons,List.length_cons]
            exact ⟨by omega,fun hne => by have:=j2 (fun y => hne (List.mem_cons_of_mem _ y));omega⟩
      exact (h3 l hn).1
    omega
theorem upS_hit2 (cs : List S51) (o : List Int) (b : Int) (d : Nat) : ∀ (i : Nat) (best at_ : Int),i + d = cs.length → upS cs o b d i best at_ = (best,at_) ∨ (0 ≤ (upS cs o b d i best at_).1 ∧ (upS cs o b d i best at_).1 < cs.length ∧ othX (rd_T51 cs (upS cs o b d i best at_).1) b = some (upS cs o b d i best at_).2 ∧ rd o (upS cs o b d i best at_).2 + (rd_T51 cs (upS cs o b d i best at_).1).f2 = rd o b):=by
  induction d with
  | zero => exact fun _ _ _ _ => Or.inl rfl
  | succ d ih =>
    intro i best at_ h
    rw [upS]
    cases e : othX (rd_T51 cs (i : Int)) b with
    | none => exact ih (i + 1) best at_ (by omega)
    | some q =>
      simp only []
      by_cases c : rd o q + (rd_T51 cs (i : Int)).f2 = rd o b ∧ (best < 0 ∨ q < at_)
      · rw [if_pos c]
        rcases ih (i + 1) (i : Int) q (by omega) with h' | h'
        · rw [h'];exact Or.inr ⟨by omega,by simp only [];omega,e,c.1⟩
        · exact Or.inr h'
      · rw [if_neg c];exact ih (i + 1) best at_ (by omega)
/-- The bridge behind the up of a bridge. -/
def nxN (N : Nat) (cs : List S51) (b : Nat) : Nat:=(upX cs (costsN N cs) (b : Int)).2.toNat
theorem up_hit {N : Nat} {cs : List S51} (hs : SoundC cs N) (b : Nat) (h0 : 0 ≤ upN N cs b) : ∃ (K : Nat) (hK : K < cs.length),upN N cs b = (K : Int) ∧ othX cs[K] (b : Int) = some (nxN N cs b : Int) ∧ (upX cs (costsN N cs) (b : Int)).2 = (nxN N cs b : Int) ∧ nxN N cs b < N ∧ nxN N cs b ≠ b ∧ gD (costsN N cs) (nxN N cs b) + cs[K].f2 = gD (costsN N cs) b:=by
  have hu : (upS cs (costsN N cs) (b : Int) cs.length 0 (-1) (-1)).1 = upN N cs b:=rfl
  rcases upS_hit2 cs (costsN N cs) (b : Int) cs.length 0 (-1) (-1) (by omega) with h | ⟨h1,h2,h3,h4⟩
  · rw [h] at hu;simp only [] at hu;omega
  · rw [hu] at h1 h2 h3 h4
    obtain ⟨K,hK⟩:=Int.eq_ofNat_of_zero_le h0
    have hKl : K < cs.length:=by omega
    rw [hK,rdCab_get cs K hKl] at h3 h4
    obtain ⟨q0,q1,q2⟩:=oth_in (hs _ (List.getElem_mem hKl)) h3
    have e : (upS cs (costsN N cs) (b : Int) cs.length 0 (-1) (-1)).2 = (nxN N cs b : Int):=by
      have : nxN N cs b = (upS cs (costsN N cs) (b : Int) cs.length 0 (-1) (-1)).2.toNat:=rfl
      omega
    rw [e] at h3 h4
    rw [rd_gD,rd_gD] at h4
    exact ⟨K,hKl,hK,h3,e,by omega,by omega,h4⟩
theorem oth_ends {c : S51} {b q : Int} (e : othX c b = some q) : (b = c.f0 ∧ q = c.f1) ∨ (b = c.f1 ∧ q = c.f0):=by
  unfold othX at e
  split at e
  · rename_i w;injection e with e;exact Or.inl ⟨w,e.symm⟩
  · split at e
    · rename_i w;injection e with e;exact Or.inr ⟨w,e.symm⟩
    · cases e
theorem up_once2 {N : Nat} {cs : List S51} (hs : SoundC cs N) (b b2 : Nat) (h0 : 0 ≤ upN N cs b) (e : upN N cs b = upN N cs b2) : b = b2:=by
  obtain ⟨K,hK,k1,k2,_,_,_,k3⟩:=up_hit hs b h0
  obtain ⟨L,hL,l1,l2,_,_,_,l3⟩:=up_hit hs b2 (by omega)
  obtain rfl : K = L:=by omega
  have hok:=hs _ (List.getElem_mem hK)
  rcases oth_ends k2 with ⟨y1,y2⟩ | ⟨y1,y2⟩ <;> rcases oth_ends l2 with ⟨z1,z2⟩ | ⟨z1,z2⟩
  · omega
  · have e1 : nxN N cs b = b2:=by omega
    have e2 : nxN N cs b2 = b:=by omega
    rw [e1] at k3;rw [e2] at l3;omega
  · have e1 : nxN N cs b = b2:=by omega
    have e2 : nxN N cs b2 = b:=by omega
    rw [e1] at k3;rw [e2] at l3;omega
  · omega
theorem upOk_of {N : Nat} {cs : List S51} (hv : cabsB (N : Int) cs = true) : UpOk N (upN N cs) (nxN N cs) (gD (costsN N cs)):=by
  have hs:=sound_of hv
  refine ⟨fun b hb => ((costs_ok hv).2 b hb).1,fun b hb h0 => ?_⟩
  obtain ⟨K,hK,k1,k2,_,k4,_,k3⟩:=up_hit hs b h0
  have:=hs _ (List.getElem_mem hK)
  exact ⟨k4,by omega⟩
/-- The way up from a bridge to its root. -/
theorem way_up {N : Nat} {cs : List S51} (hv : cabsB (N : Int) cs = true) {a : Nat} (ha : a < N) : ∃ w r,Ch (upN N cs) (nxN N cs) a w r ∧ upN N cs r < 0 ∧ r < N ∧ gD (rootsL N cs) a = (r : Int) ∧ w.Nodup ∧ w.length < N ∧ (∀ x ∈ w,x < N ∧ 0 ≤ upN N cs x ∧ gD (rootsL N cs) x = (r : Int)) ∧ r ∉ w:=by
  have hs:=sound_of hv
  obtain ⟨f1,f2,f3,f4⟩:=cabsB_facts hv
  have H:=upOk_of hv
  have hle:=(costs_ok hv).2 a ha
  have hc:=cabOk_of hv
  have hrl:=rootsL_len N cs
  obtain ⟨w,r,q1,q2,q3⟩:=ch_some H 800 a ha (by omega)
  obtain ⟨g1,g2,g3,g4⟩:=ch_facts H q1 ha
  have hrr:=up_root (by omega) hs q3 q2
  have hstep : ∀ x,x < N → 0 ≤ upN N cs x → gD (rootsL N cs) x = gD (rootsL N cs) (nxN N cs x):=by
    intro x hx h0
    obtain ⟨K,hK,k1,k2,_,k4,_,k3⟩:=up_hit hs x h0
    rw [gD_get _ _ (by omega),gD_get _ _ (by omega)]
    refine (roots_join hc hx k4).2 ?_
    have hcl:=jnB_closed hc hx cs[K] (List.getElem_mem hK)
    have hself:=jnB_self hc hx
    rcases oth_ends k2 with ⟨y1,y2⟩ | ⟨y1,y2⟩
    · rw [← y1,← y2,Int.toNat_natCast,Int.toNat_natCast] at hcl;exact hcl.1 hself
    · rw [← y1,← y2,Int.toNat_natCast,Int.toNat_natCast] at hcl;exact hcl.2 hself
  have hall : ∀ {y : Nat} {v : List Nat},Ch (upN N cs) (nxN N cs) y v r → y < N → gD (rootsL N cs) y = (r : Int) ∧ ∀ x ∈ v,gD (rootsL N cs) x = (r : Int):=by
    intro y v h
    clear q1 g2 g3 g4
    induction h with
    | nil _ => exact fun _ => ⟨hrr,fun x hx => by cases hx⟩
    | @cons y v r h0 hc' ih =>
      intro hy
      obtain ⟨i1,i2⟩:=ih q2 q3 g1 hrr (H.up y hy h0).1
      have e:=hstep y hy h0
      exact ⟨by rw [e,i1],fun x hx => by
        rcases List.mem_cons.1 hx with rfl | hx
        · rw [e,i1]
        · exact i2 x hx⟩
  obtain ⟨a1,a2⟩:=hall q1 ha
  have hrw : r ∉ w:=fun hx => by have:=(g3 r hx).2.2.2;omega
  have hlen:=nodup_len N (r :: w) (List.Pairwise.cons (fun x hx e => hrw (e ▸ hx)) g4) (fun x hx => by
    rcases List.mem_cons.1 hx with rfl | hx
    · exact q3
    · exact (g3 x hx).1)
  rw [List.length_cons] at hlen
  exact ⟨w,r,q1,q2,q3,a1,g4,by omega,fun x hx => ⟨(g3 x hx).1,(g3 x hx).2.1,a2 x hx⟩,hrw⟩

-- LIB hasl
/-- A number is in a list. -/
def hasL (l : List Int) (x : Int) : Bool:=l.any fun y => decide (y = x)
theorem hasL_cons (y : Int) (l : List Int) (x : Int) : hasL (y :: l) x = (decide (y = x) || hasL l x):=rfl
theorem hasL_iff (l : List Int) (x : Int) : hasL l x = true ↔ x ∈ l:=by
  unfold hasL
  rw [List.any_eq_true]
  constructor
  · rintro ⟨y,h,e⟩
    rw [← of_decide_eq_true e];exact h
  · intro h
    exact ⟨x,h,decide_eq_true rfl⟩

-- LIB way2
/-- The way up from a bridge, followed so far. -/
def chL (u : Nat → Int) (nx : Nat → Nat) : Nat → Nat → List Nat
  | 0,_ => []
  | f + 1,a => if 0 ≤ u a then a :: chL u nx f (nx a) else []
theorem chL_eq {u : Nat → Int} {nx : Nat → Nat} {a : Nat} {w : List Nat} {r : Nat} (h : Ch u nx a w r) (hr : u r < 0) : ∀ f,w.length < f → chL u nx f a = w:=by
  induction h with
  | nil a =>
    intro f hf
    obtain ⟨f,rfl⟩ : ∃ m,f = m + 1:=⟨f - 1,by omega⟩
    rw [chL,if_neg (by omega)]
  | @cons a w r h0 hc ih =>
    intro f hf
    rw [List.length_cons] at hf
    obtain ⟨f,rfl⟩ : ∃ m,f = m + 1:=⟨f - 1,by omega⟩
    rw [chL,if_pos h0,ih hr f (by omega)]
/-- The cables up from a bridge. -/
def upsL (N : Nat) (cs : List S51) (a : Nat) : List Int:=(chL (upN N cs) (nxN N cs) 50 a).map (upN N cs)
theorem iups_l0 {N : Nat} {cs : List S51} (hv : cabsB (N : Int) cs = true) (hs vs : List Int) {a r : Nat} {w : List Nat} (h : Ch (upN N cs) (nxN N cs) a w r) (hr : upN N cs r < 0) : a < N → ∀ (k : Nat) (acc : List Int),acc.length + w.length ≤ 1000 → w.length + 400 < k →
    impl_Net_ups.l0 k (a : Int) (costsN N cs) acc (N : Int) cs hs vs = some (acc ++ w.map (upN N cs)):=by
  obtain ⟨f1,f2,f3,f4⟩:=cabsB_facts hv
  have hso:=sound_of hv
  induction h with
  | nil a =>
    intro ha k acc h1 hk
    obtain ⟨k,rfl⟩ : ∃ m,k = m + 1:=⟨k - 1,by omega⟩
    have hu : (upX cs (costsN N cs) (a : Int)).1 = upN N cs a:=rfl
    simp only [impl_Net_ups.l0]
    rw [iup_eq hso (by omega) (costs_ok hv) ha k (by omega),Option.bind_some,hu,if_pos hr,List.map_nil,List.append_nil]
  | @cons a w r h0 hc ih =>
    intro ha k acc h1 hk
    rw [List.length_cons] at h1 hk
    obtain ⟨k,rfl⟩ : ∃ m,k = m + 1:=⟨k - 1,by omega⟩
    have hu : (upX cs (costsN N cs) (a : Int)).1 = upN N cs a:=rfl
    obtain ⟨K,hK,k1,k2,k3,k4,_,_⟩:=up_hit hso a h0
    simp only [impl_Net_ups.l0]
    rw [iup_eq hso (by omega) (costs_ok hv) ha k (by omega),Option.bind_some,hu,if_neg (by omega),if_pos (by omega),k3,ih hr k4 k _ (by rw [List.length_append];simp only [List.length_cons,List.length_nil];omega) (by omega),List.append_assoc,List.map_cons]
    rfl
theorem iups_eq {N : Nat} {cs : List S51} (hv : cabsB (N : Int) cs = true) (hs vs : List Int) {a : Nat} (ha : a < N) (k : Nat) (hk : 500 < k) : impl_Net_ups.f k (N : Int) cs hs vs (a : Int) = some (upsL N cs a):=by
  obtain ⟨f1,f2,f3,f4⟩:=cabsB_facts hv
  obtain ⟨w,r,q1,q2,q3,q4,q5,q6,q7,q8⟩:=way_up hv ha
  unfold impl_Net_ups.f upsL
  rw [icosts_eq N cs hv k (by omega),Option.bind_some,chL_eq q1 q2 50 (by omega)]
  exact iups_l0 hv hs vs q1 q2 ha k [] (by simp;omega) (by omega)
/-- The marks of cables. -/
def mkB (m : List Bool) : List Int → List Bool
  | [] => m
  | x :: l => mkB (m.set x.toNat true) l
theorem mkB_len (l : List Int) : ∀ m,(mkB m l).length = m.length:=by
  induction l with
  | nil => exact fun _ => rfl
  | cons x l ih => intro m;rw [mkB,ih,List.length_set]
theorem mkB_get (l : List Int) : ∀ m : List Bool,(∀ x ∈ l,0 ≤ x ∧ x < m.length) → ∀ i : Nat,i < m.length → rdOf false (mkB m l) (i : Int) = (rdOf false m (i : Int) || hasL l (i : Int)):=by
  induction l with
  | nil => intro m _ i _;rw [mkB];simp [hasL]
  | cons x l ih =>
    intro m h i hi
    have hx:=h x List.mem_cons_self
    rw [mkB,ih _ (fun y hy => by have:=h y (List.mem_cons_of_mem _ hy);rw [List.length_set];omega) i (by rw [List.length_set];exact hi),hasL_cons]
    obtain ⟨X,rfl⟩:=Int.eq_ofNat_of_zero_le hx.1
    have e : rdOf false (m.set (X : Int).toNat true) (i : Int) = (rdOf false m (i : Int) || decide ((X : Int) = (i : Int))):=by
      rw [Int.toNat_natCast,rdB_get _ i (by rw [List.length_set];exact hi),rdB_get _ i hi,List.getElem_set]
      by_cases e : X = i
      · rw [if_pos e];simp [e]
      · rw [if_neg e,decide_eq_false (by omega),Bool.or_false]
    rw [e,Bool.or_assoc]
theorem sups_l0 {N : Nat} {cs : List S51} (hv : cabsB (N : Int) cs = true) (hs vs : List Int) {a r : Nat} {w : List Nat} (h : Ch (upN N cs) (nxN N cs) a w r) (hr : upN N cs r < 0) : a < N → ∀ (k : Nat) (m : List Bool),m.length = cs.length → w.length + 400 < k →
    spec_l19Up.l0 k (a : Int) m (costsN N cs) (upN N cs a) (N : Int) cs hs vs = some (mkB m (w.map (upN N cs))):=by
  obtain ⟨f1,f2,f3,f4⟩:=cabsB_facts hv
  have hso:=sound_of hv
  induction h with
  | nil a =>
    intro ha k m h1 hk
    obtain ⟨k,rfl⟩ : ∃ m,k = m + 1:=⟨k - 1,by omega⟩
    simp only [spec_l19Up.l0]
    rw [if_neg (by omega)]
    rfl
  | @cons a w r h0 hc ih =>
    intro ha k m h1 hk
    rw [List.length_cons] at hk
    obtain ⟨k,rfl⟩ : ∃ m,k = m + 1:=⟨k - 1,by omega⟩
    obtain ⟨K,hK,k1,k2,k3,k4,_,_⟩:=up_hit hso a h0
    have hu : (upX cs (costsN N cs) (nxN N cs a : Int)).1 = upN N cs (nxN N cs a):=rfl
    simp only [spec_l19Up.l0]
    rw [if_pos h0,if_pos h0,k1,if_pos (by omega),if_pos (by omega),rdCab_get cs K hK,sother_eq,Option.bind_some,k2,Option.getD_some,sup_eq hso (by omega) (costs_ok hv) k4 k (by omega),Option.bind_some,hu,ih hr k4 k _ (by rw [List.length_set];exact h1) (by omega),List.map_cons,mkB,k1]
theorem sups_eq {N : Nat} {cs : List S51} (hv : cabsB (N : Int) cs = true) (hs vs : List Int) {a : Nat} (ha : a < N) (k : Nat) (hk : 600 < k) : spec_l19Up.f k (N : Int) cs hs vs (a : Int) = some (mkB (List.replicate cs.length false) (upsL N cs a)):=by
  obtain ⟨f1,f2,f3,f4⟩:=cabsB_facts hv
  obtain ⟨w,r,q1,q2,q3,q4,q5,q6,q7,q8⟩:=way_up hv ha
  have hu : (upX cs (costsN N cs) (a : Int)).1 = upN N cs a:=rfl
  unfold spec_l19Up.f upsL
  rw [if_pos (by omega),if_pos (by rw [Int.toNat_natCast];omega),scosts_eq N cs hv k (by omega),Option.bind_some,sup_eq (sound_of hv) (by omega) (costs_ok hv) ha k (by omega),Option.bind_some,hu,Int.toNat_natCast,chL_eq q1 q2 50 (by omega)]
  exact sups_l0 hv hs vs q1 q2 ha k _ (by simp) (by omega)
theorem slist_l0 (m : List Bool) (hm : m.length ≤ 1000000) (p : Int → Bool) (hp : ∀ i : Nat,i < m.length → p (i : Int) = rdOf false m (i : Int)) (d : Nat) : ∀ (k i : Nat) (acc : List Int),i + d = m.length → acc.length + d ≤ 1000000 → d < k →
    spec_l19List.l0 k m acc (i : Int) = some (acc ++ filM p d (i : Int)):=by
  induction d with
  | zero =>
    intro k i acc h1 h2 hk
    obtain ⟨k,rfl⟩ : ∃ m,k = m + 1:=⟨k - 1,by omega⟩
    simp only [spec_l19List.l0]
    rw [if_neg (by omega),filM,List.append_nil]
  | succ d ih =>
    intro k i acc h1 h2 hk
    obtain ⟨k,rfl⟩ : ∃ m,k = m + 1:=⟨k - 1,by omega⟩
    have hi : i < m.length:=by omega
    simp only [spec_l19List.l0]
    rw [if_pos (by omega),if_pos (by omega),wrap_succ hi (by omega),filM,hp i hi]
    by_cases c : rdOf false m (i : Int) = true
    · rw [if_pos c,if_pos c,if_pos (by omega),ih k (i + 1) _ (by omega) (by simp;omega) (by omega),List.append_assoc];rfl
    · rw [if_neg c,if_neg c,ih k (i + 1) acc (by omega) (by omega) (by omega)];rfl
theorem slist_eq (m : List Bool) (hm : m.length ≤ 1000000) (p : Int → Bool) (hp : ∀ i : Nat,i < m.length → p (i : Int) = rdOf false m (i : Int)) (k : Nat) (hk : m.length < k) : spec_l19List.f k m = some (filM p m.length 0) :=
  slist_l0 m hm p hp m.length k 0 [] (by omega) (by simp;omega) hk
theorem sway_l0 (y : List Bool) (M : Nat) (hM : M ≤ 1000) (hy : y.length = M) (p : Int → Bool) (d : Nat) : ∀ (k i : Nat) (x : List Bool),i + d = M → x.length = M → (∀ j : Nat,j < i → p (j : Int) = rdOf false x (j : Int)) → (∀ j : Nat,i ≤ j → j < M → p (j : Int) = (rdOf false x (j : Int) != rdOf false y (j : Int))) → d + M + 2 < k →
    spec_TreeWay.l0 k x y (i : Int) = some (filM p M 0):=by
  induction d with
  | zero =>
    intro k i x h1 h2 h3 h4 hk
    obtain ⟨k,rfl⟩ : ∃ m,k = m + 1:=⟨k - 1,by omega⟩
    simp only [spec_TreeWay.l0]
    rw [if_neg (by omega),slist_eq x (by omega) p (fun j hj => h3 j (by omega)) k (by omega),Option.bind_some,h2]
  | succ d ih =>
    intro k i x h1 h2 h3 h4 hk
    obtain ⟨k,rfl⟩ : ∃ m,k = m + 1:=⟨k - 1,by omega⟩
    simp only [spec_TreeWay.l0]
    rw [if_pos (by omega),if_pos (by omega),if_pos (by omega),wrap_succ (show i < M by omega) (by omega)]
    have hset : ∀ j : Nat,j < M → rdOf false (x.set ((i : Int).toNat) (rdOf false x (i : Int) != rdOf false y (i : Int))) (j : Int) = if j = i then (rdOf false x (i : Int) != rdOf false y (i : Int)) else rdOf false x (j : Int):=by
      intro j hj
      rw [Int.toNat_natCast,rdB_get _ j (by rw [List.length_set];omega),rdB_get x j (by omega),List.getElem_set]
      by_cases e : i = j
      · rw [if_pos e,if_pos e.symm]
      · rw [if_neg e,if_neg (fun h => e h.symm)]
    refine ih k (i + 1) _ (by omega) (by rw [List.length_set];exact h2) (fun j hj => ?_) (fun j hj hj2 => ?_) (by omega)
    · rw [hset j (by omega)]
      by_cases e : j = i
      · rw [if_pos e,e];exact h4 i (by omega) (by omega)
      · rw [if_neg e];exact h3 j (by omega)
    · rw [hset j hj2,if_neg (by omega)];exact h4 j (by omega) hj2

-- LIB way3
theorem iindex_at (l : List Int) (x : Int) (hl : l.length ≤ 1000000) (d : Nat) : ∀ (k i : Nat),i + d = l.length → d < k → ∃ z,slices_Index_int_int.l0 k l x l.length (i : Int) = some z ∧ decide (z ≥ 0) = hasL (l.drop i) x:=by
  induction d with
  | zero =>
    intro k i h1 hk
    obtain ⟨k,rfl⟩ : ∃ m,k = m + 1:=⟨k - 1,by omega⟩
    simp only [slices_Index_int_int.l0]
    rw [if_neg (by omega),List.drop_of_length_le (by omega)]
    exact ⟨-1,rfl,rfl⟩
  | succ d ih =>
    intro k i h1 hk
    obtain ⟨k,rfl⟩ : ∃ m,k = m + 1:=⟨k - 1,by omega⟩
    have hi : i < l.length:=by omega
    simp only [slices_Index_int_int.l0]
    rw [if_pos (by omega),if_pos (by omega),if_pos (by omega),rd_get l i hi,wrap_succ hi (by omega),List.drop_eq_getElem_cons hi,hasL_cons]
    by_cases c : x = l[i]
    · rw [if_pos c,decide_eq_true c.symm,Bool.true_or]
      exact ⟨(i : Int),rfl,decide_eq_true (by omega)⟩
    · rw [if_neg c,decide_eq_false (fun h => c h.symm),Bool.false_or]
      exact ih k (i + 1) (by omega) (by omega)
theorem icontains_eq (l : List Int) (x : Int) (hl : l.length ≤ 1000000) (k : Nat) (hk : l.length < k) : slices_Contains_int_int.f k l x = some (hasL l x):=by
  obtain ⟨z,h1,h2⟩:=iindex_at l x hl l.length k 0 (by omega) hk
  unfold slices_Contains_int_int.f slices_Index_int_int.f
  rw [show (slices_Index_int_int.l0 k l x (l.length : Int) 0) = some z from h1,Option.bind_some,h2,List.drop_zero]
theorem iway_l1 (x y : List Int) (hx : x.length ≤ 100) (hy : y.length ≤ 100) (d : Nat) : ∀ (k i : Nat) (acc : List Int),i + d = y.length → acc.length + d ≤ 1000 → d + 200 < k →
    impl_TreeWay.l1 k x acc y y.length (i : Int) = (slices_Sort_int_int.f (k - d - 1) (acc ++ (y.drop i).filter (fun c => !hasL x c))).bind fun t => some t:=by
  induction d with
  | zero =>
    intro k i acc h1 h2 hk
    obtain ⟨k,rfl⟩ : ∃ m,k = m + 1:=⟨k - 1,by omega⟩
    simp only [impl_TreeWay.l1]
    rw [if_neg (by omega),List.drop_of_length_le (by omega),List.filter_nil,List.append_nil]
    rfl
  | succ d ih =>
    intro k i acc h1 h2 hk
    obtain ⟨k,rfl⟩ : ∃ m,k = m + 1:=⟨k - 1,by omega⟩
    have hi : i < y.length:=by omega
    simp only [impl_TreeWay.l1]
    rw [if_pos (by omega),if_pos (by omega),if_pos (by omega),rd_get y i hi,icontains_eq x _ (by omega) k (by omega),Option.bind_some,wrap_succ hi (by omega),List.drop_eq_getElem_cons hi,show k + 1 - (d + 1) - 1 = k - d - 1 by omega]
    cases c : hasL x y[i] with
    | true => rw [if_pos rfl,List.filter_cons_of_neg (by simp [c])];exact ih k (i + 1) acc (by omega) (by omega) (by omega)
    | false => rw [if_neg (by decide),if_pos (by omega),List.filter_cons_of_pos (by simp [c]),ih k (i + 1) _ (by omega) (by simp;omega) (by omega),List.append_assoc];rfl
theorem iway_l0 (x y : List Int) (hx : x.length ≤ 100) (hy : y.length ≤ 100) (d : Nat) : ∀ (k i : Nat) (acc : List Int),i + d = x.length → acc.length + d ≤ 1000 → d + 200 < k →
    impl_TreeWay.l0 k x y acc x x.length (i : Int) = impl_TreeWay.l1 (k - d - 1) x (acc ++ (x.drop i).filter (fun c => !hasL y c)) y y.length 0:=by
  induction d with
  | zero =>
    intro k i acc h1 h2 hk
    obtain ⟨k,rfl⟩ : ∃ m,k = m + 1:=⟨k - 1,by omega⟩
    simp only [impl_TreeWay.l0]
    rw [if_neg (by omega),List.drop_of_length_le (by omega),List.filter_nil,List.append_nil]
    rfl
  | succ d ih =>
    intro k i acc h1 h2 hk
    obtain ⟨k,rfl⟩ : ∃ m,k = m + 1:=⟨k - 1,by omega⟩
    have hi : i < x.length:=by omega
    simp only [impl_TreeWay.l0]
    rw [if_pos (by omega),if_pos (by omega),if_pos (by omega),rd_get x i hi,icontains_eq y _ (by omega) k (by omega),Option.bind_some,wrap_succ hi (by omega),List.drop_eq_getElem_cons hi,show k + 1 - (d + 1) - 1 = k - d - 1 by omega]
    cases c : hasL y x[i] with
    | true => rw [if_pos rfl,List.filter_cons_of_neg (by simp [c])];exact ih k (i + 1) acc (by omega) (by omega) (by omega)
    | false => rw [if_neg (by decide),if_pos (by omega),List.filter_cons_of_pos (by simp [c]),ih k (i + 1) _ (by omega) (by simp;omega) (by omega),List.append_assoc];rfl
theorem filM_asc (p : Int → Bool) (d : Nat) : ∀ i,(filM p d i).Pairwise (· < ·):=by
  induction d with
  | zero => exact fun _ => List.Pairwise.nil
  | succ d ih =>
    intro i
    rw [filM]
    split
    · exact List.Pairwise.cons (fun x hx => by have:=((filM_mem p d (i + 1) x).1 hx).1;omega) (ih (i + 1))
    · exact ih (i + 1)
def wayB (N : Nat) (cs : List S51) (a b : Nat) (i : Int) : Bool:=hasL (upsL N cs a) i != hasL (upsL N cs b) i
theorem wayB_comm (N : Nat) (cs : List S51) (a b : Nat) (i : Int) : wayB N cs a b i = wayB N cs b a i:=by unfold wayB;cases hasL (upsL N cs a) i <;> cases hasL (upsL N cs b) i <;> rfl
theorem map_filter_not {u : Nat → Int} {p t v : List Nat} (hu : ∀ x ∈ p ++ t,∀ y ∈ v,u x = u y → x = y) (hp : ∀ x ∈ p,x ∉ v) (ht : ∀ x ∈ t,x ∈ v) : ((p ++ t).map u).filter (fun c => !hasL (v.map u) c) = p.map u:=by
  rw [List.map_append,List.filter_append]
  have h1 : (p.map u).filter (fun c => !hasL (v.map u) c) = p.map u:=by
    rw [List.filter_eq_self]
    intro c hc
    obtain ⟨x,hx,rfl⟩:=List.mem_map.1 hc
    cases e : hasL (v.map u) (u x) with
    | false => rfl
    | true =>
      obtain ⟨y,hy,hxy⟩:=List.mem_map.1 ((hasL_iff _ _).1 e)
      have:=hu x (List.mem_append_left _ hx) y hy hxy.symm
      exact absurd (this ▸ hy) (hp x hx)
  have h2 : (t.map u).filter (fun c => !hasL (v.map u) c) = []:=by
    rw [List.filter_eq_nil_iff]
    intro c hc
    obtain ⟨x,hx,rfl⟩:=List.mem_map.1 hc
    rw [(hasL_iff _ _).2 (List.mem_map.2 ⟨x,ht x hx,rfl⟩)]
    decide
  rw [h1,h2,List.append_nil]
theorem nodup_map {u : Nat → Int} {l : List Nat} (h : l.Nodup) (hu : ∀ x ∈ l,∀ y ∈ l,u x = u y → x = y) : (l.map u).Nodup:=by
  induction l with
  | nil => exact List.Pairwise.nil
  | cons x l ih =>
    obtain ⟨h1,h2⟩:=List.nodup_cons.1 h
    rw [List.map_cons,List.nodup_cons]
    refine ⟨fun hm => ?_,ih h2 (fun y hy z hz => hu y (List.mem_cons_of_mem _ hy) z (List.mem_cons_of_mem _ hz))⟩
    obtain ⟨y,hy,e⟩:=List.mem_map.1 hm
    exact h1 ((hu x List.mem_cons_self y (List.mem_cons_of_mem _ hy) e.symm) ▸ hy)
/-- The two parts of the way between two bridges of one tree. -/
theorem way_parts {N : Nat} {cs : List S51} (hv : cabsB (N : Int) cs = true) {a b : Nat} (ha : a < N) (hb : b < N) (hr : gD (rootsL N cs) a = gD (rootsL N cs) b) : ∃ p q m,(upsL N cs a).filter (fun c => !hasL (upsL N cs b) c) = p.map (upN N cs) ∧ (upsL N cs b).filter (fun c => !hasL (upsL N cs a) c) = q.map (upN N cs) ∧
    Ch (upN N cs) (nxN N cs) a p m ∧ Ch (upN N cs) (nxN N cs) b q m ∧ p.length + q.length < N ∧ (∀ x ∈ p ++ q,x < N ∧ 0 ≤ upN N cs x ∧ gD (rootsL N cs) x = gD (rootsL N cs) a) ∧ ((p ++ q).map (upN N cs)).Nodup ∧ (∀ i,wayB N cs a b i = hasL ((p ++ q).map (upN N cs)) i):=by
  have hs:=sound_of hv
  obtain ⟨f1,f2,f3,f4⟩:=cabsB_facts hv
  obtain ⟨w,r,q1,q2,q3,q4,q5,q6,q7,q8⟩:=way_up hv ha
  obtain ⟨v,r2,g1,g2,g3,g4,g5,g6,g7,g8⟩:=way_up hv hb
  obtain rfl : r = r2:=by omega
  obtain ⟨p,q,t,m,rfl,rfl,m3,m4,m5,m6⟩:=ch_meet (upOk_of hv) hb g1 g2 q1 ha
  have eu : upsL N cs a = (p ++ t).map (upN N cs):=by unfold upsL;rw [chL_eq q1 q2 50 (by omega)]
  have ev : upsL N cs b = (q ++ t).map (upN N cs):=by unfold upsL;rw [chL_eq g1 g2 50 (by omega)]
  have h1:=map_filter_not (u:=upN N cs) (p:=p) (t:=t) (v:=q ++ t) (fun x hx y _ e => up_once2 hs x y (q7 x hx).2.1 e) m5 (fun x hx => List.mem_append_right _ hx)
  have h2:=map_filter_not (u:=upN N cs) (p:=q) (t:=t) (v:=p ++ t) (fun x hx y _ e => up_once2 hs x y (g7 x hx).2.1 e) m6 (fun x hx => List.mem_append_right _ hx)
  have hmem : ∀ x ∈ p ++ q,x < N ∧ 0 ≤ upN N cs x ∧ gD (rootsL N cs) x = gD (rootsL N cs) a ∧ x ≠ r:=by
    intro x hx
    rcases List.mem_append.1 hx with hx | hx
    · have hx2:=List.mem_append_left t hx
      have:=q7 x hx2
      exact ⟨this.1,this.2.1,by omega,fun e => q8 (e ▸ hx2)⟩
    · have hx2:=List.mem_append_left t hx
      have:=g7 x hx2
      exact ⟨this.1,this.2.1,by omega,fun e => g8 (e ▸ hx2)⟩
  have hnd : (p ++ q).Nodup:=by
    rw [List.nodup_append]
    refine ⟨(List.nodup_append.1 q5).1,(List.nodup_append.1 g5).1,fun x hx y hy e => ?_⟩
    subst e
    exact m5 x hx (List.mem_append_left _ hy)
  have hlen:=nodup_len N (r :: (p ++ q)) (List.Pairwise.cons (fun x hx e => (hmem x hx).2.2.2 e.symm) hnd) (fun x hx => by
    rcases List.mem_cons.1 hx with rfl | hx
    · exact q3
    · exact (hmem x hx).1)
  rw [List.length_cons,List.length_append] at hlen
  refine ⟨p,q,m,by rw [eu,ev];exact h1,by rw [eu,ev];exact h2,m3,m4,by omega,fun x hx => ⟨(hmem x hx).1,(hmem x hx).2.1,(hmem x hx).2.2.1⟩,nodup_map hnd (fun x hx y _ e => up_once2 hs x y (hmem x hx).2.1 e),fun i => ?_⟩
  unfold wayB
  rw [eu,ev]
  rw [Bool.eq_iff_iff,hasL_iff,bne_iff_ne]
  have key : ∀ x ∈ p ++ q,∀ y ∈ p ++ t ++ q,upN N cs x = upN N cs y → x = y:=fun x hx y _ e => up_once2 hs x y (hmem x hx).2.1 e
  constructor
  · intro hne
    by_cases c1 : i ∈ (p ++ t).map (upN N cs)
    · by_cases c2 : i ∈ (q ++ t).map (upN N cs)
      · exact absurd (by rw [(hasL_iff _ _).2 c1,(hasL_iff _ _).2 c2]) hne
      · obtain ⟨x,hx,rfl⟩:=List.mem_map.1 c1
        rcases List.mem_append.1 hx with hx | hx
        · exact List.mem_map.2 ⟨x,List.mem_append_left _ hx,rfl⟩
        · exact absurd (List.mem_map.2 ⟨x,List.mem_append_right _ hx,rfl⟩) c2
    · by_cases c2 : i ∈ (q ++ t).map (upN N cs)
      · obtain ⟨x,hx,rfl⟩:=List.mem_map.1 c2
        rcases List.mem_append.1 hx with hx | hx
        · exact List.mem_map.2 ⟨x,List.mem_append_right _ hx,rfl⟩
        · exact absurd (List.mem_map.2 ⟨x,List.mem_append_right _ hx,rfl⟩) c1
      · refine absurd ?_ hne
        have e1 : hasL ((p ++ t).map (upN N cs)) i = false:=Bool.eq_false_iff.2 (fun h => c1 ((hasL_iff _ _).1 h))
        have e2 : hasL ((q ++ t).map (upN N cs)) i = false:=Bool.eq_false_iff.2 (fun h => c2 ((hasL_iff _ _).1 h))
        rw [e1,e2]
  · intro hm
    obtain ⟨x,hx,rfl⟩:=List.mem_map.1 hm
    rcases List.mem_append.1 hx with hx | hx
    · have e1:=(hasL_iff ((p ++ t).map (upN N cs)) _).2 (List.mem_map.2 ⟨x,List.mem_append_left _ hx,rfl⟩)
      have e2 : hasL ((q ++ t).map (upN N cs)) (upN N cs x) = false:=Bool.eq_false_iff.2 (fun h => by
        obtain ⟨y,hy,e⟩:=List.mem_map.1 ((hasL_iff _ _).1 h)
        have:=up_once2 hs x y (hmem x (List.mem_append_left _ hx)).2.1 e.symm
        exact m5 x hx (this ▸ hy))
      rw [e1,e2];decide
    · have e2:=(hasL_iff ((q ++ t).map (upN N cs)) _).2 (List.mem_map.2 ⟨x,List.mem_append_left _ hx,rfl⟩)
      have e1 : hasL ((p ++ t).map (upN N cs)) (upN N cs x) = false:=Bool.eq_false_iff.2 (fun h => by
        obtain ⟨y,hy,e⟩:=List.mem_map.1 ((hasL_iff _ _).1 h)
        have:=up_once2 hs x y (hmem x (List.mem_append_right _ hx)).2.1 e.symm
        exact m6 x hx (this ▸ hy))
      rw [e1,e2];decide
/-- The cables of the tree between two stations. -/
def wayX (n : Int) (cs : List S51) (hs vs : List Int) (a b : Int) : List Int:=if netB n cs hs vs = true ∧ (0 ≤ a ∧ a < hs.length) ∧ (0 ≤ b ∧ b < hs.length) ∧ rd (rootsL n.toNat cs) (rd hs a) = rd (rootsL n.toNat cs) (rd hs b) then filM (wayB n.toNat cs (rd hs a).toNat (rd hs b).toNat) cs.length 0 else []
/-- What is told of two stations that are joined. -/
theorem way_facts {n : Int} {cs : List S51} {hs vs : List Int} {a b : Int} (h : netB n cs hs vs = true) (ha : 0 ≤ a ∧ a < hs.length) (hb : 0 ≤ b ∧ b < hs.length) : ∃ (N A B : Nat),n = (N : Int) ∧ N ≤ 8 ∧ cs.length ≤ 20 ∧ hs.length ≤ 15 ∧ cabsB (N : Int) cs = true ∧ A < N ∧ B < N ∧ rd hs a = (A : Int) ∧ rd hs b = (B : Int):=by
  obtain ⟨q1,q2,q3,q4⟩:=netB_facts h
  obtain ⟨p1,p2,p3,p4⟩:=cabsB_facts q1
  obtain ⟨N,rfl⟩ : ∃ N : Nat,n = (N : Int):=⟨n.toNat,by omega⟩
  obtain ⟨x,hx⟩:=Int.eq_ofNat_of_zero_le ha.1
  obtain ⟨y,hy⟩:=Int.eq_ofNat_of_zero_le hb.1
  have hx2 : x < hs.length:=by omega
  have hy2 : y < hs.length:=by omega
  have g1:=q4 _ (List.getElem_mem hx2)
  have g2:=q4 _ (List.getElem_mem hy2)
  exact ⟨N,(hs[x]).toNat,(hs[y]).toNat,rfl,by omega,p3,q2,q1,by omega,by omega,by rw [hx,rd_get hs x hx2];omega,by rw [hy,rd_get hs y hy2];omega⟩
theorem filM_mem0 (p : Int → Bool) (M : Nat) (x : Int) : x ∈ filM p M 0 ↔ 0 ≤ x ∧ x < M ∧ p x = true:=by
  have:=filM_mem p M 0 x
  rw [this]
  constructor
  · rintro ⟨h1,h2,h3⟩;exact ⟨h1,by omega,h3⟩
  · rintro ⟨h1,h2,h3⟩;exact ⟨h1,by omega,h3⟩
theorem way_perm {N : Nat} {cs : List S51} (hv : cabsB (N : Int) cs = true) {a b : Nat} {l : List Nat} (h1 : ∀ x ∈ l,0 ≤ upN N cs x) (h2 : (l.map (upN N cs)).Nodup) (h3 : ∀ i,wayB N cs a b i = hasL (l.map (upN N cs)) i) : (l.map (upN N cs)).Perm (filM (wayB N cs a b) cs.length 0):=by
  refine (List.perm_ext_iff_of_nodup h2 ((filM_asc _ _ _).imp (fun h e => by omega))).2 (fun i => ?_)
  rw [filM_mem0,h3,hasL_iff]
  constructor
  · intro hm
    refine ⟨?_,?_,hm⟩
    · obtain ⟨x,hx,rfl⟩:=List.mem_map.1 hm;exact h1 x hx
    · obtain ⟨x,hx,rfl⟩:=List.mem_map.1 hm;exact (upX_lt cs _ _).2
  · exact fun h => h.2.2
theorem wayX_len (n : Int) (cs : List S51) (hs vs : List Int) (a b : Int) : (wayX n cs hs vs a b).length ≤ 20:=by
  unfold wayX
  split
  · rename_i h
    obtain ⟨N,A,B,rfl,c1,c2,_⟩:=way_facts h.1 h.2.1 h.2.2.1
    exact Nat.le_trans (filM_len _ _ _) c2
  · simp
theorem iway_eq (n : Int) (cs : List S51) (hs vs : List Int) (a b : Int) (k : Nat) (hk : 1000 < k) : impl_TreeWay.f k n cs hs vs a b = some (wayX n cs hs vs a b):=by
  unfold impl_TreeWay.f wayX
  rw [istation_eq,Option.bind_some]
  obtain ⟨k,rfl⟩ : ∃ m,k = m + 1:=⟨k - 1,by omega⟩
  by_cases c1 : netB n cs hs vs = true ∧ 0 ≤ a ∧ a < hs.length
  · rw [decide_eq_true c1,if_pos rfl,istation_eq,Option.bind_some]
    simp only [impl_TreeWay.j0]
    by_cases c2 : netB n cs hs vs = true ∧ 0 ≤ b ∧ b < hs.length
    · obtain ⟨N,A,B,rfl,g1,g2,g3,g4,g5,g6,g7,g8⟩:=way_facts c1.1 c1.2 c2.2
      have hrl:=rootsL_len N cs
      have e : impl_rootsOf.f (N : Int) cs = some (rootsL N cs):=by unfold impl_rootsOf.f;rw [if_pos g4,Int.toNat_natCast]
      rw [decide_eq_true c2,if_neg (by decide),e,Option.bind_some,if_pos c1.2.1,if_pos c1.2.2,g7,if_pos (by omega),if_pos (by omega),if_pos c2.2.1,if_pos c2.2.2,g8,if_pos (by omega),if_pos (by omega),Int.toNat_natCast]
      by_cases c3 : rd (rootsL N cs) (A : Int) = rd (rootsL N cs) (B : Int)
      · have c3':=c3
        rw [rd_gD,rd_gD] at c3'
        obtain ⟨p,q,m,p1,p2,p3,p4,p5,p6,p7,p8⟩:=way_parts g4 g5 g6 c3'
        obtain ⟨w,r,q1,q2,q3,q4,q5,q6,q7,q8⟩:=way_up g4 g5
        obtain ⟨v,r2,w1,w2,w3,w4,w5,w6,w7,w8⟩:=way_up g4 g6
        have lu : (upsL N cs A).length ≤ 100:=by unfold upsL;rw [chL_eq q1 q2 50 (by omega),List.length_map];omega
        have lv : (upsL N cs B).length ≤ 100:=by unfold upsL;rw [chL_eq w1 w2 50 (by omega),List.length_map];omega
        have hx:=iway_l0 (upsL N cs A) (upsL N cs B) lu lv (upsL N cs A).length k 0 [] (by omega) (by simp;omega) (by omega)
        rw [List.drop_zero,List.nil_append,p1] at hx
        have hpl : (p.map (upN N cs)).length ≤ 8:=by rw [List.length_map];omega
        have hy:=iway_l1 (upsL N cs A) (upsL N cs B) lu lv (upsL N cs B).length (k - (upsL N cs A).length - 1) 0 (p.map (upN N cs)) (by omega) (by omega) (by omega)
        rw [List.drop_zero,p2,← List.map_append] at hy
        obtain ⟨s,s1,s2,s3⟩:=sort_ok ((p ++ q).map (upN N cs)) (by rw [List.length_map,List.length_append];omega)
        rw [if_pos c3,iups_eq g4 hs vs g5 k (by omega),Option.bind_some,iups_eq g4 hs vs g6 k (by omega),Option.bind_some,if_pos ⟨c1.1,c1.2,c2.2,c3⟩,Int.toNat_natCast,Int.toNat_natCast]
        refine hx.trans (hy.trans ?_)
        rw [s3 _ (by omega),Option.bind_some]
        congr 1
        exact sort_uniq s2 ((filM_asc _ _ _).imp (fun h => by omega)) (s1.trans (way_perm g4 (fun x hx => (p6 x hx).2.1) p7 p8))
      · rw [if_neg c3,if_neg (fun h => c3 h.2.2.2)]
    · rw [decide_eq_false c2,if_pos (by decide),if_neg (fun h => c2 ⟨h.1,h.2.2.1⟩)]
  · rw [decide_eq_false c1,if_neg (by decide)]
    simp only [impl_TreeWay.j0]
    rw [if_pos trivial,if_neg (fun h => c1 ⟨h.1,h.2.1⟩)]
theorem sway_eq (n : Int) (cs : List S51) (hs vs : List Int) (a b : Int) (hl : cs.length + hs.length + vs.length ≤ 1048576) (k : Nat) (hk : cs.length + hs.length + vs.length + 2000 < k) : spec_TreeWay.f k n cs hs vs a b = some (wayX n cs hs vs a b):=by
  obtain ⟨k,rfl⟩ : ∃ m,k = m + 1:=⟨k - 1,by omega⟩
  unfold spec_TreeWay.f wayX
  rw [snet_eq n cs hs vs (by omega) (by omega) (by omega) _ (by omega),Option.bind_some]
  cases hv : netB n cs hs vs with
  | false =>
    rw [if_neg (by decide)]
    simp only [spec_TreeWay.j0]
    rw [if_pos trivial,if_neg (fun h => by cases h.1)]
  | true =>
    rw [if_pos rfl,sstation_eq n cs hs vs a (by omega),Option.bind_some]
    by_cases c1 : 0 ≤ a ∧ a < hs.length
    · rw [decide_eq_true c1,if_pos rfl,sstation_eq n cs hs vs b (by omega),Option.bind_some]
      simp only [spec_TreeWay.j0]
      by_cases c2 : 0 ≤ b ∧ b < hs.length
      · obtain ⟨N,A,B,rfl,g1,g2,g3,g4,g5,g6,g7,g8⟩:=way_facts hv c1 c2
        rw [decide_eq_true c2,if_neg (by decide),if_pos c1.1,if_pos c1.2,g7,sroot_eq g4 g5 k (by omega),Option.bind_some,if_pos c2.1,if_pos c2.2,g8,sroot_eq g4 g6 k (by omega),Option.bind_some,rd_gD,Int.toNat_natCast,rd_gD]
        by_cases c3 : gD (rootsL N cs) A = gD (rootsL N cs) B
        · have hin : ∀ a,∀ x ∈ upsL N cs a,x ∈ upsL N cs a → 0 ≤ x ∧ x < cs.length:=by
            intro a x hx _
            unfold upsL at hx
            obtain ⟨y,hy,rfl⟩:=List.mem_map.1 hx
            refine ⟨?_,(upX_lt cs _ _).2⟩
            have : ∀ f a,∀ y ∈ chL (upN N cs) (nxN N cs) f a,0 ≤ upN N cs y:=by
              intro f
              induction f with
              | zero => intro a y hy;cases hy
              | succ f ih =>
                intro a y hy
                rw [chL] at hy
                split at hy
                · rename_i h0
                  rcases List.mem_cons.1 hy with rfl | hy
                  · exact h0
                  · exact ih _ y hy
                · cases hy
            exact this 50 a y hy
          have hmk : ∀ a (j : Nat),j < cs.length → rdOf false (mkB (List.replicate cs.length false) (upsL N cs a)) (j : Int) = hasL (upsL N cs a) (j : Int):=by
            intro a j hj
            rw [mkB_get (upsL N cs a) (List.replicate cs.length false) (fun x hx => by rw [List.length_replicate];exact hin a x hx hx) j (by rw [List.length_replicate];exact hj),rdB_get _ j (by rw [List.length_replicate];exact hj),List.getElem_replicate,Bool.false_or]
          rw [if_pos c3,sups_eq g4 hs vs g5 k (by omega),Option.bind_some,sups_eq g4 hs vs g6 k (by omega),Option.bind_some,if_pos ⟨trivial,c1,c2,c3⟩,Int.toNat_natCast]
          exact sway_l0 _ cs.length (by omega) (by rw [mkB_len,List.length_replicate]) (wayB N cs A B) cs.length k 0 _ (by omega) (by rw [mkB_len,List.length_replicate]) (fun j hj => absurd hj (by omega)) (fun j _ hj => by rw [hmk A j hj,hmk B j hj];rfl) (by omega)
        · rw [if_neg c3,if_neg (fun h => c3 h.2.2.2)]
      · rw [decide_eq_false c2,if_pos (by decide),if_neg (fun h => c2 h.2.2.1)]
    · rw [decide_eq_false c1,if_neg (by decide)]
      simp only [spec_TreeWay.j0]
      rw [if_pos trivial,if_neg (fun h => c1 h.2.1)]

-- LIB treeup
theorem treeX_up {N : Nat} {cs : List S51} (hv : cabsB (N : Int) cs = true) {x : Nat} (hx : x < N) (h0 : 0 ≤ upN N cs x) : upN N cs x ∈ treeX (N : Int) cs:=by
  unfold treeX
  rw [if_pos hv,Int.toNat_natCast]
  have hp:=tree_perm (upN N cs) N cs.length (fun x _ => (upX_lt cs _ _).2)
  refine hp.mem_iff.1 ?_
  have : ∀ (d b : Nat),b ≤ x → x < b + d → upN N cs x ∈ uL (upN N cs) d b:=by
    intro d
    induction d with
    | zero => intro b h1 h2;omega
    | succ d ih =>
      intro b h1 h2
      rw [uL]
      by_cases e : b = x
      · subst e;rw [if_pos h0];exact List.mem_cons_self
      · split
        · exact List.mem_cons_of_mem _ (ih (b + 1) (by omega) (by omega))
        · exact ih (b + 1) (by omega) (by omega)
  exact this N 0 (by omega) (by omega)

-- LIB pdraw
/-- What a draw reads: at most 2000 bytes. -/
def Bytes (b : List Int) : Prop:=b.length ≤ 2000 ∧ ∀ x ∈ b,0 ≤ x ∧ x ≤ 255
theorem bits_xor_nonneg (a b : Int) (h1 : 0 ≤ a) (h2 : a < 4611686018427387904) (h3 : 0 ≤ b) (h4 : b < 4611686018427387904) : 0 ≤ Go.bits .xor .i64 a b:=by
  obtain ⟨A,rfl⟩:=Int.eq_ofNat_of_zero_le h1
  obtain ⟨B,rfl⟩:=Int.eq_ofNat_of_zero_le h3
  have hx : A ^^^ B < 2 ^ 62:=Nat.xor_lt_two_pow (by omega) (by omega)
  have eA : (BitVec.ofInt 64 (A : Int)).toNat = A:=by rw [BitVec.ofInt_natCast,BitVec.toNat_ofNat];exact Nat.mod_eq_of_lt (by omega)
  have eB : (BitVec.ofInt 64 (B : Int)).toNat = B:=by rw [BitVec.ofInt_natCast,BitVec.toNat_ofNat];exact Nat.mod_eq_of_lt (by omega)
  show 0 ≤ IntKind.i64.wrap ((BitVec.ofInt 64 (A : Int) ^^^ BitVec.ofInt 64 (B : Int)).toNat : Int)
  rw [BitVec.toNat_xor,eA,eB,IntKind.wrap_i64]
  omega
theorem open_ok (l : List Int) (h : ∀ x ∈ l,(Lit.int .u8 x).wf = true) : ∃ b,spec_l21Open.f l = some (b,0) ∧ Bytes b:=by
  have hb : ∀ x ∈ l,0 ≤ x ∧ x ≤ 255:=by
    intro x hx
    have h':=h x hx
    simp [Lit.wf,IntKind.min,IntKind.max,IntKind.signed,IntKind.bits] at h'
    omega
  unfold spec_l21Open.f
  by_cases hl : (l.length : Int) > 2000
  · rw [if_pos hl,if_pos (by omega)]
    exact ⟨_,rfl,by rw [List.length_take];omega,fun x hx => hb x (List.mem_of_mem_take hx)⟩
  · rw [if_neg hl]
    exact ⟨_,rfl,by omega,hb⟩
theorem rd_mem {b : List Int} {i : Int} (h0 : 0 ≤ i) (h1 : i < b.length) : rd b i ∈ b:=by
  obtain ⟨j,rfl⟩:=Int.eq_ofNat_of_zero_le h0
  rw [rd_get b j (by omega)]
  exact List.getElem_mem _
theorem tmod_range {a n : Int} (h0 : 0 ≤ a) (h1 : 1 ≤ n) : 0 ≤ Int.tmod a n ∧ Int.tmod a n < n:=by
  rw [Int.tmod_eq_emod_of_nonneg h0]
  exact ⟨Int.emod_nonneg _ (by omega),Int.emod_lt_of_pos _ (by omega)⟩
/-- A draw of a number below n. -/
theorem pick_ok {b : List Int} (hb : Bytes b) {p : Int} (n : Int) (h0 : 0 ≤ p) (h1 : p ≤ 1099511627776) :
    ∃ r,0 ≤ r ∧ (1 ≤ n → r < n) ∧ (n < 1 → r = 0) ∧ ∀ k,1 ≤ k → spec_l21Rd_pick.f k b p n = some (r,p + 1):=by
  have e1 : wrap64 (p + 1) = p + 1:=wrap_eq (by omega) (by omega)
  have e2 : wrap64 (p + 1 - 1) = p:=by rw [wrap_eq (by omega) (by omega)];omega
  by_cases hn : n < 1
  · refine ⟨0,by omega,fun h => by omega,fun _ => rfl,fun k hk => ?_⟩
    obtain ⟨k,rfl⟩ : ∃ m,k = m + 1:=⟨k - 1,by omega⟩
    unfold spec_l21Rd_pick.f
    simp only [spec_l21Rd_pick.j0]
    rw [if_pos hn,if_pos trivial,e1]
  by_cases hl : b.length = 0
  · refine ⟨0,by omega,fun h => by omega,fun _ => rfl,fun k hk => ?_⟩
    obtain ⟨k,rfl⟩ : ∃ m,k = m + 1:=⟨k - 1,by omega⟩
    unfold spec_l21Rd_pick.f
    simp only [spec_l21Rd_pick.j0]
    rw [if_neg hn,if_pos (by simp [hl]),e1]
  obtain ⟨hb1,hb2⟩:=hb
  have hl0 : ((b.length : Int) == 0) = false:=beq_eq_false_iff_ne.2 (by omega)
  by_cases hp : p < b.length
  · have hv:=hb2 _ (rd_mem h0 hp)
    have ht:=tmod_range hv.1 (show 1 ≤ n by omega)
    refine ⟨Int.tmod (rd b p) n,ht.1,fun _ => ht.2,fun h => by omega,fun k hk => ?_⟩
    obtain ⟨k,rfl⟩ : ∃ m,k = m + 1:=⟨k - 1,by omega⟩
    unfold spec_l21Rd_pick.f
    simp only [spec_l21Rd_pick.j0]
    rw [if_neg hn,hl0,if_neg (by decide),e1,e2,if_pos hp,if_pos h0,if_neg (by omega),wrap_eq (by omega) (by omega)]
  · have hi1:=tmod_range h0 (show (1 : Int) ≤ b.length by omega)
    have hi2:=tmod_range (show 0 ≤ p * 7 + 3 by omega) (show (1 : Int) ≤ b.length by omega)
    have e3 : wrap64 (wrap64 (p * 7) + 3) = p * 7 + 3:=by rw [wrap_eq (x:=p * 7) (by omega) (by omega),wrap_eq (by omega) (by omega)]
    have hv1:=hb2 _ (rd_mem hi1.1 hi1.2)
    have hv2:=hb2 _ (rd_mem hi2.1 hi2.2)
    have hd : Int.tdiv p b.length = p / b.length:=Int.tdiv_eq_ediv_of_nonneg h0
    have hd0 : 0 ≤ p / (b.length : Int):=Int.ediv_nonneg h0 (by omega)
    have hd1 : p / (b.length : Int) ≤ p:=Int.ediv_le_self _ h0
    generalize hx1 : rd b (Int.tmod p b.length) = v1 at hv1
    generalize hx2 : rd b (Int.tmod (p * 7 + 3) b.length) = v2 at hv2
    generalize hx3 : p / (b.length : Int) = q at hd hd0 hd1
    have e4 : wrap64 (wrap64 (wrap64 (wrap64 (wrap64 v1 * 131) + wrap64 (wrap64 v2 * 1117)) + wrap64 (p * 29)) + wrap64 (wrap64 q * 53)) = v1 * 131 + v2 * 1117 + p * 29 + q * 53:=by
      rw [wrap_eq (x:=v1) (by omega) (by omega),wrap_eq (x:=v2) (by omega) (by omega),wrap_eq (x:=q) (by omega) (by omega),wrap_eq (x:=v1 * 131) (by omega) (by omega),wrap_eq (x:=v2 * 1117) (by omega) (by omega),wrap_eq (x:=p * 29) (by omega) (by omega),wrap_eq (x:=q * 53) (by omega) (by omega),wrap_eq (x:=v1 * 131 + v2 * 1117) (by omega) (by omega),wrap_eq (x:=v1 * 131 + v2 * 1117 + p * 29) (by omega) (by omega),wrap_eq (by omega) (by omega)]
    have hX : 0 ≤ v1 * 131 + v2 * 1117 + p * 29 + q * 53 ∧ v1 * 131 + v2 * 1117 + p * 29 + q * 53 ≤ 4000000000000000:=by omega
    generalize v1 * 131 + v2 * 1117 + p * 29 + q * 53 = X at e4 hX
    have hY : Int.tdiv X 64 = X / 64:=Int.tdiv_eq_ediv_of_nonneg hX.1
    have e5 : wrap64 (X / 64) = X / 64:=wrap_eq (by omega) (by omega)
    have hZ:=bits_xor_nonneg X (X / 64) hX.1 (by omega) (by omega) (by omega)
    have ht:=tmod_range hZ (show 1 ≤ n by omega)
    refine ⟨Int.tmod (Go.bits .xor .i64 X (X / 64)) n,ht.1,fun _ => ht.2,fun h => by omega,fun k hk => ?_⟩
    obtain ⟨k,rfl⟩ : ∃ m,k = m + 1:=⟨k - 1,by omega⟩
    unfold spec_l21Rd_pick.f
    simp only [spec_l21Rd_pick.j0]
    rw [if_neg hn,hl0,if_neg (by decide),e1,e2,e3,if_neg hp,if_neg (by omega),if_pos hi1.1,if_pos hi1.2,if_pos hi2.1,if_pos hi2.2,if_neg (by omega),hx1,hx2,hd,e4,hY,e5]
/-- A draw of one of a list's numbers. -/
theorem num_ok {b : List Int} (hb : Bytes b) {p : Int} (l : List Int) (h0 : 0 ≤ p) (h1 : p ≤ 1099511627776) (hl : 0 < l.length) :
    ∃ x,x ∈ l ∧ ∀ k,1 ≤ k → spec_l21Rd_num.f k b p l = some (x,p + 1):=by
  obtain ⟨r,hr0,hr1,_,hr⟩:=pick_ok hb (l.length : Int) h0 h1
  have hr2:=hr1 (by omega)
  refine ⟨rd l r,rd_mem hr0 hr2,fun k hk => ?_⟩
  unfold spec_l21Rd_num.f
  rw [hr k hk,Option.bind_some]
  simp only []
  rw [if_pos hr0,if_pos hr2]

-- LIB pdraw19
theorem l7c_at {b : List Int} (hb : Bytes b) (n : Int) (h1 : 1 ≤ n) (h8 : n ≤ 8) (d : Nat) : ∀ (p : Int) (c : List S51),0 ≤ p → p + 3 * d ≤ 100000 → c.length + d ≤ 1000 →
    ∃ c' p',c'.length ≤ c.length + d ∧ p ≤ p' ∧ p' ≤ p + 3 * d ∧ ∀ k,2 * d + 2 < k → spec_l7Cables.l0 k n c (d : Int) b p = some (n,c',p'):=by
  induction d with
  | zero =>
    intro p c hp0 hp1 hx
    refine ⟨c,p,by omega,by omega,by omega,fun k hk => ?_⟩
    obtain ⟨k,rfl⟩ : ∃ m,k = m + 1 + 1:=⟨k - 2,by omega⟩
    simp only [spec_l7Cables.l0,spec_l7Cables.j1]
    rw [if_neg (by omega),if_neg (by decide)]
  | succ d ih =>
    intro p c hp0 hp1 hx
    by_cases hn : n > 1
    · obtain ⟨r1,_,_,_,e1⟩:=pick_ok hb n hp0 (by omega)
      obtain ⟨r2,_,_,_,e2⟩:=pick_ok hb (wrap64 (n - 1)) (show 0 ≤ p + 1 by omega) (by omega)
      obtain ⟨r3,_,e3⟩:=num_ok hb [1,1,2,5,10,99] (show 0 ≤ p + 1 + 1 by omega) (by omega) (by simp)
      obtain ⟨c',p',q1,q2,q3,q4⟩:=ih (p + 1 + 1 + 1) (c ++ [⟨r1,Int.tmod (wrap64 ((wrap64 (r1 + 1)) + r2)) n,r3⟩]) (by omega) (by omega) (by simp;omega)
      simp only [List.length_append,List.length_singleton] at q1
      refine ⟨c',p',by omega,by omega,by omega,fun k hk => ?_⟩
      obtain ⟨k,rfl⟩ : ∃ m,k = m + 1 + 1:=⟨k - 2,by omega⟩
      simp only [spec_l7Cables.l0,spec_l7Cables.j1]
      rw [if_pos (by omega),if_pos (decide_eq_true hn),e1 k (by omega),Option.bind_some]
      simp only []
      rw [e2 k (by omega),Option.bind_some,if_neg (by omega)]
      simp only []
      rw [e3 k (by omega),Option.bind_some,if_pos (by omega),wrap_eq (x:=((d + 1 : Nat) : Int) - 1) (by omega) (by omega),show ((d + 1 : Nat) : Int) - 1 = (d : Int) by omega]
      exact q4 k (by omega)
    · refine ⟨c,p,by omega,by omega,by omega,fun k hk => ?_⟩
      obtain ⟨k,rfl⟩ : ∃ m,k = m + 1 + 1:=⟨k - 2,by omega⟩
      simp only [spec_l7Cables.l0,spec_l7Cables.j1]
      rw [if_pos (by omega),decide_eq_false hn,if_neg (by decide)]
theorem l7c_ok {b : List Int} (hb : Bytes b) {p : Int} (h0 : 0 ≤ p) (h1 : p ≤ 10000) : ∃ n c p',c.length ≤ 20 ∧ 1 ≤ n ∧ n ≤ 8 ∧ p ≤ p' ∧ p' ≤ p + 62 ∧ ∀ k,50 < k → spec_l7Cables.f k b p = some (n,c,p'):=by
  obtain ⟨n,hn,e1⟩:=num_ok hb [4,6,3,8,2,1,5] h0 (by omega) (by simp)
  have hn2 : 1 ≤ n ∧ n ≤ 8:=by simp at hn;omega
  obtain ⟨i,hi,e2⟩:=num_ok hb [5,8,12,3,0,20] (show 0 ≤ p + 1 by omega) (by omega) (by simp)
  have hi2 : 0 ≤ i ∧ i ≤ 20:=by simp at hi;omega
  obtain ⟨I,rfl⟩:=Int.eq_ofNat_of_zero_le hi2.1
  obtain ⟨c',p',q1,q2,q3,q4⟩:=l7c_at hb n hn2.1 hn2.2 I (p + 1 + 1) [] (by omega) (by omega) (by simp;omega)
  refine ⟨n,c',p',by simp at q1;omega,hn2.1,hn2.2,by omega,by omega,fun k hk => ?_⟩
  unfold spec_l7Cables.f
  rw [e1 k (by omega),Option.bind_some]
  simp only []
  rw [e2 k (by omega),Option.bind_some]
  exact q4 k (by omega)
theorem l19_at {b : List Int} (hb : Bytes b) (m n : Int) (cs : List S51) (hn1 : 1 ≤ n) (hn : n ≤ 8) (d : Nat) : ∀ (p : Int) (hs vs : List Int),0 ≤ p → p + 3 * d ≤ 100000 → 1 ≤ hs.length + d → hs.length = vs.length → hs.length + d ≤ 15 →
    ∃ n' hs' vs' p',hs'.length ≤ 15 ∧ vs'.length ≤ 15 ∧ 1 ≤ n' ∧ n' ≤ 9 ∧ p ≤ p' ∧ p' ≤ p + 3 * d + 1 ∧ ∀ k,d + 3 < k → spec_l19Net.l0 k m (d : Int) b p n cs hs vs = some (n',cs,hs',vs',p'):=by
  induction d with
  | zero =>
    intro p hs vs hp0 hp1 hx hy hz
    obtain ⟨r,_,_,_,hr⟩:=pick_ok hb 80 hp0 (by omega)
    have key : ∃ n' hs' vs',hs'.length ≤ 15 ∧ vs'.length ≤ 15 ∧ 1 ≤ n' ∧ n' ≤ 9 ∧ ∀ k,3 < k → spec_l19Net.l0 k m ((0 : Nat) : Int) b p n cs hs vs = some (n',cs,hs',vs',p + 1):=by
      by_cases c0 : r = 0
      · refine ⟨n,hs.set 0 m,vs,by rw [List.length_set];omega,by omega,hn1,by omega,fun k hk => ?_⟩
        obtain ⟨k,rfl⟩ : ∃ m,k = m + 1:=⟨k - 1,by omega⟩
        simp only [spec_l19Net.l0]
        rw [if_neg (by omega),hr k (by omega),Option.bind_some,if_pos c0,if_pos (by omega)]
        rfl
      by_cases c1 : r = 1
      · refine ⟨n,hs,vs.set 0 0,by omega,by rw [List.length_set];omega,hn1,by omega,fun k hk => ?_⟩
        obtain ⟨k,rfl⟩ : ∃ m,k = m + 1:=⟨k - 1,by omega⟩
        simp only [spec_l19Net.l0]
        rw [if_neg (by omega),hr k (by omega),Option.bind_some,if_neg c0,if_pos c1,if_pos (by omega)]
        rfl
      by_cases c2 : r = 2
      · refine ⟨n,hs,vs.drop 1,by omega,by rw [List.length_drop];omega,hn1,by omega,fun k hk => ?_⟩
        obtain ⟨k,rfl⟩ : ∃ m,k = m + 1:=⟨k - 1,by omega⟩
        simp only [spec_l19Net.l0]
        rw [if_neg (by omega),hr k (by omega),Option.bind_some,if_neg c0,if_neg c1,if_pos c2,if_pos (by omega)]
        rfl
      by_cases c3 : r = 3
      · refine ⟨9,hs,vs,by omega,by omega,by omega,by omega,fun k hk => ?_⟩
        obtain ⟨k,rfl⟩ : ∃ m,k = m + 1:=⟨k - 1,by omega⟩
        simp only [spec_l19Net.l0]
        rw [if_neg (by omega),hr k (by omega),Option.bind_some,if_neg c0,if_neg c1,if_neg c2,if_pos c3]
      · refine ⟨n,hs,vs,by omega,by omega,hn1,by omega,fun k hk => ?_⟩
        obtain ⟨k,rfl⟩ : ∃ m,k = m + 1:=⟨k - 1,by omega⟩
        simp only [spec_l19Net.l0]
        rw [if_neg (by omega),hr k (by omega),Option.bind_some,if_neg c0,if_neg c1,if_neg c2,if_neg c3]
    obtain ⟨n',hs',vs',g1,g2,g3,g4,g5⟩:=key
    exact ⟨n',hs',vs',p + 1,g1,g2,g3,g4,by omega,by omega,fun k hk => g5 k (by omega)⟩
  | succ d ih =>
    intro p hs vs hp0 hp1 hx hy hz
    obtain ⟨r1,_,_,_,e1⟩:=pick_ok hb m hp0 (by omega)
    obtain ⟨r2,_,e2⟩:=num_ok hb [1,2,3] (show 0 ≤ p + 1 by omega) (by omega) (by simp)
    obtain ⟨r3,_,_,_,e3⟩:=pick_ok hb r2 (show 0 ≤ p + 1 + 1 by omega) (by omega)
    obtain ⟨n',hs',vs',p',q1,q2,q3,q4,q5,q6,q7⟩:=ih (p + 1 + 1 + 1) (hs ++ [r1]) (vs ++ [wrap64 (1 + r3)]) (by omega) (by omega) (by simp;omega) (by simp [hy]) (by simp;omega)
    refine ⟨n',hs',vs',p',q1,q2,q3,q4,by omega,by omega,fun k hk => ?_⟩
    obtain ⟨k,rfl⟩ : ∃ m,k = m + 1:=⟨k - 1,by omega⟩
    simp only [spec_l19Net.l0]
    rw [if_pos (by omega),e1 k (by omega),Option.bind_some,if_pos (by omega)]
    simp only []
    rw [e2 k (by omega),Option.bind_some]
    simp only []
    rw [e3 k (by omega),Option.bind_some,if_pos (by omega),wrap_eq (x:=((d + 1 : Nat) : Int) - 1) (by omega) (by omega),show ((d + 1 : Nat) : Int) - 1 = (d : Int) by omega]
    exact q7 k (by omega)
theorem l19_ok {b : List Int} (hb : Bytes b) {p : Int} (h0 : 0 ≤ p) (h1 : p ≤ 1000) : ∃ n cs hs vs p',cs.length ≤ 20 ∧ hs.length ≤ 15 ∧ vs.length ≤ 15 ∧ 1 ≤ n ∧ n ≤ 9 ∧ p ≤ p' ∧ p' ≤ p + 200 ∧ ∀ k,100 < k → spec_l19Net.f k b p = some (n,cs,hs,vs,p'):=by
  obtain ⟨n,c,p1,q1,q2,q3,q4,q5,q6⟩:=l7c_ok hb h0 (by omega)
  obtain ⟨i,hi,e2⟩:=num_ok hb [4,6,3,10,2,1,15] (show 0 ≤ p1 by omega) (by omega) (by simp)
  have hi2 : 1 ≤ i ∧ i ≤ 15:=by simp at hi;omega
  obtain ⟨I,rfl⟩:=Int.eq_ofNat_of_zero_le (show 0 ≤ i by omega)
  obtain ⟨n',hs',vs',p',g1,g2,g3,g4,g5,g6,g7⟩:=l19_at hb n n c q2 q3 I (p1 + 1) [] [] (by omega) (by omega) (by simp;omega) rfl (by simp;omega)
  refine ⟨n',c,hs',vs',p',q1,g1,g2,g3,g4,by omega,by omega,fun k hk => ?_⟩
  unfold spec_l19Net.f
  rw [q6 k (by omega),Option.bind_some]
  simp only []
  rw [e2 k (by omega),Option.bind_some]
  exact g7 k (by omega)

-- LIB pdraw19t
theorem drawWay_ok {l : List Int} (h : ∀ x ∈ l,(Lit.int .u8 x).wf = true) : ∃ n cs hs vs a b,cs.length ≤ 20 ∧ hs.length ≤ 15 ∧ vs.length ≤ 15 ∧ ∀ k,100 < k → spec_DrawTreeWay.f k l = some (n,cs,hs,vs,a,b):=by
  obtain ⟨b,hbo,hb⟩:=open_ok l h
  obtain ⟨n,cs,hs,vs,p,q1,q2,q3,q4,q5,q6,q7,q8⟩:=l19_ok hb (p:=0) (by omega) (by omega)
  obtain ⟨r1,_,_,_,e1⟩:=pick_ok hb (wrap64 ((hs.length : Int) + 1)) (show 0 ≤ p by omega) (by omega)
  obtain ⟨r2,_,_,_,e2⟩:=pick_ok hb (wrap64 ((hs.length : Int) + 2)) (show 0 ≤ p + 1 by omega) (by omega)
  obtain ⟨r3,_,_,_,e3⟩:=pick_ok hb 9 (show 0 ≤ p + 1 + 1 by omega) (by omega)
  refine ⟨n,cs,hs,vs,r1,wrap64 (r2 - (wrap64 (Int.tdiv r3 8))),q1,q2,q3,fun k hk => ?_⟩
  unfold spec_DrawTreeWay.f
  rw [hbo,Option.bind_some]
  simp only []
  rw [q8 k (by omega),Option.bind_some]
  simp only []
  rw [e1 k (by omega),Option.bind_some]
  simp only []
  rw [e2 k (by omega),Option.bind_some]
  simp only []
  rw [e3 k (by omega),Option.bind_some]

-- LIB pwnhasl
theorem wnHas_at (l : List Int) (x : Int) (hl : l.length ≤ 9223372036854775807) (d : Nat) : ∀ (k i : Nat),i + d = l.length → d < k → laws_wnHas.l0 k x l l.length (i : Int) = some (hasL (l.drop i) x):=by
  induction d with
  | zero =>
    intro k i h1 hk
    obtain ⟨k,rfl⟩ : ∃ m,k = m + 1:=⟨k - 1,by omega⟩
    simp only [laws_wnHas.l0]
    rw [if_neg (by omega),List.drop_of_length_le (by omega)]
    rfl
  | succ d ih =>
    intro k i h1 hk
    obtain ⟨k,rfl⟩ : ∃ m,k = m + 1:=⟨k - 1,by omega⟩
    simp only [laws_wnHas.l0]
    rw [if_pos (by omega),if_pos (by omega),if_pos (by omega),rd_get l i (by omega),wrap_succ (show i < l.length by omega) (by omega),ih k (i + 1) (by omega) (by omega),List.drop_eq_getElem_cons (show i < l.length by omega),hasL_cons]
    by_cases c : l[i] = x
    · rw [if_pos c,decide_eq_true c,Bool.true_or]
    · rw [if_neg c,decide_eq_false c,Bool.false_or]
theorem wnHas_eq (l : List Int) (x : Int) (hl : l.length ≤ 9223372036854775807) (k : Nat) (hk : l.length < k) : laws_wnHas.f k l x = some (hasL l x):=wnHas_at l x hl l.length k 0 (by omega) hk

-- LIB pwnints
theorem wnInts_at (a b : List Int) (hl : a.length = b.length) (hm : a.length ≤ 9223372036854775807) (d : Nat) : ∀ (k i : Nat),i + d = a.length → d < k → laws_wnInts.l0 k b a a.length (i : Int) = some (decide (a.drop i = b.drop i)):=by
  induction d with
  | zero =>
    intro k i h1 hk
    obtain ⟨k,rfl⟩ : ∃ m,k = m + 1:=⟨k - 1,by omega⟩
    simp only [laws_wnInts.l0]
    rw [if_neg (by omega),List.drop_of_length_le (by omega),List.drop_of_length_le (by omega)]
    simp
  | succ d ih =>
    intro k i h1 hk
    obtain ⟨k,rfl⟩ : ∃ m,k = m + 1:=⟨k - 1,by omega⟩
    simp only [laws_wnInts.l0]
    rw [if_pos (by omega),if_pos (by omega),if_pos (by omega),if_pos (by omega),rd_get a i (by omega),rd_get b i (by omega),List.drop_eq_getElem_cons (show i < a.length by omega),List.drop_eq_getElem_cons (show i < b.length by omega),wrap_succ (show i < a.length by omega) (by omega),ih k (i + 1) (by omega) (by omega)]
    by_cases c : b[i] = a[i]
    · rw [if_pos c,c];congr 1;rw [decide_eq_decide];exact ⟨fun h => by rw [h],fun h => (List.cons.inj h).2⟩
    · rw [if_neg c,decide_eq_false (fun h => c (List.cons.inj h).1.symm)]
theorem wnInts_eq (a b : List Int) (hm : a.length ≤ 9223372036854775807) (k : Nat) (hk : a.length < k) : laws_wnInts.f k a b = some (decide (a = b)):=by
  unfold laws_wnInts.f
  by_cases c : a.length = b.length
  · rw [if_pos (by omega)]
    exact wnInts_at a b c hm a.length k 0 (by omega) hk
  · rw [if_neg (by omega),decide_eq_false (fun h => c (by rw [h]))]

end Go.Proofs.Ytdamdcdjodmemaa.PAll
