/- Proved here: contracts of functions of the given program, or lemmas on them, for the laws of this seat. Written by xprint.py, a program of this session, on the ground of the kit's print; parts by hand: wip/x/ext. -/
import Derived.Test.YtblcnbnphjnhdaaPAllx0
import Derived.Test.YtblcnbnphjnhdaaPAllx1
import Derived.Test.YtblcnbnphjnhdaaPAllx2
import Derived.Test.YtblcnbnphjnhdaaPAllx3
import Derived.Test.YtblcnbnphjnhdaaPAllx4
import Derived.Test.YtblcnbnphjnhdaaPAllx5
import Derived.Test.YtblcnbnphjnhdaaPAllx6
import Derived.Test.YtblcnbnphjnhdaaPAllx7
namespace Go.Proofs.Ytblcnbnphjnhdaa.PAll
open Go.RowKit Go.Proofs.YtblcnbnphjnhdaaW.PrintWords Go.Proofs.YtblcnbnphjnhdaaW.PrintLast Go.Proofs.YtblcnbnphjnhdaaW.PrintMore
attribute [local go_sem] max2_int min2_int max_two min_two max_three min_three max_four min_four   -- for this text's walks alone
set_option linter.unusedVariables false
set_option linter.unusedSimpArgs false
theorem ch_at {u : Nat → Int} {nx : Nat → Nat} {b : Nat} {v : List Nat} {r : Nat} (h : Ch u nx b v r) {a : Nat} (ha : a ∈ v) : ∃ q t,v = q ++ a :: t ∧ Ch u nx b q a ∧ Ch u nx a (a :: t) r:=by
 induction h with
 | nil b => cases ha
 | @cons b v r h0 hc ih =>
  by_cases e : a = b
  ·subst e;exact ⟨[],v,rfl,Ch.nil a,Ch.cons h0 hc⟩
  ·obtain ⟨q,t,e1,e2,e3⟩:=ih ((List.mem_cons.1 ha).resolve_left e)
   exact ⟨b :: q,t,by rw [e1];rfl,Ch.cons h0 e2,e3⟩
theorem ch_meet {N : Nat} {u : Nat → Int} {nx : Nat → Nat} {c : Nat → Int} (H : UpOk N u nx c) {b : Nat} (hb : b < N) {v : List Nat} {r : Nat} (hv : Ch u nx b v r) (hr : u r < 0) {a : Nat} {w : List Nat} (hw : Ch u nx a w r) : a < N →
  ∃ p q t m,w = p ++ t ∧ v = q ++ t ∧ Ch u nx a p m ∧ Ch u nx b q m ∧ (∀ x ∈ p,x ∉ v) ∧ (∀ x ∈ q,x ∉ w):=by
 obtain ⟨v1,v2,v3,v4⟩:=ch_facts H hv hb
 induction hw with
 | nil a => exact fun ha => ⟨[],v,[],a,rfl,by simp,Ch.nil a,hv,fun x hx => (by cases hx),fun x _ hx => (by cases hx)⟩
 | @cons a w r h0 hc ih =>
  intro ha
  obtain ⟨h1,h2⟩:=H.up a ha h0
  by_cases e : a ∈ v
  ·obtain ⟨q,t,e1,e2,e3⟩:=ch_at hv e
   have hd:=(ch_det e3 (Ch.cons h0 hc) hr hr).1
   rw [hd] at e1
   refine ⟨[],q,a :: w,a,rfl,e1,Ch.nil a,e2,fun x hx => (by cases hx),fun x hx hx2 => ?_⟩
   rw [e1] at v4
   exact (List.nodup_append.1 v4).2.2 x hx x hx2 rfl
  ·obtain ⟨p,q,t,m,i1,i2,i3,i4,i5,i6⟩:=ih hv hr v1 v2 v3 h1
   refine ⟨a :: p,q,t,m,by rw [i1];rfl,i2,Ch.cons h0 i3,i4,fun x hx => ?_,fun x hx hx2 => ?_⟩
   ·rcases List.mem_cons.1 hx with rfl|hx
    ·exact e
    ·exact i5 x hx
   ·rcases List.mem_cons.1 hx2 with rfl|hx2
    ·exact e (by rw [i2];exact List.mem_append_left _ hx)
    ·exact i6 x hx hx2
theorem nodup_len (n : Nat) : ∀ l : List Nat,l.Nodup → (∀ x ∈ l,x < n) → l.length ≤ n:=by
 induction n with
 | zero =>
  intro l _ h
  cases l with
  | nil => exact Nat.le_refl _
  | cons x t => exact absurd (h x List.mem_cons_self) (by omega)
 | succ n ih =>
  intro l hn h
  have h1:=ih (l.filter (fun x => decide (x ≠ n))) (hn.filter _) (fun x hx => by
   obtain ⟨q1,q2⟩:=List.mem_filter.1 hx
   have:=h x q1
   have : x ≠ n:=od_ q2
   omega)
  have h2 : l.length ≤ (l.filter (fun x => decide (x ≠ n))).length + 1:=by
   have h3 : ∀ l : List Nat,l.Nodup → l.length ≤ (l.filter (fun x => decide (x ≠ n))).length + 1 ∧ (n ∉ l → l.length ≤ (l.filter (fun x => decide (x ≠ n))).length):=by
    intro l
    induction l with
    | nil => exact fun _ => ⟨Nat.zero_le _,fun _ => Nat.le_refl _⟩
    | cons x t it =>
     intro hx
     obtain ⟨g1,g2⟩:=List.nodup_cons.1 hx
     obtain ⟨j1,j2⟩:=it g2
     by_cases e : x = n
     ·subst e
      rw [List.filter_cons_of_neg (by simp)]
      exact ⟨by have:=j2 g1;rw [List.length_cons];omega,fun hne => absurd List.mem_cons_self hne⟩
     ·rw [List.filter_cons_of_pos (by simp [e]),List.length_cons,List.length_cons]
      exact ⟨by omega,fun hne => by have:=j2 (fun y => hne (List.mem_cons_of_mem _ y));omega⟩
   exact (h3 l hn).1
  omega
theorem upS_hit2 (cs : List S83) (o : List Int) (b : Int) (d : Nat) : ∀ (i : Nat) (best at_ : Int),i + d = cs.length → upS cs o b d i best at_ = (best,at_) ∨ (0 ≤ (upS cs o b d i best at_).1 ∧ (upS cs o b d i best at_).1 < cs.length ∧ othX (rd_T83 cs (upS cs o b d i best at_).1) b = some (upS cs o b d i best at_).2 ∧ rd o (upS cs o b d i best at_).2 + (rd_T83 cs (upS cs o b d i best at_).1).f2 = rd o b):=by
 induction d with
 | zero => exact fun _ _ _ _ => Or.inl rfl
 | succ d ih =>
  intro i best at_ h
  rw [upS]
  cases e : othX (rd_T83 cs (i : Int)) b with
  | none => exact ih (i + 1) best at_ (by omega)
  | some q =>
   simp only []
   by_cases c : rd o q + (rd_T83 cs (i : Int)).f2 = rd o b ∧ (best < 0 ∨ q < at_)
   ·rw [if_pos c]
    rcases ih (i + 1) (i : Int) q (by omega) with h'|h'
    ·rw [h'];exact Or.inr ⟨by omega,by simp only [];omega,e,c.1⟩
    ·exact Or.inr h'
   ·rw [if_neg c];exact ih (i + 1) best at_ (by omega)
def nxN (N : Nat) (cs : List S83) (b : Nat) : Nat:=(upX cs (costsN N cs) (b : Int)).2.toNat
theorem up_hit {N : Nat} {cs : List S83} (hs : SoundC cs N) (b : Nat) (h0 : 0 ≤ upN N cs b) : ∃ (K : Nat) (hK : K < cs.length),upN N cs b = (K : Int) ∧ othX cs[K] (b : Int) = some (nxN N cs b : Int) ∧ (upX cs (costsN N cs) (b : Int)).2 = (nxN N cs b : Int) ∧ nxN N cs b < N ∧ nxN N cs b ≠ b ∧ gD (costsN N cs) (nxN N cs b) + cs[K].f2 = gD (costsN N cs) b:=by
 have hu : (upS cs (costsN N cs) (b : Int) cs.length 0 (-1) (-1)).1 = upN N cs b:=rfl
 rcases upS_hit2 cs (costsN N cs) (b : Int) cs.length 0 (-1) (-1) (by omega) with h|⟨h1,h2,h3,h4⟩
 ·rw [h] at hu;simp only [] at hu;omega
 ·rw [hu] at h1 h2 h3 h4
  obtain ⟨K,hK⟩:=Int.eq_ofNat_of_zero_le h0
  have hKl : K < cs.length:=by omega
  rw [hK,rdCab_get cs K hKl] at h3 h4
  obtain ⟨q0,q1,q2⟩:=oth_in (hs _ (List.getElem_mem hKl)) h3
  have e : (upS cs (costsN N cs) (b : Int) cs.length 0 (-1) (-1)).2 = (nxN N cs b : Int):=by
   have : nxN N cs b = (upS cs (costsN N cs) (b : Int) cs.length 0 (-1) (-1)).2.toNat:=rfl
   omega
  rw [e] at h3 h4
  rw [rd_gD,rd_gD] at h4
  exact ⟨K,hKl,hK,h3,e,by omega,by omega,h4⟩
theorem oth_ends {c : S83} {b q : Int} (e : othX c b = some q) : (b = c.f0 ∧ q = c.f1) ∨ (b = c.f1 ∧ q = c.f0):=by
 unfold othX at e
 split at e
 ·rename_i w;injection e with e;exact Or.inl ⟨w,e.symm⟩
 ·split at e
  ·rename_i w;injection e with e;exact Or.inr ⟨w,e.symm⟩
  ·cases e
theorem up_once2 {N : Nat} {cs : List S83} (hs : SoundC cs N) (b b2 : Nat) (h0 : 0 ≤ upN N cs b) (e : upN N cs b = upN N cs b2) : b = b2:=by
 obtain ⟨K,hK,k1,k2,_,_,_,k3⟩:=up_hit hs b h0
 obtain ⟨L,hL,l1,l2,_,_,_,l3⟩:=up_hit hs b2 (by omega)
 obtain rfl : K = L:=by omega
 have hok:=hs _ (List.getElem_mem hK)
 rcases oth_ends k2 with ⟨y1,y2⟩|⟨y1,y2⟩ <;> rcases oth_ends l2 with ⟨z1,z2⟩|⟨z1,z2⟩
 ·omega
 ·have e1 : nxN N cs b = b2:=by omega
  have e2 : nxN N cs b2 = b:=by omega
  rw [e1] at k3;rw [e2] at l3;omega
 ·have e1 : nxN N cs b = b2:=by omega
  have e2 : nxN N cs b2 = b:=by omega
  rw [e1] at k3;rw [e2] at l3;omega
 ·omega
theorem upOk_of {N : Nat} {cs : List S83} (hv : cabsB (N : Int) cs = true) : UpOk N (upN N cs) (nxN N cs) (gD (costsN N cs)):=by
 have hs:=sound_of hv
 refine ⟨fun b hb => ((costs_ok hv).2 b hb).1,fun b hb h0 => ?_⟩
 obtain ⟨K,hK,k1,k2,_,k4,_,k3⟩:=up_hit hs b h0
 have:=hs _ (List.getElem_mem hK)
 exact ⟨k4,by omega⟩
theorem way_up {N : Nat} {cs : List S83} (hv : cabsB (N : Int) cs = true) {a : Nat} (ha : a < N) : ∃ w r,Ch (upN N cs) (nxN N cs) a w r ∧ upN N cs r < 0 ∧ r < N ∧ gD (rootsL N cs) a = (r : Int) ∧ w.Nodup ∧ w.length < N ∧ (∀ x ∈ w,x < N ∧ 0 ≤ upN N cs x ∧ gD (rootsL N cs) x = (r : Int)) ∧ r ∉ w:=by
 have hs:=sound_of hv
 obtain ⟨f1,f2,f3,f4⟩:=cabsB_facts hv
 have H:=upOk_of hv
 have hle:=(costs_ok hv).2 a ha
 have hc:=cabOk_of hv
 have hrl:=rootsL_len N cs
 obtain ⟨w,r,q1,q2,q3⟩:=ch_some H 800 a ha (by omega)
 obtain ⟨g1,g2,g3,g4⟩:=ch_facts H q1 ha
 have hrr:=up_root (by omega) hs q3 q2
 have hstep : ∀ x,x < N → 0 ≤ upN N cs x → gD (rootsL N cs) x = gD (rootsL N cs) (nxN N cs x):=by
  intro x hx h0
  obtain ⟨K,hK,k1,k2,_,k4,_,k3⟩:=up_hit hs x h0
  rw [gD_get _ _ (by omega),gD_get _ _ (by omega)]
  refine (roots_join hc hx k4).2 ?_
  have hcl:=jnB_closed hc hx cs[K] (List.getElem_mem hK)
  have hself:=jnB_self hc hx
  rcases oth_ends k2 with ⟨y1,y2⟩|⟨y1,y2⟩
  ·rw [← y1,← y2,Int.toNat_natCast,Int.toNat_natCast] at hcl;exact hcl.1 hself
  ·rw [← y1,← y2,Int.toNat_natCast,Int.toNat_natCast] at hcl;exact hcl.2 hself
 have hall : ∀ {y : Nat} {v : List Nat},Ch (upN N cs) (nxN N cs) y v r → y < N → gD (rootsL N cs) y = (r : Int) ∧ ∀ x ∈ v,gD (rootsL N cs) x = (r : Int):=by
  intro y v h
  clear q1 g2 g3 g4
  induction h with
  | nil _ => exact fun _ => ⟨hrr,fun x hx => by cases hx⟩
  | @cons y v r h0 hc' ih =>
   intro hy
   obtain ⟨i1,i2⟩:=ih q2 q3 g1 hrr (H.up y hy h0).1
   have e:=hstep y hy h0
   exact ⟨by rw [e,i1],fun x hx => by
    rcases List.mem_cons.1 hx with rfl|hx
    ·rw [e,i1]
    ·exact i2 x hx⟩
 obtain ⟨a1,a2⟩:=hall q1 ha
 have hrw : r ∉ w:=fun hx => by have:=(g3 r hx).2.2.2;omega
 have hlen:=nodup_len N (r :: w) (List.Pairwise.cons (fun x hx e => hrw (e ▸ hx)) g4) (fun x hx => by
  rcases List.mem_cons.1 hx with rfl|hx
  ·exact q3
  ·exact (g3 x hx).1)
 rw [List.length_cons] at hlen
 exact ⟨w,r,q1,q2,q3,a1,g4,by omega,fun x hx => ⟨(g3 x hx).1,(g3 x hx).2.1,a2 x hx⟩,hrw⟩
def hasL (l : List Int) (x : Int) : Bool:=l.any fun y => decide (y = x)
theorem hasL_cons (y : Int) (l : List Int) (x : Int) : hasL (y :: l) x = (decide (y = x) || hasL l x):=rfl
theorem hasL_iff (l : List Int) (x : Int) : hasL l x = true ↔ x ∈ l:=by
 unfold hasL
 rw [List.any_eq_true]
 constructor
 ·rintro ⟨y,h,e⟩
  rw [← od_ e];exact h
 ·intro h
  exact ⟨x,h,decide_eq_true rfl⟩
def chL (u : Nat → Int) (nx : Nat → Nat) : Nat → Nat → List Nat
 | 0,_ => []
 | f + 1,a => if 0 ≤ u a then a :: chL u nx f (nx a) else []
theorem chL_eq {u : Nat → Int} {nx : Nat → Nat} {a : Nat} {w : List Nat} {r : Nat} (h : Ch u nx a w r) (hr : u r < 0) : ∀ f,w.length < f → chL u nx f a = w:=by
 induction h with
 | nil a =>
  intro f hf
  obtain ⟨f,rfl⟩ : ∃ m,f = m + 1:=⟨f - 1,by omega⟩
  rw [chL,if_neg (by omega)]
 | @cons a w r h0 hc ih =>
  intro f hf
  rw [List.length_cons] at hf
  obtain ⟨f,rfl⟩ : ∃ m,f = m + 1:=⟨f - 1,by omega⟩
  rw [chL,if_pos h0,ih hr f (by omega)]
def upsL (N : Nat) (cs : List S83) (a : Nat) : List Int:=(chL (upN N cs) (nxN N cs) 50 a).map (upN N cs)
theorem iups_l0 {N : Nat} {cs : List S83} (hv : cabsB (N : Int) cs = true) (hs vs : List Int) {a r : Nat} {w : List Nat} (h : Ch (upN N cs) (nxN N cs) a w r) (hr : upN N cs r < 0) : a < N → ∀ (k : Nat) (acc : List Int), acc.length + w.length ≤ 1000 → w.length + 400 < k →
  impl_Net_ups.l0 k (a : Int) (costsN N cs) acc (N : Int) cs hs vs = some (acc ++ w.map (upN N cs)):=by
 obtain ⟨f1,f2,f3,f4⟩:=cabsB_facts hv
 have hso:=sound_of hv
 induction h with
 | nil a =>
  intro ha k acc h1 hk
  obtain ⟨k,rfl⟩ : ∃ m,k = m + 1:=⟨k - 1,by omega⟩
  have hu : (upX cs (costsN N cs) (a : Int)).1 = upN N cs a:=rfl
  simp only [impl_Net_ups.l0]
  rw [iup_eq hso (by omega) (costs_ok hv) ha k (by omega),Option.bind_some,hu,if_pos hr,List.map_nil,List.append_nil]
 | @cons a w r h0 hc ih =>
  intro ha k acc h1 hk
  rw [List.length_cons] at h1 hk
  obtain ⟨k,rfl⟩ : ∃ m,k = m + 1:=⟨k - 1,by omega⟩
  have hu : (upX cs (costsN N cs) (a : Int)).1 = upN N cs a:=rfl
  obtain ⟨K,hK,k1,k2,k3,k4,_,_⟩:=up_hit hso a h0
  simp only [impl_Net_ups.l0]
  rw [iup_eq hso (by omega) (costs_ok hv) ha k (by omega),Option.bind_some,hu,if_neg (by omega),if_pos (by omega),k3,ih hr k4 k _ (by rw [List.length_append];simp only [List.length_cons,List.length_nil];omega) (by omega),List.append_assoc,List.map_cons]
  rfl
theorem iups_eq {N : Nat} {cs : List S83} (hv : cabsB (N : Int) cs = true) (hs vs : List Int) {a : Nat} (ha : a < N) (k : Nat) (hk : 500 < k) : impl_Net_ups.f k (N : Int) cs hs vs (a : Int) = some (upsL N cs a):=by
 obtain ⟨f1,f2,f3,f4⟩:=cabsB_facts hv
 obtain ⟨w,r,q1,q2,q3,q4,q5,q6,q7,q8⟩:=way_up hv ha
 unfold impl_Net_ups.f upsL
 rw [icosts_eq N cs hv k (by omega),Option.bind_some,chL_eq q1 q2 50 (by omega)]
 exact iups_l0 hv hs vs q1 q2 ha k [] (by simp;omega) (by omega)
theorem slist_l0 (m : List Bool) (hm : m.length ≤ 1000000) (p : Int → Bool) (hp : ∀ i : Nat, i < m.length → p (i : Int) = rdOf false m (i : Int)) (d : Nat) : ∀ (k i : Nat) (acc : List Int), i + d = m.length → acc.length + d ≤ 1000000 → d < k →
  spec_l19List.l0 k m acc (i : Int) = some (acc ++ filM p d (i : Int)):=by
 induction d with
 | zero =>
  intro k i acc h1 h2 hk
  obtain ⟨k,rfl⟩ : ∃ m,k = m + 1:=⟨k - 1,by omega⟩
  simp only [spec_l19List.l0]
  rw [if_neg (by omega),filM,List.append_nil]
 | succ d ih =>
  intro k i acc h1 h2 hk
  obtain ⟨k,rfl⟩ : ∃ m,k = m + 1:=⟨k - 1,by omega⟩
  have hi : i < m.length:=by omega
  simp only [spec_l19List.l0]
  rw [if_pos (by omega),if_pos (by omega),wrap_succ hi (by omega),filM,hp i hi]
  by_cases c : rdOf false m (i : Int) = true
  ·rw [if_pos c,if_pos c,if_pos (by omega),ih k (i + 1) _ (by omega) (by simp;omega) (by omega),List.append_assoc];rfl
  ·rw [if_neg c,if_neg c,ih k (i + 1) acc (by omega) (by omega) (by omega)];rfl
theorem slist_eq (m : List Bool) (hm : m.length ≤ 1000000) (p : Int → Bool) (hp : ∀ i : Nat,i < m.length → p (i : Int) = rdOf false m (i : Int)) (k : Nat) (hk : m.length < k) : spec_l19List.f k m = some (filM p m.length 0) :=
 slist_l0 m hm p hp m.length k 0 [] (by omega) (by simp;omega) hk
def lstS (m : List Bool) : List Int:=filM (fun i => rdOf false m i) m.length 0
def framesS (cs : List S83) (tr hs vs : List Int) : List S37 → List Int → Option (List (List Int) × List (List Int))
 | [],_ => some ([],[])
 | h :: l,T => (comeS cs tr hs vs (rd vs h.f0) h.f0 h.f1 20 (rd hs h.f0) (-2) ⟨T,List.replicate hs.length false,List.replicate cs.length false⟩).bind fun st => (framesS cs tr hs vs l st.tabs).map fun p => (lstS st.took :: p.1,lstS st.over :: p.2)
theorem S_empty {α : Type} (d : Kd α) {e : Nat} {w : World} {base g : Nat} (hb : base ≤ g) (hg : w.heap[g]? = some (.cells #[] e (0,0))) : Kd.S d e w base (fun k => k = g) (.slice (some ⟨g,0,none⟩) 0 0) []:=by
 refine ⟨fun _ => 0,fun k hk => ?_,[],⟨by simp,Or.inr ⟨g,0,#[],rfl,hb,hg,Nat.le_refl _,by unfold maxLen;omega,by simp,by simp⟩⟩,Reps.none _ _⟩
 simp only [Value.ownBlock,Option.some.injEq] at hk
 exact hk.symm
theorem R_some {α : Type} {d : Kd α} {e base b : Nat} {ok : Nat → Prop} {w : World} {v : Value} {xs : List α} (h : d.R e w base ok v xs) (hb : v.ownBlock = some b) : ∃ cap,v = .slice (some ⟨b,0,none⟩) xs.length cap:=by
 obtain ⟨inner,ho⟩:=Kd.R_own h
 rcases ho.2 with ⟨rfl,_⟩|⟨g,cap,cur,rfl,_⟩
 ·simp [Value.ownBlock] at hb
 ·simp only [Value.ownBlock,Option.some.injEq] at hb
  subst hb
  exact ⟨cap,rfl⟩
theorem kepts_B {c : SC} {W W' : World} (hk : KeptS c W W') {k t : Nat} {cs x1 x2 x3 : Array Value} (h : W.heap[k]? = some (.cells cs t (0,0))) (h1 : t ≠ 3) (h2 : t ≠ 4) (hgk : W.heap[c.gk]? = some (.cells x1 4 (0,0))) (hgo : W.heap[c.go]? = some (.cells x2 4 (0,0))) (hgt : W.heap[c.gt]? = some (.cells x3 3 (0,0))) : W'.heap[k]? = some (.cells cs t (0,0)) :=
 (hk.2 k (blk_lt h) (blk_types h hgt h1) (blk_types h hgk h2) (blk_types h hgo h2)).trans h
theorem kepts_R {α : Type} {d : Kd α} {e base : Nat} {ok : Nat → Prop} {v : Value} {xs : List α} {c : SC} {W W' : World} (hk : KeptS c W W') (h : d.R e W base ok v xs) (ht : ∀ q,q ∈ e :: d.E → q ≠ 4) {x1 x2 : Array Value} (hgk : W.heap[c.gk]? = some (.cells x1 4 (0,0))) (hgo : W.heap[c.go]? = some (.cells x2 4 (0,0))) (hgt : ∀ k,ok k → k ≠ c.gt) : d.R e W' base ok v xs:=by
 refine rm_ (Kd.R_step (Kd.R_bound h) (fun k h1 hl => ?_)) (fun k h1 => h1.1)
 obtain ⟨h2,_,_,q,hq,cells,hc⟩:=h1
 exact hk.2 k hl (hgt k h2) (blk_types hc hgk (ht q hq)) (blk_types hc hgo (ht q hq))
theorem kepts_S {α : Type} {d : Kd α} {e base : Nat} {ok : Nat → Prop} {v : Value} {xs : List α} {c : SC} {W W' : World} (hk : KeptS c W W') (h : Kd.S d e W base ok v xs) (ht : ∀ q,q ∈ e :: d.E → q ≠ 4) {x1 x2 : Array Value} (hgk : W.heap[c.gk]? = some (.cells x1 4 (0,0))) (hgo : W.heap[c.go]? = some (.cells x2 4 (0,0))) (hgt : ∀ k,ok k → k ≠ c.gt) : Kd.S d e W' base ok v xs:=by
 refine Kd.S_mono (Kd.S_step (Kd.S_bound h) (fun k h1 hl => ?_)) (fun k h1 => h1.1)
 obtain ⟨h2,_,_,q,hq,cells,hc⟩:=h1
 exact hk.2 k hl (hgt k h2) (blk_types hc hgk (ht q hq)) (blk_types hc hgo (ht q hq))
theorem x_lst {A : Option Addr} {n c : Nat} (m : List Bool) (W : World) (hn : m.length = n) (hl : n ≤ 1000) (hr : Kd.C Kd.bool W A m.length m) (hc : n ≤ c) :
  Calls Try.prog 42 #[.slice A n c] W fun e w' => ∃ v,e = .returned v ∧ Kd.R (Kd.int .i64) 3 w' W.heap.size (fun _ => True) v (lstS m) ∧ Below W.heap.size W w':=by
 subst hn
 exact spec_l19List.calls 2000 A c m (lstS m) W hr hc (slist_eq m (by omega) _ (fun _ _ => rfl) 2000 (by omega))
def RunPost (w : World) (ok : Bool) (fin : List (List Int) × List (List Int)) (e : Ending) (w' : World) : Prop :=
 ∃ (v1 v2 : Value) (P Q : Nat → Prop),e = .returned (.tuple #[.agg #[v1,v2],.bool ok]) ∧ (∀ k,P k → ¬ Q k) ∧ Kd.S (Kd.slice 3 (Kd.int .i64)) 24 w' w.heap.size P v1 fin.1 ∧ Kd.S (Kd.slice 3 (Kd.int .i64)) 24 w' w.heap.size Q v2 fin.2 ∧ Below w.heap.size w w'
theorem alloc5 (w : World) (o1 o2 o3 o4 o5 : Obj) : ((((((w.alloc o1).alloc o2).alloc o3).alloc o4).alloc o5).heap[w.heap.size]? = some o1 ∧ (((((w.alloc o1).alloc o2).alloc o3).alloc o4).alloc o5).heap[w.heap.size + 1]? = some o2 ∧ (((((w.alloc o1).alloc o2).alloc o3).alloc o4).alloc o5).heap[w.heap.size + 2]? = some o3 ∧
  (((((w.alloc o1).alloc o2).alloc o3).alloc o4).alloc o5).heap[w.heap.size + 3]? = some o4 ∧ (((((w.alloc o1).alloc o2).alloc o3).alloc o4).alloc o5).heap[w.heap.size + 4]? = some o5 ∧ Below w.heap.size w (((((w.alloc o1).alloc o2).alloc o3).alloc o4).alloc o5)) :=
 ⟨ka_ (ka_ (ka_ (ka_ (blk_new _ _) _) _) _) _,ka_ (ka_ (ka_ (blk_new_at _ _ (by simp)) _) _) _,ka_ (ka_ (blk_new_at _ _ (by simp)) _) _,ka_ (blk_new_at _ _ (by simp)) _,blk_new_at _ _ (by simp),ba_ (ba_ (ba_ (ba_ (ba_ (Below.refl _ w) _) _) _) _) _⟩
set_option maxHeartbeats 16000000 in
set_option maxRecDepth 1000000 in
theorem x_RunNetS (nb : Int) (A1 : Option Addr) (c1 : Nat) (cs : List S83) (A2 : Option Addr) (c2 : Nat) (hs : List Int) (A3 : Option Addr) (c3 : Nat) (vs : List Int) (A4 : Option Addr) (c4 : Nat) (l4 : List S37) (w : World) (fin : List (List Int) × List (List Int)) (hfin : if runB nb cs hs vs l4 = true then framesS cs (treeX nb cs) hs vs l4 (List.replicate (nb * 150).toNat (-1)) = some fin else fin = ([], []))
    (hr1 : Kd.C k83 w A1 cs.length cs) (hc1 : cs.length ≤ c1) (hr2 : Kd.C (Kd.int .i64) w A2 hs.length hs) (hc2 : hs.length ≤ c2) (hr3 : Kd.C (Kd.int .i64) w A3 vs.length vs) (hc3 : vs.length ≤ c3) (hr4 : Kd.C k37 w A4 l4.length l4) (hc4 : l4.length ≤ c4) :
    Calls Try.prog 10 #[.agg #[.int .i64 nb,.slice A1 cs.length c1,.slice A2 hs.length c2,.slice A3 vs.length c3],.slice A4 l4.length c4] w (RunPost w (runB nb cs hs vs l4) fin):=by
  have hu:=Try.underlying32
  have hu2:=Try.underlying26
  have hu3:=Try.underlying37
  have hu4:=Try.underlying77
  have hnv:=fun W (hW : Below w.heap.size w W) => spec_NetValid.calls (hs.length + vs.length + cs.length + 4) nb A1 c1 cs A2 c2 hs A3 c3 vs (netB nb cs hs vs) W (Kd.C_below hr1 hW) hc1 (Kd.C_below hr2 hW) hc2 (Kd.C_below hr3 hW) hc3 (snet_eq nb cs hs vs (Kd.C_max hr1) (Kd.C_max hr2) (Kd.C_max hr3) _ (by omega))
  have hl4:=Kd.C_max hr4
  have HNV:=Aside0.mk hnv
  have HR1:=Aside0.mk hr1
  have HR2:=Aside0.mk hr2
  have HR3:=Aside0.mk hr3
  have HR4:=Aside0.mk hr4
  have HC1:=Aside0.mk hc1
  have HC2:=Aside0.mk hc2
  have HC3:=Aside0.mk hc3
  have HC4:=Aside0.mk hc4
  have HFIN:=Aside0.mk hfin
  clear hr1 hr2 hr3 hr4 hc1 hc2 hc3 hc4 hnv hfin
  go_enter Try.func10,Try.ntmps10
  go_upto_region 2 with (fail)
  obtain ⟨f0,f1,f2,f3,f4,f5⟩:=alloc5 w (.cells #[.int .i64 nb,.slice A1 cs.length c1,.slice A2 hs.length c2,.slice A3 vs.length c3] 26) (.cells #[.slice none 0 0,.slice none 0 0] 32) (.cells #[] 24) (.cells #[] 24) (.cells #[.slice (some ⟨w.heap.size + 2,0,none⟩) 0 0,.slice (some ⟨w.heap.size + 3,0,none⟩) 0 0] 32)
  have HN0:=Aside0.mk f0
  have HS0:=Aside0.mk f1
  have H10:=Aside0.mk f2
  have H20:=Aside0.mk f3
  have HO0:=Aside0.mk f4
  have HB0:=Aside0.mk f5
  clear f0 f1 f2 f3 f4 f5
  rw [show w.heap.size + 1 + 1 = w.heap.size + 2 from rfl,show w.heap.size + 2 + 1 = w.heap.size + 3 from rfl,show w.heap.size + 3 + 1 = w.heap.size + 4 from rfl]
  generalize (((((w.alloc (.cells #[.int .i64 nb,.slice A1 cs.length c1,.slice A2 hs.length c2,.slice A3 vs.length c3] 26)).alloc (.cells #[.slice none 0 0,.slice none 0 0] 32)).alloc (.cells #[] 24)).alloc (.cells #[] 24)).alloc (.cells #[.slice (some ⟨w.heap.size + 2,0,none⟩) 0 0,.slice (some ⟨w.heap.size + 3,0,none⟩) 0 0] 32)) = W0 at HN0 HS0 H10 H20 HO0 HB0 ⊢
  have n0 : W0.cell? ⟨w.heap.size,0,none⟩ = some (.int .i64 nb):=(blk_cell HN0.out 0).trans rfl
  have n1 : W0.cell? ⟨w.heap.size,1,none⟩ = some (.slice A1 cs.length c1):=(blk_cell HN0.out 1).trans rfl
  have n2 : W0.cell? ⟨w.heap.size,2,none⟩ = some (.slice A2 hs.length c2):=(blk_cell HN0.out 2).trans rfl
  have n3 : W0.cell? ⟨w.heap.size,3,none⟩ = some (.slice A3 vs.length c3):=(blk_cell HN0.out 3).trans rfl
  have hnv0:=HNV.out W0 HB0.out
  by_cases hz1 : netB nb cs hs vs = true
  rotate_left
  · have HNO : Aside0 (runB nb cs hs vs l4 = false ∧ fin = ([], [])) := ⟨by
      have h1 : runB nb cs hs vs l4 = false:=by unfold runB;rw [Bool.eq_false_iff.2 hz1];rfl
      exact ⟨h1,by have:=HFIN.out;rw [h1,if_neg (by decide)] at this;exact this⟩⟩
    have hz2 : netB nb cs hs vs = false:=Bool.eq_false_iff.2 hz1
    rw [hz2] at hnv0
    have HNV0:=Aside0.mk hnv0
    clear hz1 hz2 hnv0 HNV HFIN HR1 HR2 HR3 HR4 HC1 HC2 HC3 HC4
    go_wp2_with fail
    refine HNV0.out.mono ?_
    rintro e w1 ⟨rfl,hb1⟩
    have HS1:=Aside0.mk (blk_below HS0.out hb1)
    have HO1:=Aside0.mk (blk_below HO0.out hb1)
    have H11:=Aside0.mk (blk_below H10.out hb1)
    have H21:=Aside0.mk (blk_below H20.out hb1)
    have HB1:=Aside0.mk (below_step HB0.out hb1)
    clear hb1 n0 n1 n2 n3 HNV0 HS0 HO0 H10 H20 HB0 HN0
    have e0 : w1.cell? ⟨w.heap.size + 1,0,none⟩ = some (.slice none 0 0):=(blk_cell HS1.out 0).trans rfl
    have e1 : w1.cell? ⟨w.heap.size + 1,1,none⟩ = some (.slice none 0 0):=(blk_cell HS1.out 1).trans rfl
    have g0:=blk_frozen HS1.out 0
    have g1:=blk_frozen HS1.out 1
    have k0 : w1.cell? ⟨w.heap.size + 4,0,none⟩ = some (.slice (some ⟨w.heap.size + 2,0,none⟩) 0 0):=(blk_cell HO1.out 0).trans rfl
    have k1 : w1.cell? ⟨w.heap.size + 4,1,none⟩ = some (.slice (some ⟨w.heap.size + 3,0,none⟩) 0 0):=(blk_cell HO1.out 1).trans rfl
    go_wp2_with fail
    have HY:=nb_setl (nb_setl HS1.out 0 (.slice (some ⟨w.heap.size + 2,0,none⟩) 0 0)) 1 (.slice (some ⟨w.heap.size + 3,0,none⟩) 0 0)
    have BWY:=Aside0.mk ((HB1.out.setCell (p:=⟨w.heap.size + 1,0,none⟩) (Nat.le_succ _) (.slice (some ⟨w.heap.size + 2,0,none⟩) 0 0)).setCell (p:=⟨w.heap.size + 1,1,none⟩) (Nat.le_succ _) (.slice (some ⟨w.heap.size + 3,0,none⟩) 0 0))
    have HX1:=Aside0.mk (nb_seto (nb_seto H11.out (show w.heap.size + 2 ≠ w.heap.size + 1 by omega) 0 (.slice (some ⟨w.heap.size + 2,0,none⟩) 0 0)) (show w.heap.size + 2 ≠ w.heap.size + 1 by omega) 1 (.slice (some ⟨w.heap.size + 3,0,none⟩) 0 0))
    have HX2:=Aside0.mk (nb_seto (nb_seto H21.out (show w.heap.size + 3 ≠ w.heap.size + 1 by omega) 0 (.slice (some ⟨w.heap.size + 2,0,none⟩) 0 0)) (show w.heap.size + 3 ≠ w.heap.size + 1 by omega) 1 (.slice (some ⟨w.heap.size + 3,0,none⟩) 0 0))
    clear e0 e1 g0 g1 k0 k1 HS1 HB1 HO1 H11 H21
    generalize (w1.setCell ⟨w.heap.size + 1,0,none⟩ (.slice (some ⟨w.heap.size + 2,0,none⟩) 0 0)).setCell ⟨w.heap.size + 1,1,none⟩ (.slice (some ⟨w.heap.size + 3,0,none⟩) 0 0) = W10 at HY BWY HX1 HX2 ⊢
    refine bodyPost_ret (results_ct2 rfl _ _ (w.heap.size + 1) 32 #[.slice (some ⟨w.heap.size + 2,0,none⟩) 0 0,.slice (some ⟨w.heap.size + 3,0,none⟩) 0 0] (0,0) _ rfl HY hu rfl (by kernel_rfl)) rfl ?_
    have hno:=HNO.out
    rw [hno.1]
    exact ⟨_,_,fun k => k = w.heap.size + 2,fun k => k = w.heap.size + 3,rfl,fun k h1 h2 => by omega,by rw [hno.2];exact S_empty _ (by omega) HX1.out,by rw [hno.2];exact S_empty _ (by omega) HX2.out,BWY.out⟩
  rw [hz1] at hnv0
  have HNV0:=Aside0.mk hnv0
  have HZ1:=Aside0.mk hz1
  clear hz1 hnv0 HNV
  by_cases h60 : l4.length ≤ 60
  rotate_left
  · have HNO : Aside0 (runB nb cs hs vs l4 = false ∧ fin = ([], [])) := ⟨by
      have h1 : runB nb cs hs vs l4 = false:=by unfold runB;rw [decide_eq_false h60,Bool.false_and,Bool.and_false]
      exact ⟨h1,by have:=HFIN.out;rw [h1,if_neg (by decide)] at this;exact this⟩⟩
    have q1 : ((l4.length : Int) > 60) = True:=eq_true (by omega)
    have q2 : ((60 : Int) < (l4.length : Int)) = True:=eq_true (by omega)
    clear HFIN HR1 HR2 HR3 HR4 HC1 HC2 HC3 HC4 HZ1
    go_wp2_with fail
    refine HNV0.out.mono ?_
    rintro e w1 ⟨rfl,hb1⟩
    have HS1:=Aside0.mk (blk_below HS0.out hb1)
    have HO1:=Aside0.mk (blk_below HO0.out hb1)
    have H11:=Aside0.mk (blk_below H10.out hb1)
    have H21:=Aside0.mk (blk_below H20.out hb1)
    have HB1:=Aside0.mk (below_step HB0.out hb1)
    clear hb1 n0 n1 n2 n3 HNV0 HS0 HO0 H10 H20 HB0 HN0
    have e0 : w1.cell? ⟨w.heap.size + 1,0,none⟩ = some (.slice none 0 0):=(blk_cell HS1.out 0).trans rfl
    have e1 : w1.cell? ⟨w.heap.size + 1,1,none⟩ = some (.slice none 0 0):=(blk_cell HS1.out 1).trans rfl
    have g0:=blk_frozen HS1.out 0
    have g1:=blk_frozen HS1.out 1
    have k0 : w1.cell? ⟨w.heap.size + 4,0,none⟩ = some (.slice (some ⟨w.heap.size + 2,0,none⟩) 0 0):=(blk_cell HO1.out 0).trans rfl
    have k1 : w1.cell? ⟨w.heap.size + 4,1,none⟩ = some (.slice (some ⟨w.heap.size + 3,0,none⟩) 0 0):=(blk_cell HO1.out 1).trans rfl
    go_wp2_with fail
    have HY:=nb_setl (nb_setl HS1.out 0 (.slice (some ⟨w.heap.size + 2,0,none⟩) 0 0)) 1 (.slice (some ⟨w.heap.size + 3,0,none⟩) 0 0)
    have BWY:=Aside0.mk ((HB1.out.setCell (p:=⟨w.heap.size + 1,0,none⟩) (Nat.le_succ _) (.slice (some ⟨w.heap.size + 2,0,none⟩) 0 0)).setCell (p:=⟨w.heap.size + 1,1,none⟩) (Nat.le_succ _) (.slice (some ⟨w.heap.size + 3,0,none⟩) 0 0))
    have HX1:=Aside0.mk (nb_seto (nb_seto H11.out (show w.heap.size + 2 ≠ w.heap.size + 1 by omega) 0 (.slice (some ⟨w.heap.size + 2,0,none⟩) 0 0)) (show w.heap.size + 2 ≠ w.heap.size + 1 by omega) 1 (.slice (some ⟨w.heap.size + 3,0,none⟩) 0 0))
    have HX2:=Aside0.mk (nb_seto (nb_seto H21.out (show w.heap.size + 3 ≠ w.heap.size + 1 by omega) 0 (.slice (some ⟨w.heap.size + 2,0,none⟩) 0 0)) (show w.heap.size + 3 ≠ w.heap.size + 1 by omega) 1 (.slice (some ⟨w.heap.size + 3,0,none⟩) 0 0))
    clear e0 e1 g0 g1 k0 k1 HS1 HB1 HO1 H11 H21
    generalize (w1.setCell ⟨w.heap.size + 1,0,none⟩ (.slice (some ⟨w.heap.size + 2,0,none⟩) 0 0)).setCell ⟨w.heap.size + 1,1,none⟩ (.slice (some ⟨w.heap.size + 3,0,none⟩) 0 0) = W10 at HY BWY HX1 HX2 ⊢
    refine bodyPost_ret (results_ct2 rfl _ _ (w.heap.size + 1) 32 #[.slice (some ⟨w.heap.size + 2,0,none⟩) 0 0,.slice (some ⟨w.heap.size + 3,0,none⟩) 0 0] (0,0) _ rfl HY hu rfl (by kernel_rfl)) rfl ?_
    have hno:=HNO.out
    rw [hno.1]
    exact ⟨_,_,fun k => k = w.heap.size + 2,fun k => k = w.heap.size + 3,rfl,fun k h1 h2 => by omega,by rw [hno.2];exact S_empty _ (by omega) HX1.out,by rw [hno.2];exact S_empty _ (by omega) HX2.out,BWY.out⟩
  have q1 : ((l4.length : Int) > 60) = False:=eq_false (by omega)
  have q2 : ((60 : Int) < (l4.length : Int)) = False:=eq_false (by omega)
  go_wp2_with fail
  refine HNV0.out.mono ?_
  rintro e w1 ⟨rfl,hb1⟩
  have HN1:=Aside0.mk (blk_below HN0.out hb1)
  have HS1:=Aside0.mk (blk_below HS0.out hb1)
  have HO1:=Aside0.mk (blk_below HO0.out hb1)
  have H11:=Aside0.mk (blk_below H10.out hb1)
  have H21:=Aside0.mk (blk_below H20.out hb1)
  have HB1:=Aside0.mk (below_step HB0.out hb1)
  clear hb1 n0 n1 n2 n3 HNV0 HS0 HO0 H10 H20 HB0 HN0
  obtain ⟨nf1,nf2,nf3,nf4,nf5⟩:=netB_more HZ1.out
  have HST:=Aside0.mk (fun (s : Int) (W : World) (hW : Below w.heap.size w W) => spec_l19Station.calls nb A1 c1 cs A2 c2 hs A3 c3 vs s _ W (Kd.C_below HR1.out hW) HC1.out (Kd.C_below HR2.out hW) HC2.out (Kd.C_below HR3.out hW) HC3.out (sstation_eq nb cs hs vs s (by omega)))
  clear nf1 nf2 nf3 nf4 nf5
  go_wp2_with fail
  clear q1 q2
  go_loopg [7] l4.length (fun gg s7 wr => ∃ (kk : Nat),kk ≤ l4.length ∧ l4.length - kk ≤ gg ∧ s7 = .int .i64 (kk : Int) ∧ Aside0 ((l4.take kk).all (hopB nb cs hs vs) = true) ∧
    Aside0 (wr.heap[w.heap.size]? = some (.cells #[.int .i64 nb,.slice A1 cs.length c1,.slice A2 hs.length c2,.slice A3 vs.length c3] 26 (0,0))) ∧ Aside0 (wr.heap[w.heap.size + 1]? = some (.cells #[.slice none 0 0,.slice none 0 0] 32 (0,0))) ∧ Aside0 (wr.heap[w.heap.size + 4]? = some (.cells #[.slice (some ⟨w.heap.size + 2,0,none⟩) 0 0,.slice (some ⟨w.heap.size + 3,0,none⟩) 0 0] 32 (0,0))) ∧
    Aside0 (wr.heap[w.heap.size + 2]? = some (.cells #[] 24 (0,0))) ∧ Aside0 (wr.heap[w.heap.size + 3]? = some (.cells #[] 24 (0,0))) ∧ Aside0 (Below w.heap.size w wr))
  case atStart => exact ⟨0,Nat.zero_le _,Nat.le_refl _,rfl,⟨by rw [List.take_zero];rfl⟩,HN1,HS1,HO1,H11,H21,HB1⟩
  case round =>
    clear HN1 HS1 HO1 H11 H21 HB1
    obtain ⟨kk,hkk,hgg,rfl,HALL,HNR,HSR,HOR,H1R,H2R,HBR⟩:=hrel
    by_cases hlt : kk < l4.length
    · obtain ⟨ad,ea,hx0,hx1,hx2⟩:=at_T37 (Kd.C_below HR4.out HBR.out) (kk : Int) (by omega) (by omega)
      rw [Int.toNat_natCast,rdHop_get l4 kk hlt] at hx0 hx1
      have hlc4:=HC4.out
      have p1 : ((kk : Int) < (l4.length : Int)) = True:=eq_true (by omega)
      have p2 : (kk < l4.length) = True:=eq_true hlt
      have hno_of : hopB nb cs hs vs l4[kk] = false → runB nb cs hs vs l4 = false ∧ fin = ([],[]):=fun h => by
        have h1 : runB nb cs hs vs l4 = false:=by
          unfold runB
          rw [show l4.all (hopB nb cs hs vs) = false from by
            rw [List.all_eq_false]
            exact ⟨l4[kk],List.getElem_mem hlt,by rw [h];decide⟩]
          rw [Bool.and_false,Bool.and_false]
        exact ⟨h1,by have:=HFIN.out;rw [h1,if_neg (by decide)] at this;exact this⟩
      have HALLN0 : hopB nb cs hs vs l4[kk] = true → Aside0 ((l4.take (kk + 1)).all (hopB nb cs hs vs) = true):=fun h => ⟨by rw [List.take_succ_eq_append_getElem hlt,List.all_append,HALL.out];simp [h]⟩
      have hhd : ∀ s,stB nb cs hs vs s = decide (0 ≤ s ∧ s < hs.length):=fun s => by unfold stB;rw [HZ1.out];simp
      have hhx : hopB nb cs hs vs l4[kk] = (decide (0 ≤ l4[kk].f0 ∧ l4[kk].f0 < hs.length) && (decide (0 ≤ l4[kk].f1 ∧ l4[kk].f1 < hs.length) || l4[kk].f1 == 15)):=by unfold hopB;rw [hhd,hhd]
      have HNOF:=Aside0.mk hno_of
      have HALLF:=Aside0.mk HALLN0
      have HHX:=Aside0.mk hhx
      clear hno_of HALLN0 hhd hhx HALL
      have hst0:=HST.out l4[kk].f0 wr.drew (below_drew HBR.out)
      have hst1:=fun W (hW : Below w.heap.size w W) => HST.out l4[kk].f1 W hW
      have HST0:=Aside0.mk hst0
      have HST1:=Aside0.mk hst1
      clear hst0 hst1 hx2
      generalize hopB nb cs hs vs l4[kk] = hb at HNOF HALLF HHX
      generalize decide (0 ≤ l4[kk].f0 ∧ l4[kk].f0 < hs.length) = z0 at HHX HST0
      generalize decide (0 ≤ l4[kk].f1 ∧ l4[kk].f1 < hs.length) = z1 at HHX HST1
      generalize l4[kk].f0 = x0 at hx0 HST0
      generalize l4[kk].f1 = x1 at hx1 HST1 HHX
      have n0z : wr.drew.cell? ⟨w.heap.size,0,none⟩ = some (.int .i64 nb):=(blk_cell HNR.out 0).trans rfl
      have n1z : wr.drew.cell? ⟨w.heap.size,1,none⟩ = some (.slice A1 cs.length c1):=(blk_cell HNR.out 1).trans rfl
      have n2z : wr.drew.cell? ⟨w.heap.size,2,none⟩ = some (.slice A2 hs.length c2):=(blk_cell HNR.out 2).trans rfl
      have n3z : wr.drew.cell? ⟨w.heap.size,3,none⟩ = some (.slice A3 vs.length c3):=(blk_cell HNR.out 3).trans rfl
      rw [ea]
      have EA:=Aside0.mk ea
      clear ea
      go_upto_region 7 with (fail)
      cases z0 with
      | false =>
        have HNO : Aside0 (runB nb cs hs vs l4 = false ∧ fin = ([],[])):=⟨HNOF.out (by rw [HHX.out];rfl)⟩
        clear HNOF HALLF HHX HST1
        refine start_ (n:=26) (S:=fun w' => w'.cell? ⟨w.heap.size,0,none⟩ = some (.int .i64 nb) ∧ w'.cell? ⟨w.heap.size,1,none⟩ = some (.slice A1 cs.length c1) ∧ w'.cell? ⟨w.heap.size,2,none⟩ = some (.slice A2 hs.length c2) ∧ w'.cell? ⟨w.heap.size,3,none⟩ = some (.slice A3 vs.length c3) ∧ w'.cell? (ad.add (kk * 3)) = some (.int .i64 x0) ∧ w'.cell? ⟨(ad.add (kk * 3)).block,(ad.add (kk * 3)).off + 1,none⟩ = some (.int .i64 x1)) (ds:=[]) #[false,false,false,false,false,false,false,false,false,false,false,false,false,false,false,false,false,false,false,false,false,false,false,false,false,false] (by kernel_rfl) rfl rfl ⟨n0z,n1z,n2z,n3z,hx0,hx1⟩ (fun hHeld => ?_)
        refine pu_ (i:=1) (N:=some 31) 26 2 ?_
        refine pu_ (i:=2) (N:=some 32) 26 6 ?_
        refine pu_ (i:=3) (N:=some 33) 26 14 ?_
        refine pu_ (i:=4) (N:=some 34) 26 30 ?_
        refine ta6_ (i:=0) (N:=some 30) 26 31 hHeld ?_
        refine ta6_ (i:=5) (N:=some 35) 26 63 hHeld ?_
        refine on_ (i:=6) (N:=some 36) 26 127 (fun K hK => ?_)
        refine goes_ Try.func39 (by kernel_rfl) rfl #[.agg #[.int .i64 nb,.slice A1 cs.length c1,.slice A2 hs.length c2,.slice A3 vs.length c3],.int .i64 x0] (by rfl) rfl rfl (by simp only [List.map_toArray,List.map_cons,List.map_nil];rfl) ?_
        with_reducible refine (HST0.out).mono ?_
        rintro e w6 ⟨rfl,hba⟩
        refine ⟨_,rfl,?_⟩
        have HD6:=Aside0.mk (below_step (below_drew (Below.refl wr.heap.size wr)) hba)
        have HN6:=Aside0.mk (blk_below HNR.out HD6.out)
        have n0a : w6.cell? ⟨w.heap.size,0,none⟩ = some (.int .i64 nb):=(blk_cell HN6.out 0).trans rfl
        have n1a : w6.cell? ⟨w.heap.size,1,none⟩ = some (.slice A1 cs.length c1):=(blk_cell HN6.out 1).trans rfl
        have n2a : w6.cell? ⟨w.heap.size,2,none⟩ = some (.slice A2 hs.length c2):=(blk_cell HN6.out 2).trans rfl
        have n3a : w6.cell? ⟨w.heap.size,3,none⟩ = some (.slice A3 vs.length c3):=(blk_cell HN6.out 3).trans rfl
        have hy0a:=(HD6.out.cell (p:=ad.add (kk * 3)) (World.block_lt_of_cell? wr (ad.add (kk * 3)) hx0)).trans hx0
        have hy1a:=(HD6.out.cell (p:=⟨(ad.add (kk * 3)).block,(ad.add (kk * 3)).off + 1,none⟩) (World.block_lt_of_cell? wr ⟨(ad.add (kk * 3)).block,(ad.add (kk * 3)).off + 1,none⟩ hx1)).trans hx1
        clear hba
        refine hK.out _ _ ⟨n0a,n1a,n2a,n3a,hy0a,hy1a⟩ (fun hHeld => ?_)
        clear hK K
        refine norm_ (a':=?_) ?_ ?_
        rotate_left
        · show Act.put _ (some 36) _ = _
          simp only [Act.put,sx_,sy_,sz_,i64_w,i32_w]
          rfl
        refine pu_ (i:=7) (N:=some 37) 26 255 ?_
        refine pu_ (i:=8) (N:=some 38) 26 511 ?_
        refine pz_ (i:=9) (N:=some 39) 26 1023 ?_
        refine pz_ (i:=10) (N:=some 40) 26 2047 ?_
        refine pz_ (i:=11) (N:=some 41) 26 4095 ?_
        refine pz_ (i:=12) (N:=some 42) 26 8191 ?_
        refine pz_ (i:=13) (N:=some 43) 26 16383 ?_
        refine pz_ (i:=14) (N:=some 44) 26 32767 ?_
        refine pz_ (i:=15) (N:=some 45) 26 65535 ?_
        refine pz_ (i:=16) (N:=some 46) 26 131071 ?_
        refine pz_ (i:=17) (N:=some 47) 26 262143 ?_
        refine pz_ (i:=18) (N:=some 48) 26 524287 ?_
        refine pz_ (i:=19) (N:=some 49) 26 1048575 ?_
        refine pz_ (i:=20) (N:=some 50) 26 2097151 ?_
        refine pz_ (i:=21) (N:=some 51) 26 4194303 ?_
        refine pz_ (i:=22) (N:=some 52) 26 8388607 ?_
        refine pz_ (i:=23) (N:=some 53) 26 16777215 ?_
        refine pz_ (i:=24) (N:=some 54) 26 33554431 ?_
        refine pu_ (i:=25) (N:=some 55) 26 67108863 ?_
        refine done_ (by kernel_rfl) ?_
        have HS9:=Aside0.mk (blk_below HSR.out HD6.out)
        have HO9:=Aside0.mk (blk_below HOR.out HD6.out)
        have H19:=Aside0.mk (blk_below H1R.out HD6.out)
        have H29:=Aside0.mk (blk_below H2R.out HD6.out)
        have HB9:=Aside0.mk (below_step HBR.out HD6.out)
        have e0 : w6.cell? ⟨w.heap.size + 1,0,none⟩ = some (.slice none 0 0):=(blk_cell HS9.out 0).trans rfl
        have e1 : w6.cell? ⟨w.heap.size + 1,1,none⟩ = some (.slice none 0 0):=(blk_cell HS9.out 1).trans rfl
        have g0:=blk_frozen HS9.out 0
        have g1:=blk_frozen HS9.out 1
        have k0 : w6.cell? ⟨w.heap.size + 4,0,none⟩ = some (.slice (some ⟨w.heap.size + 2,0,none⟩) 0 0):=(blk_cell HO9.out 0).trans rfl
        have k1 : w6.cell? ⟨w.heap.size + 4,1,none⟩ = some (.slice (some ⟨w.heap.size + 3,0,none⟩) 0 0):=(blk_cell HO9.out 1).trans rfl
        go_wp2_with fail
        have HY:=nb_setl (nb_setl HS9.out 0 (.slice (some ⟨w.heap.size + 2,0,none⟩) 0 0)) 1 (.slice (some ⟨w.heap.size + 3,0,none⟩) 0 0)
        have BWY:=Aside0.mk ((HB9.out.setCell (p:=⟨w.heap.size + 1,0,none⟩) (Nat.le_succ _) (.slice (some ⟨w.heap.size + 2,0,none⟩) 0 0)).setCell (p:=⟨w.heap.size + 1,1,none⟩) (Nat.le_succ _) (.slice (some ⟨w.heap.size + 3,0,none⟩) 0 0))
        have HX1:=Aside0.mk (nb_seto (nb_seto H19.out (show w.heap.size + 2 ≠ w.heap.size + 1 by omega) 0 (.slice (some ⟨w.heap.size + 2,0,none⟩) 0 0)) (show w.heap.size + 2 ≠ w.heap.size + 1 by omega) 1 (.slice (some ⟨w.heap.size + 3,0,none⟩) 0 0))
        have HX2:=Aside0.mk (nb_seto (nb_seto H29.out (show w.heap.size + 3 ≠ w.heap.size + 1 by omega) 0 (.slice (some ⟨w.heap.size + 2,0,none⟩) 0 0)) (show w.heap.size + 3 ≠ w.heap.size + 1 by omega) 1 (.slice (some ⟨w.heap.size + 3,0,none⟩) 0 0))
        clear e0 e1 g0 g1 k0 k1 HS9 HB9 HO9 H19 H29
        generalize (w6.setCell ⟨w.heap.size + 1,0,none⟩ (.slice (some ⟨w.heap.size + 2,0,none⟩) 0 0)).setCell ⟨w.heap.size + 1,1,none⟩ (.slice (some ⟨w.heap.size + 3,0,none⟩) 0 0) = W10 at HY BWY HX1 HX2 ⊢
        refine bodyPost_ret (results_ct2 rfl _ _ (w.heap.size + 1) 32 #[.slice (some ⟨w.heap.size + 2,0,none⟩) 0 0,.slice (some ⟨w.heap.size + 3,0,none⟩) 0 0] (0,0) _ rfl HY hu rfl (by kernel_rfl)) rfl ?_
        have hno:=HNO.out
        rw [hno.1]
        exact ⟨_,_,fun k => k = w.heap.size + 2,fun k => k = w.heap.size + 3,rfl,fun k h1 h2 => by omega,by rw [hno.2];exact S_empty _ (by omega) HX1.out,by rw [hno.2];exact S_empty _ (by omega) HX2.out,BWY.out⟩
      | true =>
        cases z1 with
        | true =>
          have HALLN:=HALLF.out (by rw [HHX.out];rfl)
          clear HNOF HALLF HHX
          refine start_ (n:=26) (S:=fun w' => w'.cell? ⟨w.heap.size,0,none⟩ = some (.int .i64 nb) ∧ w'.cell? ⟨w.heap.size,1,none⟩ = some (.slice A1 cs.length c1) ∧ w'.cell? ⟨w.heap.size,2,none⟩ = some (.slice A2 hs.length c2) ∧ w'.cell? ⟨w.heap.size,3,none⟩ = some (.slice A3 vs.length c3) ∧ w'.cell? (ad.add (kk * 3)) = some (.int .i64 x0) ∧ w'.cell? ⟨(ad.add (kk * 3)).block,(ad.add (kk * 3)).off + 1,none⟩ = some (.int .i64 x1)) (ds:=[]) #[false,false,false,false,false,false,false,false,false,false,false,false,false,false,false,false,false,false,false,false,false,false,false,false,false,false] (by kernel_rfl) rfl rfl ⟨n0z,n1z,n2z,n3z,hx0,hx1⟩ (fun hHeld => ?_)
          refine pu_ (i:=1) (N:=some 31) 26 2 ?_
          refine pu_ (i:=2) (N:=some 32) 26 6 ?_
          refine pu_ (i:=3) (N:=some 33) 26 14 ?_
          refine pu_ (i:=4) (N:=some 34) 26 30 ?_
          refine ta6_ (i:=0) (N:=some 30) 26 31 hHeld ?_
          refine ta6_ (i:=5) (N:=some 35) 26 63 hHeld ?_
          refine on_ (i:=6) (N:=some 36) 26 127 (fun K hK => ?_)
          refine goes_ Try.func39 (by kernel_rfl) rfl #[.agg #[.int .i64 nb,.slice A1 cs.length c1,.slice A2 hs.length c2,.slice A3 vs.length c3],.int .i64 x0] (by rfl) rfl rfl (by simp only [List.map_toArray,List.map_cons,List.map_nil];rfl) ?_
          with_reducible refine (HST0.out).mono ?_
          rintro e w6 ⟨rfl,hba⟩
          refine ⟨_,rfl,?_⟩
          have HD6:=Aside0.mk (below_step (below_drew (Below.refl wr.heap.size wr)) hba)
          have HN6:=Aside0.mk (blk_below HNR.out HD6.out)
          have n0a : w6.cell? ⟨w.heap.size,0,none⟩ = some (.int .i64 nb):=(blk_cell HN6.out 0).trans rfl
          have n1a : w6.cell? ⟨w.heap.size,1,none⟩ = some (.slice A1 cs.length c1):=(blk_cell HN6.out 1).trans rfl
          have n2a : w6.cell? ⟨w.heap.size,2,none⟩ = some (.slice A2 hs.length c2):=(blk_cell HN6.out 2).trans rfl
          have n3a : w6.cell? ⟨w.heap.size,3,none⟩ = some (.slice A3 vs.length c3):=(blk_cell HN6.out 3).trans rfl
          have hy0a:=(HD6.out.cell (p:=ad.add (kk * 3)) (World.block_lt_of_cell? wr (ad.add (kk * 3)) hx0)).trans hx0
          have hy1a:=(HD6.out.cell (p:=⟨(ad.add (kk * 3)).block,(ad.add (kk * 3)).off + 1,none⟩) (World.block_lt_of_cell? wr ⟨(ad.add (kk * 3)).block,(ad.add (kk * 3)).off + 1,none⟩ hx1)).trans hx1
          clear hba
          refine hK.out _ _ ⟨n0a,n1a,n2a,n3a,hy0a,hy1a⟩ (fun hHeld => ?_)
          clear hK K
          refine norm_ (a':=?_) ?_ ?_
          rotate_left
          · show Act.put _ (some 36) _ = _
            simp only [Act.put,sx_,sy_,sz_,i64_w,i32_w]
            rfl
          refine pu_ (i:=7) (N:=some 37) 26 255 ?_
          refine pu_ (i:=8) (N:=some 38) 26 511 ?_
          refine pu_ (i:=10) (N:=some 40) 26 1535 ?_
          refine pu_ (i:=11) (N:=some 41) 26 3583 ?_
          refine pu_ (i:=12) (N:=some 42) 26 7679 ?_
          refine pu_ (i:=13) (N:=some 43) 26 15871 ?_
          refine ta6_ (i:=9) (N:=some 39) 26 16383 hHeld ?_
          refine ta6_ (i:=14) (N:=some 44) 26 32767 hHeld ?_
          refine on_ (i:=15) (N:=some 45) 26 65535 (fun K hK => ?_)
          refine goes_ Try.func39 (by kernel_rfl) rfl #[.agg #[.int .i64 nb,.slice A1 cs.length c1,.slice A2 hs.length c2,.slice A3 vs.length c3],.int .i64 x1] (by rfl) rfl rfl (by simp only [List.map_toArray,List.map_cons,List.map_nil];rfl) ?_
          with_reducible refine ((HST1.out w6 (below_step HBR.out HD6.out))).mono ?_
          rintro e w7 ⟨rfl,hbb⟩
          refine ⟨_,rfl,?_⟩
          have HD7:=Aside0.mk (below_step HD6.out hbb)
          have HN7:=Aside0.mk (blk_below HNR.out HD7.out)
          have n0b : w7.cell? ⟨w.heap.size,0,none⟩ = some (.int .i64 nb):=(blk_cell HN7.out 0).trans rfl
          have n1b : w7.cell? ⟨w.heap.size,1,none⟩ = some (.slice A1 cs.length c1):=(blk_cell HN7.out 1).trans rfl
          have n2b : w7.cell? ⟨w.heap.size,2,none⟩ = some (.slice A2 hs.length c2):=(blk_cell HN7.out 2).trans rfl
          have n3b : w7.cell? ⟨w.heap.size,3,none⟩ = some (.slice A3 vs.length c3):=(blk_cell HN7.out 3).trans rfl
          have hy0b:=(HD7.out.cell (p:=ad.add (kk * 3)) (World.block_lt_of_cell? wr (ad.add (kk * 3)) hx0)).trans hx0
          have hy1b:=(HD7.out.cell (p:=⟨(ad.add (kk * 3)).block,(ad.add (kk * 3)).off + 1,none⟩) (World.block_lt_of_cell? wr ⟨(ad.add (kk * 3)).block,(ad.add (kk * 3)).off + 1,none⟩ hx1)).trans hx1
          clear hbb
          refine hK.out _ _ ⟨n0b,n1b,n2b,n3b,hy0b,hy1b⟩ (fun hHeld => ?_)
          clear hK K
          refine norm_ (a':=?_) ?_ ?_
          rotate_left
          · show Act.put _ (some 45) _ = _
            simp only [Act.put,sx_,sy_,sz_,i64_w,i32_w]
            rfl
          refine pu_ (i:=16) (N:=some 46) 26 131071 ?_
          refine pu_ (i:=17) (N:=some 47) 26 262143 ?_
          refine pz_ (i:=18) (N:=some 48) 26 524287 ?_
          refine pz_ (i:=19) (N:=some 49) 26 1048575 ?_
          refine pz_ (i:=20) (N:=some 50) 26 2097151 ?_
          refine pz_ (i:=21) (N:=some 51) 26 4194303 ?_
          refine pz_ (i:=22) (N:=some 52) 26 8388607 ?_
          refine pz_ (i:=23) (N:=some 53) 26 16777215 ?_
          refine pu_ (i:=24) (N:=some 54) 26 33554431 ?_
          refine pu_ (i:=25) (N:=some 55) 26 67108863 ?_
          refine done_ (by kernel_rfl) ?_
          have HS9:=Aside0.mk (blk_below HSR.out HD7.out)
          have HN9:=Aside0.mk (blk_below HNR.out HD7.out)
          have HO9:=Aside0.mk (blk_below HOR.out HD7.out)
          have H19:=Aside0.mk (blk_below H1R.out HD7.out)
          have H29:=Aside0.mk (blk_below H2R.out HD7.out)
          have HB9:=Aside0.mk (below_step HBR.out HD7.out)
          clear HSR HNR HOR H1R H2R HBR
          go_wp2_with fail
          rw [← EA.out]
          go_roundg (l4.length - (kk + 1))
          case measure => omega
          case rel => exact ⟨kk + 1,by omega,by omega,by go_num,HALLN,HN9,HS9,HO9,H19,H29,HB9⟩
        | false =>
          by_cases c15 : x1 = 15
          · have HALLN:=HALLF.out (by rw [HHX.out,c15];rfl)
            have q15 : (x1 != 15) = false:=by simp [c15]
            clear HNOF HALLF HHX c15
            refine start_ (n:=26) (S:=fun w' => w'.cell? ⟨w.heap.size,0,none⟩ = some (.int .i64 nb) ∧ w'.cell? ⟨w.heap.size,1,none⟩ = some (.slice A1 cs.length c1) ∧ w'.cell? ⟨w.heap.size,2,none⟩ = some (.slice A2 hs.length c2) ∧ w'.cell? ⟨w.heap.size,3,none⟩ = some (.slice A3 vs.length c3) ∧ w'.cell? (ad.add (kk * 3)) = some (.int .i64 x0) ∧ w'.cell? ⟨(ad.add (kk * 3)).block,(ad.add (kk * 3)).off + 1,none⟩ = some (.int .i64 x1)) (ds:=[]) #[false,false,false,false,false,false,false,false,false,false,false,false,false,false,false,false,false,false,false,false,false,false,false,false,false,false] (by kernel_rfl) rfl rfl ⟨n0z,n1z,n2z,n3z,hx0,hx1⟩ (fun hHeld => ?_)
            refine pu_ (i:=1) (N:=some 31) 26 2 ?_
            refine pu_ (i:=2) (N:=some 32) 26 6 ?_
            refine pu_ (i:=3) (N:=some 33) 26 14 ?_
            refine pu_ (i:=4) (N:=some 34) 26 30 ?_
            refine ta6_ (i:=0) (N:=some 30) 26 31 hHeld ?_
            refine ta6_ (i:=5) (N:=some 35) 26 63 hHeld ?_
            refine on_ (i:=6) (N:=some 36) 26 127 (fun K hK => ?_)
            refine goes_ Try.func39 (by kernel_rfl) rfl #[.agg #[.int .i64 nb,.slice A1 cs.length c1,.slice A2 hs.length c2,.slice A3 vs.length c3],.int .i64 x0] (by rfl) rfl rfl (by simp only [List.map_toArray,List.map_cons,List.map_nil];rfl) ?_
            with_reducible refine (HST0.out).mono ?_
            rintro e w6 ⟨rfl,hba⟩
            refine ⟨_,rfl,?_⟩
            have HD6:=Aside0.mk (below_step (below_drew (Below.refl wr.heap.size wr)) hba)
            have HN6:=Aside0.mk (blk_below HNR.out HD6.out)
            have n0a : w6.cell? ⟨w.heap.size,0,none⟩ = some (.int .i64 nb):=(blk_cell HN6.out 0).trans rfl
            have n1a : w6.cell? ⟨w.heap.size,1,none⟩ = some (.slice A1 cs.length c1):=(blk_cell HN6.out 1).trans rfl
            have n2a : w6.cell? ⟨w.heap.size,2,none⟩ = some (.slice A2 hs.length c2):=(blk_cell HN6.out 2).trans rfl
            have n3a : w6.cell? ⟨w.heap.size,3,none⟩ = some (.slice A3 vs.length c3):=(blk_cell HN6.out 3).trans rfl
            have hy0a:=(HD6.out.cell (p:=ad.add (kk * 3)) (World.block_lt_of_cell? wr (ad.add (kk * 3)) hx0)).trans hx0
            have hy1a:=(HD6.out.cell (p:=⟨(ad.add (kk * 3)).block,(ad.add (kk * 3)).off + 1,none⟩) (World.block_lt_of_cell? wr ⟨(ad.add (kk * 3)).block,(ad.add (kk * 3)).off + 1,none⟩ hx1)).trans hx1
            clear hba
            refine hK.out _ _ ⟨n0a,n1a,n2a,n3a,hy0a,hy1a⟩ (fun hHeld => ?_)
            clear hK K
            refine norm_ (a':=?_) ?_ ?_
            rotate_left
            · show Act.put _ (some 36) _ = _
              simp only [Act.put,sx_,sy_,sz_,i64_w,i32_w]
              rfl
            refine pu_ (i:=7) (N:=some 37) 26 255 ?_
            refine pu_ (i:=8) (N:=some 38) 26 511 ?_
            refine pu_ (i:=10) (N:=some 40) 26 1535 ?_
            refine pu_ (i:=11) (N:=some 41) 26 3583 ?_
            refine pu_ (i:=12) (N:=some 42) 26 7679 ?_
            refine pu_ (i:=13) (N:=some 43) 26 15871 ?_
            refine ta6_ (i:=9) (N:=some 39) 26 16383 hHeld ?_
            refine ta6_ (i:=14) (N:=some 44) 26 32767 hHeld ?_
            refine on_ (i:=15) (N:=some 45) 26 65535 (fun K hK => ?_)
            refine goes_ Try.func39 (by kernel_rfl) rfl #[.agg #[.int .i64 nb,.slice A1 cs.length c1,.slice A2 hs.length c2,.slice A3 vs.length c3],.int .i64 x1] (by rfl) rfl rfl (by simp only [List.map_toArray,List.map_cons,List.map_nil];rfl) ?_
            with_reducible refine ((HST1.out w6 (below_step HBR.out HD6.out))).mono ?_
            rintro e w7 ⟨rfl,hbb⟩
            refine ⟨_,rfl,?_⟩
            have HD7:=Aside0.mk (below_step HD6.out hbb)
            have HN7:=Aside0.mk (blk_below HNR.out HD7.out)
            have n0b : w7.cell? ⟨w.heap.size,0,none⟩ = some (.int .i64 nb):=(blk_cell HN7.out 0).trans rfl
            have n1b : w7.cell? ⟨w.heap.size,1,none⟩ = some (.slice A1 cs.length c1):=(blk_cell HN7.out 1).trans rfl
            have n2b : w7.cell? ⟨w.heap.size,2,none⟩ = some (.slice A2 hs.length c2):=(blk_cell HN7.out 2).trans rfl
            have n3b : w7.cell? ⟨w.heap.size,3,none⟩ = some (.slice A3 vs.length c3):=(blk_cell HN7.out 3).trans rfl
            have hy0b:=(HD7.out.cell (p:=ad.add (kk * 3)) (World.block_lt_of_cell? wr (ad.add (kk * 3)) hx0)).trans hx0
            have hy1b:=(HD7.out.cell (p:=⟨(ad.add (kk * 3)).block,(ad.add (kk * 3)).off + 1,none⟩) (World.block_lt_of_cell? wr ⟨(ad.add (kk * 3)).block,(ad.add (kk * 3)).off + 1,none⟩ hx1)).trans hx1
            clear hbb
            refine hK.out _ _ ⟨n0b,n1b,n2b,n3b,hy0b,hy1b⟩ (fun hHeld => ?_)
            clear hK K
            refine norm_ (a':=?_) ?_ ?_
            rotate_left
            · show Act.put _ (some 45) _ = _
              simp only [Act.put,sx_,sy_,sz_,i64_w,i32_w]
              rfl
            refine pu_ (i:=16) (N:=some 46) 26 131071 ?_
            refine pu_ (i:=17) (N:=some 47) 26 262143 ?_
            refine pu_ (i:=18) (N:=some 48) 26 524287 ?_
            refine pu_ (i:=19) (N:=some 49) 26 1048575 ?_
            refine pu_ (i:=20) (N:=some 50) 26 2097151 ?_
            refine pu_ (i:=21) (N:=some 51) 26 4194303 ?_
            refine ta6_ (i:=22) (N:=some 52) 26 8388607 hHeld ?_
            refine pu_ (i:=23) (N:=some 53) 26 16777215 ?_
            refine pu_ (i:=24) (N:=some 54) 26 33554431 ?_
            refine pu_ (i:=25) (N:=some 55) 26 67108863 ?_
            refine done_ (by kernel_rfl) ?_
            have HS9:=Aside0.mk (blk_below HSR.out HD7.out)
            have HN9:=Aside0.mk (blk_below HNR.out HD7.out)
            have HO9:=Aside0.mk (blk_below HOR.out HD7.out)
            have H19:=Aside0.mk (blk_below H1R.out HD7.out)
            have H29:=Aside0.mk (blk_below H2R.out HD7.out)
            have HB9:=Aside0.mk (below_step HBR.out HD7.out)
            clear HSR HNR HOR H1R H2R HBR
            go_wp2_with fail
            rw [← EA.out]
            go_roundg (l4.length - (kk + 1))
            case measure => omega
            case rel => exact ⟨kk + 1,by omega,by omega,by go_num,HALLN,HN9,HS9,HO9,H19,H29,HB9⟩
          · have HNO : Aside0 (runB nb cs hs vs l4 = false ∧ fin = ([],[])):=⟨HNOF.out (by rw [HHX.out];simp [c15])⟩
            have q15 : (x1 != 15) = true:=by simp [c15]
            clear HNOF HALLF HHX c15
            refine start_ (n:=26) (S:=fun w' => w'.cell? ⟨w.heap.size,0,none⟩ = some (.int .i64 nb) ∧ w'.cell? ⟨w.heap.size,1,none⟩ = some (.slice A1 cs.length c1) ∧ w'.cell? ⟨w.heap.size,2,none⟩ = some (.slice A2 hs.length c2) ∧ w'.cell? ⟨w.heap.size,3,none⟩ = some (.slice A3 vs.length c3) ∧ w'.cell? (ad.add (kk * 3)) = some (.int .i64 x0) ∧ w'.cell? ⟨(ad.add (kk * 3)).block,(ad.add (kk * 3)).off + 1,none⟩ = some (.int .i64 x1)) (ds:=[]) #[false,false,false,false,false,false,false,false,false,false,false,false,false,false,false,false,false,false,false,false,false,false,false,false,false,false] (by kernel_rfl) rfl rfl ⟨n0z,n1z,n2z,n3z,hx0,hx1⟩ (fun hHeld => ?_)
            refine pu_ (i:=1) (N:=some 31) 26 2 ?_
            refine pu_ (i:=2) (N:=some 32) 26 6 ?_
            refine pu_ (i:=3) (N:=some 33) 26 14 ?_
            refine pu_ (i:=4) (N:=some 34) 26 30 ?_
            refine ta6_ (i:=0) (N:=some 30) 26 31 hHeld ?_
            refine ta6_ (i:=5) (N:=some 35) 26 63 hHeld ?_
            refine on_ (i:=6) (N:=some 36) 26 127 (fun K hK => ?_)
            refine goes_ Try.func39 (by kernel_rfl) rfl #[.agg #[.int .i64 nb,.slice A1 cs.length c1,.slice A2 hs.length c2,.slice A3 vs.length c3],.int .i64 x0] (by rfl) rfl rfl (by simp only [List.map_toArray,List.map_cons,List.map_nil];rfl) ?_
            with_reducible refine (HST0.out).mono ?_
            rintro e w6 ⟨rfl,hba⟩
            refine ⟨_,rfl,?_⟩
            have HD6:=Aside0.mk (below_step (below_drew (Below.refl wr.heap.size wr)) hba)
            have HN6:=Aside0.mk (blk_below HNR.out HD6.out)
            have n0a : w6.cell? ⟨w.heap.size,0,none⟩ = some (.int .i64 nb):=(blk_cell HN6.out 0).trans rfl
            have n1a : w6.cell? ⟨w.heap.size,1,none⟩ = some (.slice A1 cs.length c1):=(blk_cell HN6.out 1).trans rfl
            have n2a : w6.cell? ⟨w.heap.size,2,none⟩ = some (.slice A2 hs.length c2):=(blk_cell HN6.out 2).trans rfl
            have n3a : w6.cell? ⟨w.heap.size,3,none⟩ = some (.slice A3 vs.length c3):=(blk_cell HN6.out 3).trans rfl
            have hy0a:=(HD6.out.cell (p:=ad.add (kk * 3)) (World.block_lt_of_cell? wr (ad.add (kk * 3)) hx0)).trans hx0
            have hy1a:=(HD6.out.cell (p:=⟨(ad.add (kk * 3)).block,(ad.add (kk * 3)).off + 1,none⟩) (World.block_lt_of_cell? wr ⟨(ad.add (kk * 3)).block,(ad.add (kk * 3)).off + 1,none⟩ hx1)).trans hx1
            clear hba
            refine hK.out _ _ ⟨n0a,n1a,n2a,n3a,hy0a,hy1a⟩ (fun hHeld => ?_)
            clear hK K
            refine norm_ (a':=?_) ?_ ?_
            rotate_left
            · show Act.put _ (some 36) _ = _
              simp only [Act.put,sx_,sy_,sz_,i64_w,i32_w]
              rfl
            refine pu_ (i:=7) (N:=some 37) 26 255 ?_
            refine pu_ (i:=8) (N:=some 38) 26 511 ?_
            refine pu_ (i:=10) (N:=some 40) 26 1535 ?_
            refine pu_ (i:=11) (N:=some 41) 26 3583 ?_
            refine pu_ (i:=12) (N:=some 42) 26 7679 ?_
            refine pu_ (i:=13) (N:=some 43) 26 15871 ?_
            refine ta6_ (i:=9) (N:=some 39) 26 16383 hHeld ?_
            refine ta6_ (i:=14) (N:=some 44) 26 32767 hHeld ?_
            refine on_ (i:=15) (N:=some 45) 26 65535 (fun K hK => ?_)
            refine goes_ Try.func39 (by kernel_rfl) rfl #[.agg #[.int .i64 nb,.slice A1 cs.length c1,.slice A2 hs.length c2,.slice A3 vs.length c3],.int .i64 x1] (by rfl) rfl rfl (by simp only [List.map_toArray,List.map_cons,List.map_nil];rfl) ?_
            with_reducible refine ((HST1.out w6 (below_step HBR.out HD6.out))).mono ?_
            rintro e w7 ⟨rfl,hbb⟩
            refine ⟨_,rfl,?_⟩
            have HD7:=Aside0.mk (below_step HD6.out hbb)
            have HN7:=Aside0.mk (blk_below HNR.out HD7.out)
            have n0b : w7.cell? ⟨w.heap.size,0,none⟩ = some (.int .i64 nb):=(blk_cell HN7.out 0).trans rfl
            have n1b : w7.cell? ⟨w.heap.size,1,none⟩ = some (.slice A1 cs.length c1):=(blk_cell HN7.out 1).trans rfl
            have n2b : w7.cell? ⟨w.heap.size,2,none⟩ = some (.slice A2 hs.length c2):=(blk_cell HN7.out 2).trans rfl
            have n3b : w7.cell? ⟨w.heap.size,3,none⟩ = some (.slice A3 vs.length c3):=(blk_cell HN7.out 3).trans rfl
            have hy0b:=(HD7.out.cell (p:=ad.add (kk * 3)) (World.block_lt_of_cell? wr (ad.add (kk * 3)) hx0)).trans hx0
            have hy1b:=(HD7.out.cell (p:=⟨(ad.add (kk * 3)).block,(ad.add (kk * 3)).off + 1,none⟩) (World.block_lt_of_cell? wr ⟨(ad.add (kk * 3)).block,(ad.add (kk * 3)).off + 1,none⟩ hx1)).trans hx1
            clear hbb
            refine hK.out _ _ ⟨n0b,n1b,n2b,n3b,hy0b,hy1b⟩ (fun hHeld => ?_)
            clear hK K
            refine norm_ (a':=?_) ?_ ?_
            rotate_left
            · show Act.put _ (some 45) _ = _
              simp only [Act.put,sx_,sy_,sz_,i64_w,i32_w]
              rfl
            refine pu_ (i:=16) (N:=some 46) 26 131071 ?_
            refine pu_ (i:=17) (N:=some 47) 26 262143 ?_
            refine pu_ (i:=18) (N:=some 48) 26 524287 ?_
            refine pu_ (i:=19) (N:=some 49) 26 1048575 ?_
            refine pu_ (i:=20) (N:=some 50) 26 2097151 ?_
            refine pu_ (i:=21) (N:=some 51) 26 4194303 ?_
            refine ta6_ (i:=22) (N:=some 52) 26 8388607 hHeld ?_
            refine pu_ (i:=23) (N:=some 53) 26 16777215 ?_
            refine pu_ (i:=24) (N:=some 54) 26 33554431 ?_
            refine pu_ (i:=25) (N:=some 55) 26 67108863 ?_
            refine done_ (by kernel_rfl) ?_
            have HS9:=Aside0.mk (blk_below HSR.out HD7.out)
            have HO9:=Aside0.mk (blk_below HOR.out HD7.out)
            have H19:=Aside0.mk (blk_below H1R.out HD7.out)
            have H29:=Aside0.mk (blk_below H2R.out HD7.out)
            have HB9:=Aside0.mk (below_step HBR.out HD7.out)
            have e0 : w7.cell? ⟨w.heap.size + 1,0,none⟩ = some (.slice none 0 0):=(blk_cell HS9.out 0).trans rfl
            have e1 : w7.cell? ⟨w.heap.size + 1,1,none⟩ = some (.slice none 0 0):=(blk_cell HS9.out 1).trans rfl
            have g0:=blk_frozen HS9.out 0
            have g1:=blk_frozen HS9.out 1
            have k0 : w7.cell? ⟨w.heap.size + 4,0,none⟩ = some (.slice (some ⟨w.heap.size + 2,0,none⟩) 0 0):=(blk_cell HO9.out 0).trans rfl
            have k1 : w7.cell? ⟨w.heap.size + 4,1,none⟩ = some (.slice (some ⟨w.heap.size + 3,0,none⟩) 0 0):=(blk_cell HO9.out 1).trans rfl
            go_wp2_with fail
            have HY:=nb_setl (nb_setl HS9.out 0 (.slice (some ⟨w.heap.size + 2,0,none⟩) 0 0)) 1 (.slice (some ⟨w.heap.size + 3,0,none⟩) 0 0)
            have BWY:=Aside0.mk ((HB9.out.setCell (p:=⟨w.heap.size + 1,0,none⟩) (Nat.le_succ _) (.slice (some ⟨w.heap.size + 2,0,none⟩) 0 0)).setCell (p:=⟨w.heap.size + 1,1,none⟩) (Nat.le_succ _) (.slice (some ⟨w.heap.size + 3,0,none⟩) 0 0))
            have HX1:=Aside0.mk (nb_seto (nb_seto H19.out (show w.heap.size + 2 ≠ w.heap.size + 1 by omega) 0 (.slice (some ⟨w.heap.size + 2,0,none⟩) 0 0)) (show w.heap.size + 2 ≠ w.heap.size + 1 by omega) 1 (.slice (some ⟨w.heap.size + 3,0,none⟩) 0 0))
            have HX2:=Aside0.mk (nb_seto (nb_seto H29.out (show w.heap.size + 3 ≠ w.heap.size + 1 by omega) 0 (.slice (some ⟨w.heap.size + 2,0,none⟩) 0 0)) (show w.heap.size + 3 ≠ w.heap.size + 1 by omega) 1 (.slice (some ⟨w.heap.size + 3,0,none⟩) 0 0))
            clear e0 e1 g0 g1 k0 k1 HS9 HB9 HO9 H19 H29
            generalize (w7.setCell ⟨w.heap.size + 1,0,none⟩ (.slice (some ⟨w.heap.size + 2,0,none⟩) 0 0)).setCell ⟨w.heap.size + 1,1,none⟩ (.slice (some ⟨w.heap.size + 3,0,none⟩) 0 0) = W10 at HY BWY HX1 HX2 ⊢
            refine bodyPost_ret (results_ct2 rfl _ _ (w.heap.size + 1) 32 #[.slice (some ⟨w.heap.size + 2,0,none⟩) 0 0,.slice (some ⟨w.heap.size + 3,0,none⟩) 0 0] (0,0) _ rfl HY hu rfl (by kernel_rfl)) rfl ?_
            have hno:=HNO.out
            rw [hno.1]
            exact ⟨_,_,fun k => k = w.heap.size + 2,fun k => k = w.heap.size + 3,rfl,fun k h1 h2 => by omega,by rw [hno.2];exact S_empty _ (by omega) HX1.out,by rw [hno.2];exact S_empty _ (by omega) HX2.out,BWY.out⟩
    · have hkl : kk = l4.length:=by omega
      have hok : runB nb cs hs vs l4 = true:=by
        unfold runB
        have:=HALL.out
        rw [hkl,List.take_length] at this
        rw [this,HZ1.out,decide_eq_true h60]
        rfl
      have HOK:=Aside0.mk hok
      have hfs : framesS cs (treeX nb cs) hs vs l4 (List.replicate (nb * 150).toNat (-1)) = some fin:=by have:=HFIN.out;rw [hok,if_pos rfl] at this;exact this
      have HFS:=Aside0.mk hfs
      obtain ⟨nf1,nf2,nf3,nf4,nf5⟩:=netB_more HZ1.out
      have hcb:=cabsB_facts (netB_facts HZ1.out).1
      have hnb1 : 1 ≤ nb ∧ nb ≤ 8:=⟨hcb.1,hcb.2.1⟩
      obtain ⟨hnb1,hnb8⟩:=hnb1
      have HTC:=Aside0.mk (spec_TreeOf.calls 2000 nb A1 c1 cs (treeX nb cs) wr.drew (Kd.C_below HR1.out (below_drew HBR.out)) HC1.out (stree_eq nb cs (by omega) 2000 (by omega)))
      have p1 : ((kk : Int) < (l4.length : Int)) = False:=eq_false (by omega)
      have p2 : (kk < l4.length) = False:=eq_false hlt
      clear hok hfs HFIN HALL hkl hcb HST nf1 nf2 nf3 nf4 nf5
      have n0z : wr.drew.cell? ⟨w.heap.size,0,none⟩ = some (.int .i64 nb):=(blk_cell HNR.out 0).trans rfl
      have n1z : wr.drew.cell? ⟨w.heap.size,1,none⟩ = some (.slice A1 cs.length c1):=(blk_cell HNR.out 1).trans rfl
      have n2z : wr.drew.cell? ⟨w.heap.size,2,none⟩ = some (.slice A2 hs.length c2):=(blk_cell HNR.out 2).trans rfl
      have n3z : wr.drew.cell? ⟨w.heap.size,3,none⟩ = some (.slice A3 vs.length c3):=(blk_cell HNR.out 3).trans rfl
      go_upto_region 9 with (fail)
      refine start_ (n:=9) (S:=fun w' => w'.cell? ⟨w.heap.size,0,none⟩ = some (.int .i64 nb) ∧ w'.cell? ⟨w.heap.size,1,none⟩ = some (.slice A1 cs.length c1) ∧ w'.cell? ⟨w.heap.size,2,none⟩ = some (.slice A2 hs.length c2) ∧ w'.cell? ⟨w.heap.size,3,none⟩ = some (.slice A3 vs.length c3)) (ds:=[7]) #[false,false,false,false,false,false,false,false,false] (by kernel_rfl) rfl rfl ⟨n0z,n1z,n2z,n3z⟩ (fun hHeld => ?_)
      refine pu_ (i:=1) (N:=some 58) 9 2 ?_
      refine pu_ (i:=3) (N:=some 60) 9 10 ?_
      refine ta4_ (i:=0) (N:=some 57) 9 11 hHeld ?_
      refine ta4_ (i:=2) (N:=some 59) 9 15 hHeld ?_
      refine ta4_ (i:=4) (N:=some 61) 9 31 hHeld ?_
      refine on_ (i:=5) (N:=some 62) 9 63 (fun K hK => ?_)
      refine goes_ Try.func40 (by kernel_rfl) rfl #[.int .i64 nb,.slice A1 cs.length c1] (by rfl) rfl rfl (by simp only [List.map_toArray,List.map_cons,List.map_nil];rfl) ?_
      with_reducible refine (HTC.out).mono ?_
      rintro e w6 ⟨v6,rfl,hr6,hb6⟩
      refine ⟨_,rfl,?_⟩
      obtain ⟨At,ct,rfl⟩:=Kd.R_slice hr6
      have HD6:=Aside0.mk (below_step (below_drew (Below.refl wr.heap.size wr)) hb6)
      have HT6:=Aside0.mk (show Kd.R (Kd.int .i64) 3 w6 wr.heap.size (fun _ => True) (.slice At (treeX nb cs).length ct) (treeX nb cs) from hr6)
      have HN6:=Aside0.mk (blk_below HNR.out HD6.out)
      clear hr6 hb6
      have n0a : w6.cell? ⟨w.heap.size,0,none⟩ = some (.int .i64 nb):=(blk_cell HN6.out 0).trans rfl
      have n1a : w6.cell? ⟨w.heap.size,1,none⟩ = some (.slice A1 cs.length c1):=(blk_cell HN6.out 1).trans rfl
      have n2a : w6.cell? ⟨w.heap.size,2,none⟩ = some (.slice A2 hs.length c2):=(blk_cell HN6.out 2).trans rfl
      have n3a : w6.cell? ⟨w.heap.size,3,none⟩ = some (.slice A3 vs.length c3):=(blk_cell HN6.out 3).trans rfl
      refine hK.out _ _ ⟨n0a,n1a,n2a,n3a⟩ (fun hHeld => ?_)
      clear hK K
      refine norm_ (a':=?_) ?_ ?_
      rotate_left
      · show Act.put _ (some 62) _ = _
        simp only [Act.put,sx_,sy_,sz_,i64_w,i32_w]
        rfl
      refine pu_ (i:=6) (N:=some 63) 9 127 ?_
      refine last_ (i:=7) (N:=some 64) #[true,true,true,true,true,true,true,true,false] rfl rfl (by kernel_rfl) (by decide) (fun K hK => ?_)
      refine value_ (w1:=?_) (v:=?_) (by rfl) rfl ?_ ?_
      rotate_left 2
      · go_simp
        constructor
        · rfl
        · rfl
      refine hK.out _ _ ?_
      clear hK K
      refine norm_ (a':=?_) ?_ ?_
      rotate_left
      · show Act.put _ (some 64) _ = _
        simp only [Act.put,sx_,sy_,sz_,i64_w,i32_w]
        rfl
      refine pu_ (i:=8) (N:=some 8) 9 511 ?_
      refine done_ (by kernel_rfl) ?_
      have hal:=below_alloc HD6.out (.cells #[.int .i64 nb,.slice A1 cs.length c1,.slice A2 hs.length c2,.slice A3 vs.length c3,.slice At (treeX nb cs).length ct,.slice none 0 0,.slice none 0 0,.slice none 0 0] 77)
      have HNA:=Aside0.mk (blk_below HNR.out hal)
      have HSA:=Aside0.mk (blk_below HSR.out hal)
      have HOA:=Aside0.mk (blk_below HOR.out hal)
      have H1A:=Aside0.mk (blk_below H1R.out hal)
      have H2A:=Aside0.mk (blk_below H2R.out hal)
      have HBA:=Aside0.mk (below_step HBR.out hal)
      have HGA:=Aside0.mk (blk_new w6 (.cells #[.int .i64 nb,.slice A1 cs.length c1,.slice A2 hs.length c2,.slice A3 vs.length c3,.slice At (treeX nb cs).length ct,.slice none 0 0,.slice none 0 0,.slice none 0 0] 77))
      have HEA:=Aside0.mk (Kd.R_below (Kd.R_mono (Kd.R_bound (Kd.R_lower HT6.out HBR.out.size)) (ok':=fun k => k < w6.heap.size) (fun k hk => hk.2.2.1)) (below_alloc (Below.refl w6.heap.size w6) (.cells #[.int .i64 nb,.slice A1 cs.length c1,.slice A2 hs.length c2,.slice A3 vs.length c3,.slice At (treeX nb cs).length ct,.slice none 0 0,.slice none 0 0,.slice none 0 0] 77)))
      have hgN : w.heap.size + 4 < w6.heap.size:=Nat.lt_of_lt_of_le (blk_lt HOR.out) HD6.out.size
      clear hal HNR HSR HOR H1R H2R HBR HT6 HD6 HN6 HTC n0a n1a n2a n3a n0z n1z n2z n3z p1 p2 hHeld hlt hgg hkk
      generalize w6.alloc (.cells #[.int .i64 nb,.slice A1 cs.length c1,.slice A2 hs.length c2,.slice A3 vs.length c3,.slice At (treeX nb cs).length ct,.slice none 0 0,.slice none 0 0,.slice none 0 0] 77) = Wa at HNA HSA HOA H1A H2A HBA HGA HEA ⊢
      generalize w6.heap.size = g at HGA HEA hgN ⊢
      obtain ⟨M,hM⟩ : ∃ M : Nat,nb * 10 * 15 = (M : Int):=⟨(nb * 10 * 15).toNat,by omega⟩
      have hM2 : (nb * 150).toNat = M:=by omega
      have hM1 : 150 ≤ M ∧ M ≤ 1200:=by omega
      obtain ⟨hM1,hM3⟩:=hM1
      rw [hM2] at HFS
      clear hM2
      go_wp2_with fail
      go_loopg [9] M (fun gg s9 wr => ∃ (jj : Nat) (lj : List Int) (tv : Value),jj ≤ M ∧ M - jj ≤ gg ∧ s9 = .int .i64 (jj : Int) ∧ Aside0 (wr.heap[w.heap.size]? = some (.cells #[.int .i64 nb,.slice A1 cs.length c1,.slice A2 hs.length c2,.slice A3 vs.length c3] 26 (0,0))) ∧ Aside0 (wr.heap[w.heap.size + 1]? = some (.cells #[.slice none 0 0,.slice none 0 0] 32 (0,0))) ∧ Aside0 (wr.heap[w.heap.size + 4]? = some (.cells #[.slice (some ⟨w.heap.size + 2,0,none⟩) 0 0,.slice (some ⟨w.heap.size + 3,0,none⟩) 0 0] 32 (0,0))) ∧
        Aside0 (wr.heap[w.heap.size + 2]? = some (.cells #[] 24 (0,0))) ∧ Aside0 (wr.heap[w.heap.size + 3]? = some (.cells #[] 24 (0,0))) ∧ Aside0 (Below w.heap.size w wr) ∧
        Aside0 (wr.heap[g]? = some (.cells #[.int .i64 nb,.slice A1 cs.length c1,.slice A2 hs.length c2,.slice A3 vs.length c3,.slice At (treeX nb cs).length ct,tv,.slice none 0 0,.slice none 0 0] 77 (0,0))) ∧ Aside0 (Kd.R (Kd.int .i64) 3 wr w.heap.size (fun k => k < g) (.slice At (treeX nb cs).length ct) (treeX nb cs)) ∧ Aside0 (Kd.R (Kd.int .i64) 3 wr w.heap.size (fun k => g < k) tv lj) ∧ Aside0 (lj = List.replicate jj (-1 : Int)))
      case atStart => exact ⟨0,[],_,Nat.zero_le _,Nat.le_refl _,rfl,HNA,HSA,HOA,H1A,H2A,HBA,HGA,HEA,⟨Kd.R_nil _ _ _ _ _⟩,⟨rfl⟩⟩
      case round =>
        clear HNA HSA HOA H1A H2A HBA HGA HEA
        obtain ⟨jj,lj,tv,hjj,hgg,rfl,HNL,HSL,HOL,H1L,H2L,HBL,HGL,HEL,HTL,HLJ⟩:=hrel
        obtain ⟨Atb,ctb,rfl⟩:=Kd.R_slice HTL.out
        have n0 : wr.cell? ⟨w.heap.size,0,none⟩ = some (.int .i64 nb):=(blk_cell HNL.out 0).trans rfl
        by_cases hlt : jj < M
        · have p1 : ((jj : Int) < nb * 10 * 15) = True:=eq_true (by omega)
          have k5 : wr.cell? ⟨g,5,none⟩ = some (.slice Atb lj.length ctb):=(blk_cell HGL.out 5).trans rfl
          go_wp2_with ((with_reducible refine gate_builtin (b:=.append) (xs:=#[.tmp 77,.tmp 78]) rfl ?_);at_builtin;refine Kd.R_append (Kd.int .i64) (w0:=w) w.heap.size rfl (.tmp 77) (.tmp 78) 24 3 (.int .i64 0) 8 rfl Try.underlying24 (by kernel_rfl) rfl (by decide) (by omega) (.slice Atb lj.length ctb) lj (-1) [.int .i64 (-1)] (fun k => g < k) (fun _ => False) rfl ?aX ?aP (fun _ hk => hk.elim) ?aF ?aO ?aB ?aS ?aL ?_;(case aX => rfl);(case aP => exact rfl);(case aB => exact HBL.out);(case aF => exact (fun k hk => Nat.lt_of_lt_of_le (blk_lt HGL.out) hk));(case aO => exact HTL.out);(case aS => exact HBL.out.size);(case aL => rw [HLJ.out,List.length_replicate];omega);intro v7 w7 ho7 hb7 hg7 hat7;obtain ⟨A7,c7,rfl⟩:=Kd.R_slice ho7;have HR7:=Aside0.mk ho7;have HB7:=Aside0.mk hb7;have hty:=Kd.R_typed HTL.out;have HN7:=Aside0.mk (bt_grown HNL.out hg7 hty (by decide));have HS7:=Aside0.mk (bt_grown HSL.out hg7 hty (by decide));have HO7:=Aside0.mk (bt_grown HOL.out hg7 hty (by decide));have H17:=Aside0.mk (bt_grown H1L.out hg7 hty (by decide));have H27:=Aside0.mk (bt_grown H2L.out hg7 hty (by decide));have HG7:=Aside0.mk (bt_grown HGL.out hg7 hty (by decide));have HE7:=Aside0.mk (Kd.R_grown HEL.out hg7 (fun k hk e1 => by have:=HTL.out.1 k e1.symm;omega));have g5 : w7.cell? ⟨g,5,none⟩ = some (.slice Atb lj.length ctb):=(blk_cell HG7.out 5).trans rfl;have fr5:=blk_frozen HG7.out 5;clear ho7 hb7 hg7 hat7 hty)
          have hlr : (lj ++ [-1]).length = lj.length + 1:=by simp
          have hr7:=HR7.out
          rw [hlr] at hr7
          have HN8:=Aside0.mk (nb_seto HN7.out (show w.heap.size ≠ g by omega) 5 (.slice A7 (lj.length + 1) c7))
          have HS8:=Aside0.mk (nb_seto HS7.out (show w.heap.size + 1 ≠ g by omega) 5 (.slice A7 (lj.length + 1) c7))
          have HO8:=Aside0.mk (nb_seto HO7.out (show w.heap.size + 4 ≠ g by omega) 5 (.slice A7 (lj.length + 1) c7))
          have H18:=Aside0.mk (nb_seto H17.out (show w.heap.size + 2 ≠ g by omega) 5 (.slice A7 (lj.length + 1) c7))
          have H28:=Aside0.mk (nb_seto H27.out (show w.heap.size + 3 ≠ g by omega) 5 (.slice A7 (lj.length + 1) c7))
          have HG8:=Aside0.mk (nb_setl HG7.out 5 (.slice A7 (lj.length + 1) c7))
          have HE8:=Aside0.mk (Kd.R_far (p:=⟨g,5,none⟩) HE7.out (fun k hk => show k ≠ g by omega) (.slice A7 (lj.length + 1) c7))
          have HT8:=Aside0.mk (Kd.R_far (p:=⟨g,5,none⟩) hr7 (fun k hk => show k ≠ g by omega) (.slice A7 (lj.length + 1) c7))
          have HB8:=Aside0.mk (HB7.out.setCell (p:=⟨g,5,none⟩) (show w.heap.size ≤ g by omega) (.slice A7 (lj.length + 1) c7))
          have HLJ2 : Aside0 (lj ++ [-1] = List.replicate (jj + 1) (-1 : Int)):=⟨by rw [HLJ.out,List.replicate_succ']⟩
          go_roundg (M - (jj + 1))
          case measure => omega
          case rel => exact ⟨jj + 1,lj ++ [-1],_,by omega,by omega,by go_num,HN8,HS8,HO8,H18,H28,HB8,HG8,HE8,HT8,HLJ2⟩
        · have hjm : jj = M:=by omega
          have hlm : lj.length = M:=by rw [HLJ.out,List.length_replicate,hjm]
          have htl:=HTL.out
          have hgl:=HGL.out
          rw [hlm] at htl hgl
          obtain ⟨gt,cpt,etb,hgt1,hgt2,_⟩:=Kd.R_form HTL.out (by omega)
          rw [hlm] at etb
          rw [etb] at htl hgl
          have hggt : g < gt:=htl.1 gt (by simp [Value.ownBlock])
          have HTB:=Aside0.mk (Kd.R_mono (ok':=fun _ => True) htl (fun _ _ => trivial))
          have HGB:=Aside0.mk hgl
          have HLM:=Aside0.mk hlm
          have HFB : Aside0 (framesS cs (treeX nb cs) hs vs l4 lj = some fin):=⟨by rw [HLJ.out,hjm];exact HFS.out⟩
          have p1 : ((jj : Int) < nb * 10 * 15) = False:=eq_false (by omega)
          obtain ⟨hs15,hc20⟩ : hs.length ≤ 15 ∧ cs.length ≤ 20:=⟨(netB_more HZ1.out).2.1,(netB_more HZ1.out).1⟩
          clear hjm hlm htl hgl HTL HGL HLJ HFS hgt2 etb
          go_wp2_with fail
          go_loopg [10] l4.length (fun gg s10 wr => ∃ (kk : Nat) (T : List Int) (oT oO : List (List Int)) (v1 v2 kv ov : Value) (P Q : Nat → Prop),kk ≤ l4.length ∧ l4.length - kk ≤ gg ∧ s10 = .int .i64 (kk : Int) ∧ Aside0 (oT.length = kk) ∧ Aside0 (oO.length = kk) ∧ Aside0 (T.length = M) ∧
            Aside0 ((framesS cs (treeX nb cs) hs vs (l4.drop kk) T).map (fun p => (oT ++ p.1,oO ++ p.2)) = some fin) ∧ Aside0 (∀ k,P k → ¬ Q k) ∧ Aside0 (∀ k,P k ∨ Q k → k ≠ gt) ∧ Aside0 (Kd.S (Kd.slice 3 (Kd.int .i64)) 24 wr w.heap.size P v1 oT) ∧ Aside0 (Kd.S (Kd.slice 3 (Kd.int .i64)) 24 wr w.heap.size Q v2 oO) ∧
            Aside0 (wr.heap[w.heap.size + 4]? = some (.cells #[v1,v2] 32 (0,0))) ∧ Aside0 (wr.heap[w.heap.size]? = some (.cells #[.int .i64 nb,.slice A1 cs.length c1,.slice A2 hs.length c2,.slice A3 vs.length c3] 26 (0,0))) ∧ Aside0 (wr.heap[w.heap.size + 1]? = some (.cells #[.slice none 0 0,.slice none 0 0] 32 (0,0))) ∧ Aside0 (wr.heap[g]? = some (.cells #[.int .i64 nb,.slice A1 cs.length c1,.slice A2 hs.length c2,.slice A3 vs.length c3,.slice At (treeX nb cs).length ct,.slice (some ⟨gt,0,none⟩) M cpt,kv,ov] 77 (0,0))) ∧
            Aside0 (Kd.R (Kd.int .i64) 3 wr w.heap.size (fun k => k < g) (.slice At (treeX nb cs).length ct) (treeX nb cs)) ∧ Aside0 (Kd.R (Kd.int .i64) 3 wr w.heap.size (fun _ => True) (.slice (some ⟨gt,0,none⟩) M cpt) T) ∧ Aside0 (Below w.heap.size w wr))
          case atStart => exact ⟨0,lj,[],[],_,_,_,_,fun k => k = w.heap.size + 2,fun k => k = w.heap.size + 3,Nat.zero_le _,Nat.le_refl _,rfl,⟨rfl⟩,⟨rfl⟩,HLM,⟨by rw [List.drop_zero,HFB.out];rfl⟩,⟨fun k h1 h2 => by omega⟩,⟨fun k hk => by omega⟩,⟨S_empty _ (by omega) H1L.out⟩,⟨S_empty _ (by omega) H2L.out⟩,HOL,HNL,HSL,HGB,HEL,HTB,HBL⟩
          case round =>
            clear HOL HNL HSL HGB HEL HTB HBL HLM HFB H1L H2L n0 p1 hjj
            obtain ⟨kk,T,oT,oO,v1,v2,kv,ov,P,Q,hkk,hgg3,rfl,HLT,HLO,HTM,HF,HPQ,HPG,HRT,HRO,HO,HN,HS,HG,HE,HT,HB⟩:=hrel
            by_cases hlt2 : kk < l4.length
            · obtain ⟨ad,ea,hx0,hx1,hx2⟩:=at_T37 (Kd.C_below HR4.out HB.out) (kk : Int) (by omega) (by omega)
              rw [Int.toNat_natCast,rdHop_get l4 kk hlt2] at hx0 hx1 hx2
              have hlc4:=HC4.out
              have hhp : hopB nb cs hs vs l4[kk] = true:=by
                have:=HOK.out
                unfold runB at this
                simp only [Bool.and_eq_true,List.all_eq_true] at this
                exact this.2.2 _ (List.getElem_mem hlt2)
              have hh:=hhp
              unfold hopB stB at hh
              simp only [Bool.and_eq_true,Bool.or_eq_true,decide_eq_true_eq,beq_iff_eq] at hh
              obtain ⟨⟨_,hf0,hf1⟩,_⟩:=hh
              have hff:=HF.out
              rw [List.drop_eq_getElem_cons hlt2,framesS] at hff
              have HFF:=Aside0.mk hff
              clear hff HF hhp
              have p1 : ((kk : Int) < (l4.length : Int)) = True:=eq_true (by omega)
              have p2 : (kk < l4.length) = True:=eq_true hlt2
              have HXF : Aside0 (∀ W : World,Below w.heap.size w W → W.cell? (ad.add (kk * 3)) = some (.int .i64 l4[kk].f0) ∧ W.cell? ⟨(ad.add (kk * 3)).block,(ad.add (kk * 3)).off + 1,none⟩ = some (.int .i64 l4[kk].f1) ∧ W.cell? ⟨(ad.add (kk * 3)).block,(ad.add (kk * 3)).off + 2,none⟩ = some (.int .i64 l4[kk].f2)):=⟨fun W hW => by
                obtain ⟨ad',e',y0,y1,y2⟩:=at_T37 (Kd.C_below HR4.out hW) (kk : Int) (by omega) (by omega)
                rw [ea] at e'
                cases e'
                rw [Int.toNat_natCast,rdHop_get l4 kk hlt2] at y0 y1 y2
                exact ⟨y0,y1,y2⟩⟩
              clear hx0 hx1 hx2
              generalize l4[kk].f0 = x0 at HXF HFF hf0 hf1
              generalize l4[kk].f1 = x1 at HXF HFF
              generalize l4[kk].f2 = x2 at HXF
              obtain ⟨F,rfl⟩ : ∃ F : Nat,x0 = (F : Int):=⟨x0.toNat,by omega⟩
              have n2 : wr.cell? ⟨w.heap.size,2,none⟩ = some (.slice A2 hs.length c2):=(blk_cell HN.out 2).trans rfl
              have g6 : wr.cell? ⟨g,6,none⟩ = some kv:=(blk_cell HG.out 6).trans rfl
              rw [ea]
              have EA:=Aside0.mk ea
              clear ea
              go_upto_region 18 with ((with_reducible refine gate_dst (N:=92) rfl ?_);refine Kd.R_make Kd.bool (w0:=w) w.heap.size 4 rfl (N:=92) rfl 75 _ _ rfl (hs.length : Int) rfl rfl Try.underlying75 (.bool false) 1 (by kernel_rfl) rfl (by decide) (by omega) false (ok:=fun k => True) (okp:=fun _ => False) rfl (fun _ hk => hk.elim) trivial (by omega) (by omega) HB.out HB.out.size ?_;intro v7 w7 ho7 hb7 hg7 hn7;obtain ⟨gk,egk,hgk⟩:=hn7;obtain ⟨ck,rfl⟩:=R_some ho7 egk;have HK7:=Aside0.mk ho7;have HB7:=Aside0.mk hb7;have HN7:=Aside0.mk (blk_grown HN.out hg7 (fun e => by cases e));have HS7:=Aside0.mk (blk_grown HS.out hg7 (fun e => by cases e));have HO7:=Aside0.mk (blk_grown HO.out hg7 (fun e => by cases e));have HG7:=Aside0.mk (blk_grown HG.out hg7 (fun e => by cases e));have HE7:=Aside0.mk (Kd.R_grown HE.out hg7 (fun _ _ e => by cases e));have HT7:=Aside0.mk (Kd.R_grown HT.out hg7 (fun _ _ e => by cases e));have HRT7:=Aside0.mk (Kd.S_grown HRT.out hg7 (fun _ _ e => by cases e));have HRO7:=Aside0.mk (Kd.S_grown HRO.out hg7 (fun _ _ e => by cases e));have HSZ7:=Aside0.mk hg7.size;have g67 : w7.cell? ⟨g,6,none⟩ = some kv:=(blk_cell HG7.out 6).trans rfl;have fr6:=blk_frozen HG7.out 6;clear ho7 hb7 hg7)
              have hk7:=HK7.out
              rw [Int.toNat_natCast,List.length_replicate] at hk7
              have HN8:=Aside0.mk (nb_seto HN7.out (show w.heap.size ≠ g by omega) 6 (.slice (some ⟨gk,0,none⟩) hs.length ck))
              have HS8:=Aside0.mk (nb_seto HS7.out (show w.heap.size + 1 ≠ g by omega) 6 (.slice (some ⟨gk,0,none⟩) hs.length ck))
              have HO8:=Aside0.mk (nb_seto HO7.out (show w.heap.size + 4 ≠ g by omega) 6 (.slice (some ⟨gk,0,none⟩) hs.length ck))
              have HG8:=Aside0.mk (nb_setl HG7.out 6 (.slice (some ⟨gk,0,none⟩) hs.length ck))
              have HE8:=Aside0.mk (Kd.R_far (p:=⟨g,6,none⟩) HE7.out (fun k hk => show k ≠ g by omega) (.slice (some ⟨gk,0,none⟩) hs.length ck))
              have HT8:=Aside0.mk (Kd.R_set HT7.out HG7.out (by decide) 6 (.slice (some ⟨gk,0,none⟩) hs.length ck))
              have HRT8:=Aside0.mk (Kd.S_set HRT7.out HG7.out (by decide) 6 (.slice (some ⟨gk,0,none⟩) hs.length ck))
              have HRO8:=Aside0.mk (Kd.S_set HRO7.out HG7.out (by decide) 6 (.slice (some ⟨gk,0,none⟩) hs.length ck))
              have HB8:=Aside0.mk (HB7.out.setCell (p:=⟨g,6,none⟩) (show w.heap.size ≤ g by omega) (.slice (some ⟨gk,0,none⟩) hs.length ck))
              have HK8:=Aside0.mk (Kd.R_set hk7 HG7.out (by decide) 6 (.slice (some ⟨gk,0,none⟩) hs.length ck))
              have hgk8 : gk < (w7.setCell ⟨g,6,none⟩ (.slice (some ⟨gk,0,none⟩) hs.length ck)).heap.size:=Kd.R_lt HK8.out gk (by simp [Value.ownBlock])
              clear hk7 HK7 HN7 HS7 HO7 HG7 HE7 HT7 HRT7 HRO7 HB7 HN HS HO HG HE HT HRT HRO g6 g67 fr6 n2 HSZ7 egk
              generalize w7.setCell ⟨g,6,none⟩ (.slice (some ⟨gk,0,none⟩) hs.length ck) = w8 at HK8 HN8 HS8 HO8 HG8 HE8 HT8 HRT8 HRO8 HB8 hgk8 ⊢
              have n1 : w8.cell? ⟨w.heap.size,1,none⟩ = some (.slice A1 cs.length c1):=(blk_cell HN8.out 1).trans rfl
              have g7 : w8.cell? ⟨g,7,none⟩ = some ov:=(blk_cell HG8.out 7).trans rfl
              go_upto_region 19 with ((with_reducible refine gate_dst (N:=99) rfl ?_);refine Kd.R_make Kd.bool (w0:=w) w.heap.size 4 rfl (N:=99) rfl 75 _ _ rfl (cs.length : Int) rfl rfl Try.underlying75 (.bool false) 1 (by kernel_rfl) rfl (by decide) (by omega) false (ok:=fun k => True) (okp:=fun _ => False) rfl (fun _ hk => hk.elim) trivial (by omega) (by omega) HB8.out HB8.out.size ?_;intro v9 w9 ho9 hb9 hg9 hn9;obtain ⟨go,ego,hgo⟩:=hn9;obtain ⟨co,rfl⟩:=R_some ho9 ego;have HV9:=Aside0.mk ho9;have HB9:=Aside0.mk hb9;have HN9:=Aside0.mk (blk_grown HN8.out hg9 (fun e => by cases e));have HS9:=Aside0.mk (blk_grown HS8.out hg9 (fun e => by cases e));have HO9:=Aside0.mk (blk_grown HO8.out hg9 (fun e => by cases e));have HG9:=Aside0.mk (blk_grown HG8.out hg9 (fun e => by cases e));have HE9:=Aside0.mk (Kd.R_grown HE8.out hg9 (fun _ _ e => by cases e));have HT9:=Aside0.mk (Kd.R_grown HT8.out hg9 (fun _ _ e => by cases e));have HK9:=Aside0.mk (Kd.R_grown HK8.out hg9 (fun _ _ e => by cases e));have HRT9:=Aside0.mk (Kd.S_grown HRT8.out hg9 (fun _ _ e => by cases e));have HRO9:=Aside0.mk (Kd.S_grown HRO8.out hg9 (fun _ _ e => by cases e));have HSZ9:=Aside0.mk hg9.size;have g79 : w9.cell? ⟨g,7,none⟩ = some ov:=(blk_cell HG9.out 7).trans rfl;have fr7:=blk_frozen HG9.out 7;clear ho9 hb9 hg9)
              have hv9:=HV9.out
              rw [Int.toNat_natCast,List.length_replicate] at hv9
              have HNZ:=Aside0.mk (nb_seto HN9.out (show w.heap.size ≠ g by omega) 7 (.slice (some ⟨go,0,none⟩) cs.length co))
              have HSZ:=Aside0.mk (nb_seto HS9.out (show w.heap.size + 1 ≠ g by omega) 7 (.slice (some ⟨go,0,none⟩) cs.length co))
              have HOZ:=Aside0.mk (nb_seto HO9.out (show w.heap.size + 4 ≠ g by omega) 7 (.slice (some ⟨go,0,none⟩) cs.length co))
              have HGZ:=Aside0.mk (nb_setl HG9.out 7 (.slice (some ⟨go,0,none⟩) cs.length co))
              have HEZ:=Aside0.mk (Kd.R_far (p:=⟨g,7,none⟩) HE9.out (fun k hk => show k ≠ g by omega) (.slice (some ⟨go,0,none⟩) cs.length co))
              have HTZ:=Aside0.mk (Kd.R_set HT9.out HG9.out (by decide) 7 (.slice (some ⟨go,0,none⟩) cs.length co))
              have HRTZ:=Aside0.mk (Kd.S_set HRT9.out HG9.out (by decide) 7 (.slice (some ⟨go,0,none⟩) cs.length co))
              have HROZ:=Aside0.mk (Kd.S_set HRO9.out HG9.out (by decide) 7 (.slice (some ⟨go,0,none⟩) cs.length co))
              have HBZ:=Aside0.mk (HB9.out.setCell (p:=⟨g,7,none⟩) (show w.heap.size ≤ g by omega) (.slice (some ⟨go,0,none⟩) cs.length co))
              have HKZ:=Aside0.mk (Kd.R_set HK9.out HG9.out (by decide) 7 (.slice (some ⟨go,0,none⟩) cs.length co))
              have HVZ:=Aside0.mk (Kd.R_set hv9 HG9.out (by decide) 7 (.slice (some ⟨go,0,none⟩) cs.length co))
              have hgg4 : gk ≠ go:=by omega
              clear hv9 HV9 HK9 HN9 HS9 HO9 HG9 HE9 HT9 HRT9 HRO9 HB9 HK8 HN8 HS8 HO8 HG8 HE8 HT8 HRT8 HRO8 HB8 g7 g79 fr7 n1 HSZ9 ego
              generalize w9.setCell ⟨g,7,none⟩ (.slice (some ⟨go,0,none⟩) cs.length co) = wz at HKZ HVZ HNZ HSZ HOZ HGZ HEZ HTZ HRTZ HROZ HBZ ⊢
              obtain ⟨hx0,hx1,hx2⟩:=HXF.out wz HBZ.out
              go_upto_region 20 with (fail)
              obtain ⟨ad2,ea2,hy2⟩:=Kd.at_int (Kd.C_below HR2.out HBZ.out) (F : Int) (by omega) (by omega)
              obtain ⟨nf1,nf2,nf3,nf4,nf5⟩:=netB_more HZ1.out
              obtain ⟨ad3,ea3,hy3⟩:=Kd.at_int (Kd.C_below HR3.out HBZ.out) (F : Int) (by omega) (by omega)
              rw [Int.toNat_natCast] at hy2 hy3
              have hlc2:=HC2.out
              have hlc3:=HC3.out
              have hFv : F < vs.length:=by omega
              have HNF3:=Aside0.mk nf3
              have n2 : wz.cell? ⟨w.heap.size,2,none⟩ = some (.slice A2 hs.length c2):=(blk_cell HNZ.out 2).trans rfl
              have n3 : wz.cell? ⟨w.heap.size,3,none⟩ = some (.slice A3 vs.length c3):=(blk_cell HNZ.out 3).trans rfl
              rw [ea2] at n2
              rw [ea3] at n3
              clear ea2 ea3 nf1 nf2 nf3 nf4 nf5
              go_still_tail 15,(by kernel_rfl)
              change wpList _ _ _ _ _ wz.drew
              have hdr:=below_drew (Below.refl wz.heap.size wz)
              have HN3:=Aside0.mk (blk_below HNZ.out hdr)
              have HS3:=Aside0.mk (blk_below HSZ.out hdr)
              have HO3:=Aside0.mk (blk_below HOZ.out hdr)
              have HG3:=Aside0.mk (blk_below HGZ.out hdr)
              have HE3:=Aside0.mk (Kd.R_below HEZ.out hdr)
              have HT3:=Aside0.mk (Kd.R_below HTZ.out hdr)
              have HK3:=Aside0.mk (Kd.R_below HKZ.out hdr)
              have HV3:=Aside0.mk (Kd.R_below HVZ.out hdr)
              have HRT3:=Aside0.mk (Kd.S_below HRTZ.out hdr)
              have HRO3:=Aside0.mk (Kd.S_below HROZ.out hdr)
              have HB3:=Aside0.mk (below_step HBZ.out hdr)
              clear HKZ HVZ HNZ HSZ HOZ HGZ HEZ HTZ HRTZ HROZ HBZ hdr hx0 hx1 hx2 n2 n3 hy2 hy3
              generalize wz.drew = W3 at HN3 HS3 HO3 HG3 HE3 HT3 HK3 HV3 HRT3 HRO3 HB3 ⊢
              obtain ⟨c,hcd⟩ : ∃ c : SC,c = { w0:=w,nb:=nb,A1:=A1,c1:=c1,cs:=cs,A2:=A2,c2:=c2,hs:=hs,A3:=A3,c3:=c3,vs:=vs,At:=At,ct:=ct,tr:=treeX nb cs,g:=g,gt:=gt,nt:=M,kt:=cpt,gk:=gk,kk:=ck,go:=go,ko:=co }:=⟨_,rfl⟩
              have hgtN : w.heap.size ≤ gt:=by omega
              have hcok : c.ok:=by
                subst hcd
                exact ⟨HR1.out,HR2.out,HR3.out,HC1.out,HC2.out,HC3.out,hc20,hs15,HNF3.out,treeX_len nb cs,fun k hk => treeX_in hk,by show M ≤ 10000;omega,⟨hgtN,Kd.R_base HK3.out gk (by simp [Value.ownBlock]),Kd.R_base HV3.out go (by simp [Value.ownBlock])⟩,hgg4⟩
              have hist : SSt c W3 ⟨T,List.replicate hs.length false,List.replicate cs.length false⟩:=by
                subst hcd
                exact ⟨HB3.out,HG3.out,Kd.R_mono HE3.out (fun k hk => show k ≠ gt by omega),HTM.out,by simp,by simp,HT3.out,Kd.R_mono HK3.out (fun _ _ => trivial),Kd.R_mono HV3.out (fun _ _ => trivial)⟩
              obtain ⟨q,hq1,hq2⟩:=Option.map_eq_some_iff.1 HFF.out
              obtain ⟨st,hst,hq3⟩:=Option.bind_eq_some_iff.1 hq1
              obtain ⟨q2,hq4,hq5⟩:=Option.map_eq_some_iff.1 hq3
              have hcome:=x_comeS hcok F x1 x2 (rd vs F) 20 (rd hs F) (-2) _ st W3 hist (by subst hcd;exact hst)
              have hgc : c.g = g:=by rw [hcd]
              rw [hgc] at hcome
              have HCOME:=Aside0.mk hcome
              have HFN : Aside0 ((framesS cs (treeX nb cs) hs vs (l4.drop (kk + 1)) st.tabs).map (fun p => ((oT ++ [lstS st.took]) ++ p.1,(oO ++ [lstS st.over]) ++ p.2)) = some fin):=⟨by rw [hq4,← hq2,← hq5];simp⟩
              clear hcome hist hq1 hq2 hst hq3 hq4 hq5 HFF
              go_wp2_with fail
              refine HCOME.out.mono ?_
              rintro e W5 ⟨rfl,hi5,hk5⟩
              subst hcd
              have hgkB:=R_typ HK3.out
              have hgoB:=R_typ HV3.out
              have HN5:=Aside0.mk (kepts_B hk5 HN3.out (by decide) (by decide) hgkB.choose_spec hgoB.choose_spec (R_typ HT3.out).choose_spec)
              have HS5:=Aside0.mk (kepts_B hk5 HS3.out (by decide) (by decide) hgkB.choose_spec hgoB.choose_spec (R_typ HT3.out).choose_spec)
              have HO5:=Aside0.mk (kepts_B hk5 HO3.out (by decide) (by decide) hgkB.choose_spec hgoB.choose_spec (R_typ HT3.out).choose_spec)
              have HG5:=Aside0.mk (show W5.heap[g]? = some (.cells #[.int .i64 nb,.slice A1 cs.length c1,.slice A2 hs.length c2,.slice A3 vs.length c3,.slice At (treeX nb cs).length ct,.slice (some ⟨gt,0,none⟩) M cpt,.slice (some ⟨gk,0,none⟩) hs.length ck,.slice (some ⟨go,0,none⟩) cs.length co] 77 (0,0)) from hi5.bx)
              have HE5:=Aside0.mk (kepts_R hk5 HE3.out (by decide) hgkB.choose_spec hgoB.choose_spec (fun k hk => show k ≠ gt by omega))
              have HT5:=Aside0.mk (show Kd.R (Kd.int .i64) 3 W5 w.heap.size (fun _ => True) (.slice (some ⟨gt,0,none⟩) M cpt) st.tabs from hi5.tb)
              have HTM5:=Aside0.mk (show st.tabs.length = M from hi5.lt)
              have HK5:=Aside0.mk (show Kd.R Kd.bool 4 W5 w.heap.size (fun _ => True) (.slice (some ⟨gk,0,none⟩) hs.length ck) st.took from hi5.tk)
              have HV5:=Aside0.mk (show Kd.R Kd.bool 4 W5 w.heap.size (fun _ => True) (.slice (some ⟨go,0,none⟩) cs.length co) st.over from hi5.ov)
              have hlk5 : st.took.length = hs.length:=hi5.lk
              have hlo5 : st.over.length = cs.length:=hi5.lo
              have HB5:=Aside0.mk (show Below w.heap.size w W5 from hi5.bw)
              have hgt5 : gt < W5.heap.size:=Kd.R_lt HT5.out gt (by simp [Value.ownBlock])
              have HRT5:=Aside0.mk (Kd.S_mono (ok':=fun k => P k ∧ k < W5.heap.size) (Kd.S_bound (kepts_S hk5 HRT3.out (by decide) hgkB.choose_spec hgoB.choose_spec (fun k hk => HPG.out k (Or.inl hk)))) (fun k hk => ⟨hk.1,hk.2.2.1⟩))
              have HRO5:=Aside0.mk (Kd.S_mono (ok':=fun k => Q k ∧ k < W5.heap.size) (Kd.S_bound (kepts_S hk5 HRO3.out (by decide) hgkB.choose_spec hgoB.choose_spec (fun k hk => HPG.out k (Or.inr hk)))) (fun k hk => ⟨hk.1,hk.2.2.1⟩))
              have HLK:=Aside0.mk hlk5
              have HLV:=Aside0.mk hlo5
              clear hi5 hk5 hcok HN3 HS3 HO3 HG3 HE3 HT3 HK3 HV3 HRT3 HRO3 HB3 HCOME hgkB hgoB hlk5 hlo5 hf0 hf1 hFv HTM
              generalize st.took = tk at HK5 HFN HLK
              generalize st.over = ovl at HV5 HFN HLV
              generalize st.tabs = T' at HT5 HFN HTM5
              obtain ⟨Ar,cr,rfl⟩:=Kd.S_slice HRT5.out
              obtain ⟨Ao,co2,rfl⟩:=Kd.S_slice HRO5.out
              go_upto_region 21 with (fail)
              have hon:=x_lst (A:=some ⟨gk,0,none⟩) (n:=hs.length) (c:=ck) tk W5.drew HLK.out (by omega) (Kd.C_below (show Kd.C Kd.bool W5 (some ⟨gk,0,none⟩) tk.length tk from (Kd.R_reads' HK5.out).2.2) (below_drew (Below.refl W5.heap.size W5))) (Kd.R_reads' HK5.out).2.1
              have HON:=Aside0.mk hon
              have kr0 : W5.drew.cell? ⟨w.heap.size + 4,0,none⟩ = some (.slice Ar oT.length cr):=(blk_cell HO5.out 0).trans rfl
              have kt0 : W5.drew.cell? ⟨g,6,none⟩ = some (.slice (some ⟨gk,0,none⟩) hs.length ck):=(blk_cell HG5.out 6).trans rfl
              clear hon
              refine start_ (n:=11) (S:=fun w' => w'.cell? ⟨w.heap.size + 4,0,none⟩ = some (.slice Ar oT.length cr) ∧ w'.cell? ⟨g,6,none⟩ = some (.slice (some ⟨gk,0,none⟩) hs.length ck)) (ds:=[10]) #[false,false,false,false,false,false,false,false,false,false,false] (by kernel_rfl) rfl rfl ⟨kr0,kt0⟩ (fun hHeld => ?_)
              refine pu_ (i:=0) (N:=some 123) 11 1 ?_
              refine pu_ (i:=2) (N:=some 125) 11 5 ?_
              refine pu_ (i:=3) (N:=some 126) 11 13 ?_
              refine pu_ (i:=4) (N:=some 127) 11 29 ?_
              refine ta2_ (i:=1) (N:=some 124) 11 31 hHeld ?_
              refine ta2_ (i:=5) (N:=some 128) 11 63 hHeld ?_
              refine on_ (i:=6) (N:=some 129) 11 127 (fun K hK => ?_)
              refine goes_ Try.func42 (by kernel_rfl) rfl #[.slice (some ⟨gk,0,none⟩) hs.length ck] (by rfl) rfl rfl (by simp only [List.map_toArray,List.map_cons,List.map_nil];rfl) ?_
              with_reducible refine (HON.out).mono ?_
              rintro e w6 ⟨vr,rfl,hr6,hb6⟩
              refine ⟨_,rfl,?_⟩
              obtain ⟨A6,c6,rfl⟩:=Kd.R_slice hr6
              have HD6:=Aside0.mk (below_step (below_drew (Below.refl W5.heap.size W5)) hb6)
              have HR6:=Aside0.mk (show Kd.R (Kd.int .i64) 3 w6 W5.heap.size (fun _ => True) (.slice A6 (lstS tk).length c6) (lstS tk) from hr6)
              clear hr6 hb6
              have kr6 : w6.cell? ⟨w.heap.size + 4,0,none⟩ = some (.slice Ar oT.length cr):=(blk_cell (blk_below HO5.out HD6.out) 0).trans rfl
              have kt6 : w6.cell? ⟨g,6,none⟩ = some (.slice (some ⟨gk,0,none⟩) hs.length ck):=(blk_cell (blk_below HG5.out HD6.out) 6).trans rfl
              refine hK.out _ _ ⟨kr6,kt6⟩ (fun hHeld => ?_)
              clear hK K
              refine norm_ (a':=?_) ?_ ?_
              rotate_left
              · show Act.put _ (some 129) _ = _
                simp only [Act.put,sx_,sy_,sz_,i64_w,i32_w]
                rfl
              refine on_ (i:=7) (N:=some 130) 11 255 (fun K hK => ?_)
              refine value_ (w1:=?_) (v:=?_) (by rfl) rfl ?_ ?_
              rotate_left 2
              · go_simp
                constructor
                · rfl
                · rfl
              have kr7 : (w6.alloc (.cells #[.slice A6 (lstS tk).length c6] 24)).cell? ⟨w.heap.size + 4,0,none⟩ = some (.slice Ar oT.length cr):=(blk_cell (blk_alloc (blk_below HO5.out HD6.out) _) 0).trans rfl
              have kt7 : (w6.alloc (.cells #[.slice A6 (lstS tk).length c6] 24)).cell? ⟨g,6,none⟩ = some (.slice (some ⟨gk,0,none⟩) hs.length ck):=(blk_cell (blk_alloc (blk_below HG5.out HD6.out) _) 6).trans rfl
              refine hK.out _ _ ⟨kr7,kt7⟩ (fun hHeld => ?_)
              clear hK K
              refine norm_ (a':=?_) ?_ ?_
              rotate_left
              · show Act.put _ (some 130) _ = _
                simp only [Act.put,sx_,sy_,sz_,i64_w,i32_w]
                rfl
              refine on_ (i:=8) (N:=some 131) 11 511 (fun K hK => ?_)
              refine Kd.S_append_step (Kd.slice 3 (Kd.int .i64)) (w0:=w) w.heap.size (by rfl) (.tmp 124) (.tmp 130) 30 24 (.slice none 0 0) 24 rfl Try.underlying30 (by kernel_rfl) rfl (by decide) (by omega) (.slice Ar oT.length cr) oT (lstS tk) [.slice A6 (lstS tk).length c6] (fun k => (P k ∧ k < W5.heap.size) ∨ W5.heap.size ≤ k) (fun k_ => some k_ = (Value.slice A6 (lstS tk).length c6).ownBlock) (by rfl) (by rfl) ?aP ?aK ?aF ?aO ?aB ?aS ?aL ?_
              case aP => exact Kd.M_row (Kd.R_lower (Kd.R_tight rfl HR6.out) HB5.out.size)
              case aK => exact fun k hk => ⟨Or.inr (Kd.R_base HR6.out k hk.symm),fun he => by have h1:=Kd.R_base HR6.out k hk.symm;have h2:=Kd.S_lt HRT5.out k he.symm;omega⟩
              case aF => exact fun k hk => Or.inr (Nat.le_trans HD6.out.size hk)
              case aO => exact Kd.S_mono (Kd.S_below HRT5.out HD6.out) (fun k hk => ⟨Or.inl hk,fun he => by have h1:=Kd.R_base HR6.out k he.symm;omega⟩)
              case aB => exact below_step HB5.out HD6.out
              case aS => exact Nat.le_trans HB5.out.size HD6.out.size
              case aL => have h1:=HLT.out;have h2:=HLO.out;omega
              intro v7 w7 ho7 hb7 hg7 hat7
              obtain ⟨A7,c7,rfl⟩:=Kd.S_slice ho7
              have hty:=Kd.S_typed (Kd.S_below HRT5.out HD6.out)
              have HO7:=Aside0.mk (bt_grown (blk_below HO5.out HD6.out) hg7 hty (by decide))
              have HN7:=Aside0.mk (bt_grown (blk_below HN5.out HD6.out) hg7 hty (by decide))
              have HS7:=Aside0.mk (bt_grown (blk_below HS5.out HD6.out) hg7 hty (by decide))
              have HG7:=Aside0.mk (bt_grown (blk_below HG5.out HD6.out) hg7 hty (by decide))
              have HE7:=Aside0.mk (rt_grown (Kd.R_below HE5.out HD6.out) hg7 hty (by decide))
              have HT7:=Aside0.mk (rt_grown (Kd.R_below HT5.out HD6.out) hg7 hty (by decide))
              have HB7:=Aside0.mk hb7
              have HV7:=Aside0.mk (rt_grown (Kd.R_below HV5.out HD6.out) hg7 hty (by decide))
              have HX7:=Aside0.mk (Kd.S_grown (Kd.S_below HRO5.out HD6.out) hg7 (fun k hk e1 => HPQ.out k (by exact (HRT5.out.elim fun f hf => (hf.1 k e1.symm).1)) hk.1))
              have HR7:=Aside0.mk ho7
              have kr8 : w7.cell? ⟨w.heap.size + 4,0,none⟩ = some (.slice Ar oT.length cr):=(blk_cell HO7.out 0).trans rfl
              have kt8 : w7.cell? ⟨g,6,none⟩ = some (.slice (some ⟨gk,0,none⟩) hs.length ck):=(blk_cell HG7.out 6).trans rfl
              have fr8:=blk_frozen HO7.out 0
              clear ho7 hb7 hg7 hat7 hty kr6 kt6 kr7 kt7
              refine hK.out _ _ ⟨kr8,kt8⟩ (fun hHeld => ?_)
              clear hK K
              refine norm_ (a':=?_) ?_ ?_
              rotate_left
              · show Act.put _ (some 131) _ = _
                simp only [Act.put,sx_,sy_,sz_,i64_w,i32_w]
                rfl
              refine pu_ (i:=9) (N:=some 132) 11 1023 ?_
              refine last_ (i:=10) (N:=none) #[true,true,true,true,true,true,true,true,true,true,true] rfl rfl (by kernel_rfl) (by decide) (fun K hK => ?_)
              refine skip_ (w1:=?_) (by rfl) rfl ?_ ?_
              rotate_left
              · go_simp
                rfl
              refine hK.out _ _ ?_
              clear hK K
              refine done_ (by kernel_rfl) ?_
              have hl7 : (oT ++ [lstS tk]).length = oT.length + 1:=by simp
              have hr7:=HR7.out
              rw [hl7] at hr7
              have HN8:=Aside0.mk (nb_seto HN7.out (show w.heap.size ≠ w.heap.size + 4 by omega) 0 (.slice A7 (oT.length + 1) c7))
              have HS8:=Aside0.mk (nb_seto HS7.out (show w.heap.size + 1 ≠ w.heap.size + 4 by omega) 0 (.slice A7 (oT.length + 1) c7))
              have HG8:=Aside0.mk (nb_seto HG7.out (show g ≠ w.heap.size + 4 by omega) 0 (.slice A7 (oT.length + 1) c7))
              have HO8:=Aside0.mk (nb_setl HO7.out 0 (.slice A7 (oT.length + 1) c7))
              have HE8:=Aside0.mk (Kd.R_set HE7.out HO7.out (by decide) 0 (.slice A7 (oT.length + 1) c7))
              have HT8:=Aside0.mk (Kd.R_set HT7.out HO7.out (by decide) 0 (.slice A7 (oT.length + 1) c7))
              have HB8:=Aside0.mk (HB7.out.setCell (p:=⟨w.heap.size + 4,0,none⟩) (show w.heap.size ≤ w.heap.size + 4 by omega) (.slice A7 (oT.length + 1) c7))
              have HR8:=Aside0.mk (Kd.S_set hr7 HO7.out (by decide) 0 (.slice A7 (oT.length + 1) c7))
              have HX8:=Aside0.mk (Kd.S_set HX7.out HO7.out (by decide) 0 (.slice A7 (oT.length + 1) c7))
              have HV8:=Aside0.mk (Kd.R_set HV7.out HO7.out (by decide) 0 (.slice A7 (oT.length + 1) c7))
              have hpq : ∀ k,(P k ∧ k < W5.heap.size ∨ W5.heap.size ≤ k) → ¬ (Q k ∧ k < W5.heap.size):=fun k h1 h2 => h1.elim (fun h => HPQ.out k h.1 h2.1) (fun h => by omega)
              have hpg : ∀ k,(P k ∧ k < W5.heap.size ∨ W5.heap.size ≤ k) → k ≠ gt:=fun k h1 => h1.elim (fun h => HPG.out k (Or.inl h.1)) (fun h => by omega)
              have hqg : ∀ k,(Q k ∧ k < W5.heap.size) → k ≠ gt:=fun k h => HPG.out k (Or.inr h.1)
              have hgt8 : gt < (w7.setCell ⟨w.heap.size + 4,0,none⟩ (.slice A7 (oT.length + 1) c7)).heap.size:=Kd.R_lt HT8.out gt (by simp [Value.ownBlock])
              clear hr7 hl7 kr8 kt8 fr8 hHeld HO7 HN7 HS7 HG7 HE7 HT7 HB7 HV7 HX7 HR7 HD6 HR6 HON kr0 kt0 HO5 HN5 HS5 HG5 HE5 HT5 HB5 HRT5 HRO5 HK5 HV5
              generalize w7.setCell ⟨w.heap.size + 4,0,none⟩ (.slice A7 (oT.length + 1) c7) = W8 at HN8 HS8 HG8 HO8 HE8 HT8 HB8 HR8 HX8 HV8 hgt8 ⊢
              obtain ⟨P2,HRT5,hP2⟩ : ∃ P2 : Nat → Prop,Aside0 (Kd.S (Kd.slice 3 (Kd.int .i64)) 24 W8 w.heap.size (fun k => P2 k ∧ k < W8.heap.size) (.slice A7 (oT.length + 1) c7) (oT ++ [lstS tk])) ∧ ∀ k,P2 k → (P k ∧ k < W5.heap.size ∨ W5.heap.size ≤ k):=⟨_,⟨Kd.S_mono (Kd.S_bound HR8.out) (fun k hk => ⟨hk.1,hk.2.2.1⟩)⟩,fun _ h => h⟩
              obtain ⟨Q2,HRO5,hQ2⟩ : ∃ Q2 : Nat → Prop,Aside0 (Kd.S (Kd.slice 3 (Kd.int .i64)) 24 W8 w.heap.size (fun k => Q2 k ∧ k < W8.heap.size) (.slice Ao oO.length co2) oO) ∧ ∀ k,Q2 k → (Q k ∧ k < W5.heap.size):=⟨_,⟨Kd.S_mono (Kd.S_bound HX8.out) (fun k hk => ⟨hk.1,hk.2.2.1⟩)⟩,fun _ h => h⟩
              have HPQ2 : Aside0 (∀ k,P2 k → ¬ Q2 k):=⟨fun k h1 h2 => hpq k (hP2 k h1) (hQ2 k h2)⟩
              have HPG2 : Aside0 (∀ k,P2 k → k ≠ gt):=⟨fun k h => hpg k (hP2 k h)⟩
              have HQG2 : Aside0 (∀ k,Q2 k → k ≠ gt):=⟨fun k h => hqg k (hQ2 k h)⟩
              have HO5:=HO8
              have HN5:=HN8
              have HS5:=HS8
              have HG5:=HG8
              have HE5:=HE8
              have HT5:=HT8
              have HB5:=HB8
              have HV5:=HV8
              clear HO8 HN8 HS8 HG8 HE8 HT8 HB8 HV8 HR8 HX8 hpq hpg hqg hP2 hQ2 HPQ HPG hgt5
              go_upto_region 22 with (fail)
              have hon:=x_lst (A:=some ⟨go,0,none⟩) (n:=cs.length) (c:=co) ovl W8.drew HLV.out (by omega) (Kd.C_below (show Kd.C Kd.bool W8 (some ⟨go,0,none⟩) ovl.length ovl from (Kd.R_reads' HV5.out).2.2) (below_drew (Below.refl W8.heap.size W8))) (Kd.R_reads' HV5.out).2.1
              have HON:=Aside0.mk hon
              have kr0 : W8.drew.cell? ⟨w.heap.size + 4,1,none⟩ = some (.slice Ao oO.length co2):=(blk_cell HO5.out 1).trans rfl
              have kt0 : W8.drew.cell? ⟨g,7,none⟩ = some (.slice (some ⟨go,0,none⟩) cs.length co):=(blk_cell HG5.out 7).trans rfl
              clear hon
              refine start_ (n:=11) (S:=fun w' => w'.cell? ⟨w.heap.size + 4,1,none⟩ = some (.slice Ao oO.length co2) ∧ w'.cell? ⟨g,7,none⟩ = some (.slice (some ⟨go,0,none⟩) cs.length co)) (ds:=[10]) #[false,false,false,false,false,false,false,false,false,false,false] (by kernel_rfl) rfl rfl ⟨kr0,kt0⟩ (fun hHeld => ?_)
              refine pu_ (i:=0) (N:=some 133) 11 1 ?_
              refine pu_ (i:=2) (N:=some 135) 11 5 ?_
              refine pu_ (i:=3) (N:=some 136) 11 13 ?_
              refine pu_ (i:=4) (N:=some 137) 11 29 ?_
              refine ta2_ (i:=1) (N:=some 134) 11 31 hHeld ?_
              refine ta2_ (i:=5) (N:=some 138) 11 63 hHeld ?_
              refine on_ (i:=6) (N:=some 139) 11 127 (fun K hK => ?_)
              refine goes_ Try.func42 (by kernel_rfl) rfl #[.slice (some ⟨go,0,none⟩) cs.length co] (by rfl) rfl rfl (by simp only [List.map_toArray,List.map_cons,List.map_nil];rfl) ?_
              with_reducible refine (HON.out).mono ?_
              rintro e w6 ⟨vr,rfl,hr6,hb6⟩
              refine ⟨_,rfl,?_⟩
              obtain ⟨A6,c6,rfl⟩:=Kd.R_slice hr6
              have HD6:=Aside0.mk (below_step (below_drew (Below.refl W8.heap.size W8)) hb6)
              have HR6:=Aside0.mk (show Kd.R (Kd.int .i64) 3 w6 W8.heap.size (fun _ => True) (.slice A6 (lstS ovl).length c6) (lstS ovl) from hr6)
              clear hr6 hb6
              have kr6 : w6.cell? ⟨w.heap.size + 4,1,none⟩ = some (.slice Ao oO.length co2):=(blk_cell (blk_below HO5.out HD6.out) 1).trans rfl
              have kt6 : w6.cell? ⟨g,7,none⟩ = some (.slice (some ⟨go,0,none⟩) cs.length co):=(blk_cell (blk_below HG5.out HD6.out) 7).trans rfl
              refine hK.out _ _ ⟨kr6,kt6⟩ (fun hHeld => ?_)
              clear hK K
              refine norm_ (a':=?_) ?_ ?_
              rotate_left
              · show Act.put _ (some 139) _ = _
                simp only [Act.put,sx_,sy_,sz_,i64_w,i32_w]
                rfl
              refine on_ (i:=7) (N:=some 140) 11 255 (fun K hK => ?_)
              refine value_ (w1:=?_) (v:=?_) (by rfl) rfl ?_ ?_
              rotate_left 2
              · go_simp
                constructor
                · rfl
                · rfl
              have kr7 : (w6.alloc (.cells #[.slice A6 (lstS ovl).length c6] 24)).cell? ⟨w.heap.size + 4,1,none⟩ = some (.slice Ao oO.length co2):=(blk_cell (blk_alloc (blk_below HO5.out HD6.out) _) 1).trans rfl
              have kt7 : (w6.alloc (.cells #[.slice A6 (lstS ovl).length c6] 24)).cell? ⟨g,7,none⟩ = some (.slice (some ⟨go,0,none⟩) cs.length co):=(blk_cell (blk_alloc (blk_below HG5.out HD6.out) _) 7).trans rfl
              refine hK.out _ _ ⟨kr7,kt7⟩ (fun hHeld => ?_)
              clear hK K
              refine norm_ (a':=?_) ?_ ?_
              rotate_left
              · show Act.put _ (some 140) _ = _
                simp only [Act.put,sx_,sy_,sz_,i64_w,i32_w]
                rfl
              refine on_ (i:=8) (N:=some 141) 11 511 (fun K hK => ?_)
              refine Kd.S_append_step (Kd.slice 3 (Kd.int .i64)) (w0:=w) w.heap.size (by rfl) (.tmp 134) (.tmp 140) 30 24 (.slice none 0 0) 24 rfl Try.underlying30 (by kernel_rfl) rfl (by decide) (by omega) (.slice Ao oO.length co2) oO (lstS ovl) [.slice A6 (lstS ovl).length c6] (fun k => (Q2 k ∧ k < W8.heap.size) ∨ W8.heap.size ≤ k) (fun k_ => some k_ = (Value.slice A6 (lstS ovl).length c6).ownBlock) (by rfl) (by rfl) ?aP ?aK ?aF ?aO ?aB ?aS ?aL ?_
              case aP => exact Kd.M_row (Kd.R_lower (Kd.R_tight rfl HR6.out) HB5.out.size)
              case aK => exact fun k hk => ⟨Or.inr (Kd.R_base HR6.out k hk.symm),fun he => by have h1:=Kd.R_base HR6.out k hk.symm;have h2:=Kd.S_lt HRO5.out k he.symm;omega⟩
              case aF => exact fun k hk => Or.inr (Nat.le_trans HD6.out.size hk)
              case aO => exact Kd.S_mono (Kd.S_below HRO5.out HD6.out) (fun k hk => ⟨Or.inl hk,fun he => by have h1:=Kd.R_base HR6.out k he.symm;omega⟩)
              case aB => exact below_step HB5.out HD6.out
              case aS => exact Nat.le_trans HB5.out.size HD6.out.size
              case aL => have h1:=HLT.out;have h2:=HLO.out;omega
              intro v7 w7 ho7 hb7 hg7 hat7
              obtain ⟨A9,c9,rfl⟩:=Kd.S_slice ho7
              have hty:=Kd.S_typed (Kd.S_below HRO5.out HD6.out)
              have HO7:=Aside0.mk (bt_grown (blk_below HO5.out HD6.out) hg7 hty (by decide))
              have HN7:=Aside0.mk (bt_grown (blk_below HN5.out HD6.out) hg7 hty (by decide))
              have HS7:=Aside0.mk (bt_grown (blk_below HS5.out HD6.out) hg7 hty (by decide))
              have HG7:=Aside0.mk (bt_grown (blk_below HG5.out HD6.out) hg7 hty (by decide))
              have HE7:=Aside0.mk (rt_grown (Kd.R_below HE5.out HD6.out) hg7 hty (by decide))
              have HT7:=Aside0.mk (rt_grown (Kd.R_below HT5.out HD6.out) hg7 hty (by decide))
              have HB7:=Aside0.mk hb7
              have HX7:=Aside0.mk (Kd.S_grown (Kd.S_below HRT5.out HD6.out) hg7 (fun k hk e1 => HPQ2.out k hk.1 (by exact (HRO5.out.elim fun f hf => (hf.1 k e1.symm).1))))
              have HR7:=Aside0.mk ho7
              have kr8 : w7.cell? ⟨w.heap.size + 4,1,none⟩ = some (.slice Ao oO.length co2):=(blk_cell HO7.out 1).trans rfl
              have kt8 : w7.cell? ⟨g,7,none⟩ = some (.slice (some ⟨go,0,none⟩) cs.length co):=(blk_cell HG7.out 7).trans rfl
              have fr8:=blk_frozen HO7.out 1
              clear ho7 hb7 hg7 hat7 hty kr6 kt6 kr7 kt7
              refine hK.out _ _ ⟨kr8,kt8⟩ (fun hHeld => ?_)
              clear hK K
              refine norm_ (a':=?_) ?_ ?_
              rotate_left
              · show Act.put _ (some 141) _ = _
                simp only [Act.put,sx_,sy_,sz_,i64_w,i32_w]
                rfl
              refine pu_ (i:=9) (N:=some 142) 11 1023 ?_
              refine last_ (i:=10) (N:=none) #[true,true,true,true,true,true,true,true,true,true,true] rfl rfl (by kernel_rfl) (by decide) (fun K hK => ?_)
              refine skip_ (w1:=?_) (by rfl) rfl ?_ ?_
              rotate_left
              · go_simp
                rfl
              refine hK.out _ _ ?_
              clear hK K
              refine done_ (by kernel_rfl) ?_
              have hl7 : (oO ++ [lstS ovl]).length = oO.length + 1:=by simp
              have hr7:=HR7.out
              rw [hl7] at hr7
              have HN8:=Aside0.mk (nb_seto HN7.out (show w.heap.size ≠ w.heap.size + 4 by omega) 1 (.slice A9 (oO.length + 1) c9))
              have HS8:=Aside0.mk (nb_seto HS7.out (show w.heap.size + 1 ≠ w.heap.size + 4 by omega) 1 (.slice A9 (oO.length + 1) c9))
              have HG8:=Aside0.mk (nb_seto HG7.out (show g ≠ w.heap.size + 4 by omega) 1 (.slice A9 (oO.length + 1) c9))
              have HO8:=Aside0.mk (nb_setl HO7.out 1 (.slice A9 (oO.length + 1) c9))
              have HE8:=Aside0.mk (Kd.R_set HE7.out HO7.out (by decide) 1 (.slice A9 (oO.length + 1) c9))
              have HT8:=Aside0.mk (Kd.R_set HT7.out HO7.out (by decide) 1 (.slice A9 (oO.length + 1) c9))
              have HB8:=Aside0.mk (HB7.out.setCell (p:=⟨w.heap.size + 4,1,none⟩) (show w.heap.size ≤ w.heap.size + 4 by omega) (.slice A9 (oO.length + 1) c9))
              have HR8:=Aside0.mk (Kd.S_set hr7 HO7.out (by decide) 1 (.slice A9 (oO.length + 1) c9))
              have HX8:=Aside0.mk (Kd.S_set HX7.out HO7.out (by decide) 1 (.slice A9 (oO.length + 1) c9))
              have hpq : ∀ k,(P2 k ∧ k < W8.heap.size) → ¬ (Q2 k ∧ k < W8.heap.size ∨ W8.heap.size ≤ k):=fun k h1 h2 => h2.elim (fun h => HPQ2.out k h1.1 h.1) (fun h => by omega)
              have hpg : ∀ k,(P2 k ∧ k < W8.heap.size) ∨ (Q2 k ∧ k < W8.heap.size ∨ W8.heap.size ≤ k) → k ≠ gt:=fun k h => h.elim (fun h => HPG2.out k h.1) (fun h => h.elim (fun h => HQG2.out k h.1) (fun h => by omega))
              have HPQ3:=Aside0.mk hpq
              have HPG3:=Aside0.mk hpg
              clear hr7 hl7 kr8 kt8 fr8 hHeld HO7 HN7 HS7 HG7 HE7 HT7 HB7 HX7 HR7 HD6 HR6 HON kr0 kt0 HO5 HN5 HS5 HG5 HE5 HT5 HB5 HRT5 HRO5 HV5 hpq hpg
              go_wp2_with fail
              rw [← EA.out]
              go_roundg (l4.length - (kk + 1))
              case measure => omega
              case rel => exact ⟨kk + 1,T',oT ++ [lstS tk],oO ++ [lstS ovl],.slice A7 (oT.length + 1) c7,.slice A9 (oO.length + 1) c9,_,_,_,_,by omega,by omega,by go_num,⟨by rw [List.length_append,HLT.out];rfl⟩,⟨by rw [List.length_append,HLO.out];rfl⟩,HTM5,HFN,HPQ3,HPG3,HX8,HR8,HO8,HN8,HS8,HG8,HE8,HT8,HB8⟩
            · have hkl : kk = l4.length:=by omega
              have hF:=HF.out
              rw [hkl,List.drop_length,framesS] at hF
              have hfe : fin = (oT,oO):=by
                have:=Option.some.inj hF
                simpa using this.symm
              have HFE:=Aside0.mk hfe
              clear hF hfe hkl HF HLT HLO HTM HG HE HT
              obtain ⟨Ar,cr,rfl⟩:=Kd.S_slice HRT.out
              obtain ⟨Ao,co,rfl⟩:=Kd.S_slice HRO.out
              have p1 : ((kk : Int) < (l4.length : Int)) = False:=eq_false (by omega)
              have p2 : (kk < l4.length) = False:=eq_false hlt2
              have k0 : wr.cell? ⟨w.heap.size + 4,0,none⟩ = some (.slice Ar oT.length cr):=(blk_cell HO.out 0).trans rfl
              have k1 : wr.cell? ⟨w.heap.size + 4,1,none⟩ = some (.slice Ao oO.length co):=(blk_cell HO.out 1).trans rfl
              have e0 : wr.cell? ⟨w.heap.size + 1,0,none⟩ = some (.slice none 0 0):=(blk_cell HS.out 0).trans rfl
              have e1 : wr.cell? ⟨w.heap.size + 1,1,none⟩ = some (.slice none 0 0):=(blk_cell HS.out 1).trans rfl
              have g0:=blk_frozen HS.out 0
              have g1:=blk_frozen HS.out 1
              go_wp2_with fail
              have HY:=nb_setl (nb_setl HS.out 0 (.slice Ar oT.length cr)) 1 (.slice Ao oO.length co)
              have BWY:=Aside0.mk ((HB.out.setCell (p:=⟨w.heap.size + 1,0,none⟩) (Nat.le_succ _) (.slice Ar oT.length cr)).setCell (p:=⟨w.heap.size + 1,1,none⟩) (Nat.le_succ _) (.slice Ao oO.length co))
              have HX1:=Aside0.mk (Kd.S_set (Kd.S_set HRT.out HS.out (by decide) 0 (.slice Ar oT.length cr)) (nb_setl HS.out 0 (.slice Ar oT.length cr)) (by decide) 1 (.slice Ao oO.length co))
              have HX2:=Aside0.mk (Kd.S_set (Kd.S_set HRO.out HS.out (by decide) 0 (.slice Ar oT.length cr)) (nb_setl HS.out 0 (.slice Ar oT.length cr)) (by decide) 1 (.slice Ao oO.length co))
              clear k0 k1 e0 e1 g0 g1 HS HB HN HO HRT HRO
              generalize (wr.setCell ⟨w.heap.size + 1,0,none⟩ (.slice Ar oT.length cr)).setCell ⟨w.heap.size + 1,1,none⟩ (.slice Ao oO.length co) = W10 at HY BWY HX1 HX2 ⊢
              refine bodyPost_ret (results_ct2 rfl _ _ (w.heap.size + 1) 32 #[.slice Ar oT.length cr,.slice Ao oO.length co] (0,0) _ rfl HY hu rfl (by kernel_rfl)) rfl ?_
              have hok:=HOK.out
              rw [hok]
              exact ⟨_,_,P,Q,rfl,HPQ.out,by rw [HFE.out];exact HX1.out,by rw [HFE.out];exact HX2.out,BWY.out⟩
end Go.Proofs.Ytblcnbnphjnhdaa.PAll
