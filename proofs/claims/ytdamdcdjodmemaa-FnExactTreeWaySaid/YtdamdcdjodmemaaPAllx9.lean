/- Proved here: contracts of functions of the given program, or lemmas on them, for the laws of this seat. Written by xprint.py, a program of this session, on the ground of the kit's print; parts by hand: wip/x/ext. -/
import Derived.Test.YtdamdcdjodmemaaPAllx0
import Derived.Test.YtdamdcdjodmemaaPAllx1
import Derived.Test.YtdamdcdjodmemaaPAllx2
import Derived.Test.YtdamdcdjodmemaaPAllx3
import Derived.Test.YtdamdcdjodmemaaPAllx4
import Derived.Test.YtdamdcdjodmemaaPAllx6
import Derived.Test.YtdamdcdjodmemaaPAllx8
namespace Go.Proofs.Ytdamdcdjodmemaa.PAll
open Go.RowKit Go.Proofs.YtdamdcdjodmemaaW.PrintWords Go.Proofs.YtdamdcdjodmemaaW.PrintLast Go.Proofs.YtdamdcdjodmemaaW.PrintMore
attribute [local go_sem] max2_int min2_int max_two min_two max_three min_three max_four min_four   -- for this text's walks alone
set_option linter.unusedVariables false
set_option linter.unusedSimpArgs false

-- LIB tree
theorem upS_lt {cs : List S51} {o : List Int} {b : Int} (d : Nat) : ∀ (i : Nat) (best at_ : Int),i + d = cs.length → -1 ≤ best → best < (cs.length : Int) → -1 ≤ (upS cs o b d i best at_).1 ∧ (upS cs o b d i best at_).1 < (cs.length : Int):=by
  induction d with
  | zero => exact fun _ _ _ _ h1 h2 => ⟨h1,h2⟩
  | succ d ih =>
    intro i best at_ h0 h1 h2
    rw [upS]
    split
    · split
      · exact ih _ _ _ (by omega) (by omega) (by omega)
      · exact ih _ _ _ (by omega) h1 h2
    · exact ih _ _ _ (by omega) h1 h2
theorem upX_lt (cs : List S51) (o : List Int) (b : Int) : -1 ≤ (upX cs o b).1 ∧ (upX cs o b).1 < (cs.length : Int):=upS_lt cs.length 0 (-1) (-1) (by omega) (by omega) (by omega)
def upN (N : Nat) (cs : List S51) (b : Nat) : Int:=(upX cs (costsN N cs) (b : Int)).1

-- LIB way
/-- A way up from a bridge: the bridges of it that have an up, and the bridge behind them. -/
inductive Ch (u : Nat → Int) (nx : Nat → Nat) : Nat → List Nat → Nat → Prop
  | nil (a : Nat) : Ch u nx a [] a
  | cons {a : Nat} {w : List Nat} {r : Nat} : 0 ≤ u a → Ch u nx (nx a) w r → Ch u nx a (a :: w) r
structure UpOk (N : Nat) (u : Nat → Int) (nx : Nat → Nat) (c : Nat → Int) : Prop where
  pos : ∀ b,b < N → 0 ≤ c b
  up : ∀ b,b < N → 0 ≤ u b → nx b < N ∧ c (nx b) < c b
theorem ch_some {N : Nat} {u : Nat → Int} {nx : Nat → Nat} {c : Nat → Int} (H : UpOk N u nx c) (S : Nat) : ∀ a,a < N → c a < S → ∃ w r,Ch u nx a w r ∧ u r < 0 ∧ r < N:=by
  induction S with
  | zero => intro a ha h;have:=H.pos a ha;omega
  | succ S ih =>
    intro a ha h
    by_cases e : 0 ≤ u a
    · obtain ⟨h1,h2⟩:=H.up a ha e
      obtain ⟨w,r,q1,q2,q3⟩:=ih (nx a) h1 (by omega)
      exact ⟨a :: w,r,Ch.cons e q1,q2,q3⟩
    · exact ⟨[],a,Ch.nil a,by omega,ha⟩
theorem ch_facts {N : Nat} {u : Nat → Int} {nx : Nat → Nat} {c : Nat → Int} (H : UpOk N u nx c) {a : Nat} {w : List Nat} {r : Nat} (h : Ch u nx a w r) : a < N → r < N ∧ c r ≤ c a ∧ (∀ x ∈ w,x < N ∧ 0 ≤ u x ∧ c x ≤ c a ∧ c r < c x) ∧ w.Nodup:=by
  induction h with
  | nil a => exact fun ha => ⟨ha,Int.le_refl _,fun x hx => (by cases hx),List.Pairwise.nil⟩
  | @cons a w r h0 hc ih =>
    intro ha
    obtain ⟨h1,h2⟩:=H.up a ha h0
    obtain ⟨i1,i2,i3,i4⟩:=ih h1
    refine ⟨i1,by omega,fun x hx => ?_,List.Pairwise.cons (fun x hx e => ?_) i4⟩
    · rcases List.mem_cons.1 hx with rfl | hx
      · exact ⟨ha,h0,Int.le_refl _,by omega⟩
      · have:=i3 x hx;omega
    · have:=i3 x hx;rw [← e] at this;omega
theorem ch_det {u : Nat → Int} {nx : Nat → Nat} {a : Nat} {w w2 : List Nat} {r r2 : Nat} (h : Ch u nx a w r) (h2 : Ch u nx a w2 r2) (hr : u r < 0) (hr2 : u r2 < 0) : w = w2 ∧ r = r2:=by
  induction h generalizing w2 with
  | nil a =>
    cases h2 with
    | nil _ => exact ⟨rfl,rfl⟩
    | cons h0 _ => omega
  | cons h0 _ ih =>
    cases h2 with
    | nil _ => omega
    | cons _ h3 => obtain ⟨rfl,e⟩:=ih h3 hr;exact ⟨rfl,e⟩
theorem ch_at {u : Nat → Int} {nx : Nat → Nat} {b : Nat} {v : List Nat} {r : Nat} (h : Ch u nx b v r) {a : Nat} (ha : a ∈ v) : ∃ q t,v = q ++ a :: t ∧ Ch u nx b q a ∧ Ch u nx a (a :: t) r:=by
  induction h with
  | nil b => cases ha
  | @cons b v r h0 hc ih =>
    by_cases e : a = b
    · subst e;exact ⟨[],v,rfl,Ch.nil a,Ch.cons h0 hc⟩
    · obtain ⟨q,t,e1,e2,e3⟩:=ih ((List.mem_cons.1 ha).resolve_left e)
      exact ⟨b :: q,t,by rw [e1];rfl,Ch.cons h0 e2,e3⟩
/-- Two ways to the same end part at one place. -/
theorem ch_meet {N : Nat} {u : Nat → Int} {nx : Nat → Nat} {c : Nat → Int} (H : UpOk N u nx c) {b : Nat} (hb : b < N) {v : List Nat} {r : Nat} (hv : Ch u nx b v r) (hr : u r < 0) {a : Nat} {w : List Nat} (hw : Ch u nx a w r) : a < N →
    ∃ p q t m,w = p ++ t ∧ v = q ++ t ∧ Ch u nx a p m ∧ Ch u nx b q m ∧ (∀ x ∈ p,x ∉ v) ∧ (∀ x ∈ q,x ∉ w):=by
  obtain ⟨v1,v2,v3,v4⟩:=ch_facts H hv hb
  induction hw with
  | nil a => exact fun ha => ⟨[],v,[],a,rfl,by simp,Ch.nil a,hv,fun x hx => (by cases hx),fun x _ hx => (by cases hx)⟩
  | @cons a w r h0 hc ih =>
    intro ha
    obtain ⟨h1,h2⟩:=H.up a ha h0
    by_cases e : a ∈ v
    · obtain ⟨q,t,e1,e2,e3⟩:=ch_at hv e
      have hd:=(ch_det e3 (Ch.cons h0 hc) hr hr).1
      rw [hd] at e1
      refine ⟨[],q,a :: w,a,rfl,e1,Ch.nil a,e2,fun x hx => (by cases hx),fun x hx hx2 => ?_⟩
      rw [e1] at v4
      exact (List.nodup_append.1 v4).2.2 x hx x hx2 rfl
    · obtain ⟨p,q,t,m,i1,i2,i3,i4,i5,i6⟩:=ih hv hr v1 v2 v3 h1
      refine ⟨a :: p,q,t,m,by rw [i1];rfl,i2,Ch.cons h0 i3,i4,fun x hx => ?_,fun x hx hx2 => ?_⟩
      · rcases List.mem_cons.1 hx with rfl | hx
        · exact e
        · exact i5 x hx
      · rcases List.mem_cons.1 hx2 with rfl | hx2
        · exact e (by rw [i2];exact List.mem_append_left _ hx)
        · exact i6 x hx hx2
/-- Numbers below n, each once, are at most n many. -/
theorem nodup_len (n : Nat) : ∀ l : List Nat,l.Nodup → (∀ x ∈ l,x < n) → l.length ≤ n:=by
  induction n with
  | zero =>
    intro l _ h
    cases l with
    | nil => exact Nat.le_refl _
    | cons x t => exact absurd (h x List.mem_cons_self) (by omega)
  | succ n ih =>
    intro l hn h
    have h1:=ih (l.filter (fun x => decide (x ≠ n))) (hn.filter _) (fun x hx => by
      obtain ⟨q1,q2⟩:=List.mem_filter.1 hx
      have:=h x q1
      have : x ≠ n:=of_decide_eq_true q2
      omega)
    have h2 : l.length ≤ (l.filter (fun x => decide (x ≠ n))).length + 1:=by
      have h3 : ∀ l : List Nat,l.Nodup → l.length ≤ (l.filter (fun x => decide (x ≠ n))).length + 1 ∧ (n ∉ l → l.length ≤ (l.filter (fun x => decide (x ≠ n))).length):=by
        intro l
        induction l with
        | nil => exact fun _ => ⟨Nat.zero_le _,fun _ => Nat.le_refl _⟩
        | cons x t it =>
          intro hx
          obtain ⟨g1,g2⟩:=List.nodup_cons.1 hx
          obtain ⟨j1,j2⟩:=it g2
          by_cases e : x = n
          · subst e
            rw [List.filter_cons_of_neg (by simp)]
            exact ⟨by have:=j2 g1;rw [List.length_cons];omega,fun hne => absurd List.mem_cons_self hne⟩
          · rw [List.filter_cons_of_pos (by simp [e]),List.length_cons,List.length_cons]
            exact ⟨by omega,fun hne => by have:=j2 (fun y => hne (List.mem_cons_of_mem _ y));omega⟩
      exact (h3 l hn).1
    omega
theorem upS_hit2 (cs : List S51) (o : List Int) (b : Int) (d : Nat) : ∀ (i : Nat) (best at_ : Int),i + d = cs.length → upS cs o b d i best at_ = (best,at_) ∨ (0 ≤ (upS cs o b d i best at_).1 ∧ (upS cs o b d i best at_).1 < cs.length ∧ othX (rd_T51 cs (upS cs o b d i best at_).1) b = some (upS cs o b d i best at_).2 ∧ rd o (upS cs o b d i best at_).2 + (rd_T51 cs (upS cs o b d i best at_).1).f2 = rd o b):=by
  induction d with
  | zero => exact fun _ _ _ _ => Or.inl rfl
  | succ d ih =>
    intro i best at_ h
    rw [upS]
    cases e : othX (rd_T51 cs (i : Int)) b with
    | none => exact ih (i + 1) best at_ (by omega)
    | some q =>
      simp only []
      by_cases c : rd o q + (rd_T51 cs (i : Int)).f2 = rd o b ∧ (best < 0 ∨ q < at_)
      · rw [if_pos c]
        rcases ih (i + 1) (i : Int) q (by omega) with h' | h'
        · rw [h'];exact Or.inr ⟨by omega,by simp only [];omega,e,c.1⟩
        · exact Or.inr h'
      · rw [if_neg c];exact ih (i + 1) best at_ (by omega)
/-- The bridge behind the up of a bridge. -/
def nxN (N : Nat) (cs : List S51) (b : Nat) : Nat:=(upX cs (costsN N cs) (b : Int)).2.toNat
theorem up_hit {N : Nat} {cs : List S51} (hs : SoundC cs N) (b : Nat) (h0 : 0 ≤ upN N cs b) : ∃ (K : Nat) (hK : K < cs.length),upN N cs b = (K : Int) ∧ othX cs[K] (b : Int) = some (nxN N cs b : Int) ∧ (upX cs (costsN N cs) (b : Int)).2 = (nxN N cs b : Int) ∧ nxN N cs b < N ∧ nxN N cs b ≠ b ∧ gD (costsN N cs) (nxN N cs b) + cs[K].f2 = gD (costsN N cs) b:=by
  have hu : (upS cs (costsN N cs) (b : Int) cs.length 0 (-1) (-1)).1 = upN N cs b:=rfl
  rcases upS_hit2 cs (costsN N cs) (b : Int) cs.length 0 (-1) (-1) (by omega) with h | ⟨h1,h2,h3,h4⟩
  · rw [h] at hu;simp only [] at hu;omega
  · rw [hu] at h1 h2 h3 h4
    obtain ⟨K,hK⟩:=Int.eq_ofNat_of_zero_le h0
    have hKl : K < cs.length:=by omega
    rw [hK,rdCab_get cs K hKl] at h3 h4
    obtain ⟨q0,q1,q2⟩:=oth_in (hs _ (List.getElem_mem hKl)) h3
    have e : (upS cs (costsN N cs) (b : Int) cs.length 0 (-1) (-1)).2 = (nxN N cs b : Int):=by
      have : nxN N cs b = (upS cs (costsN N cs) (b : Int) cs.length 0 (-1) (-1)).2.toNat:=rfl
      omega
    rw [e] at h3 h4
    rw [rd_gD,rd_gD] at h4
    exact ⟨K,hKl,hK,h3,e,by omega,by omega,h4⟩
theorem oth_ends {c : S51} {b q : Int} (e : othX c b = some q) : (b = c.f0 ∧ q = c.f1) ∨ (b = c.f1 ∧ q = c.f0):=by
  unfold othX at e
  split at e
  · rename_i w;injection e with e;exact Or.inl ⟨w,e.symm⟩
  · split at e
    · rename_i w;injection e with e;exact Or.inr ⟨w,e.symm⟩
    · cases e
theorem up_once2 {N : Nat} {cs : List S51} (hs : SoundC cs N) (b b2 : Nat) (h0 : 0 ≤ upN N cs b) (e : upN N cs b = upN N cs b2) : b = b2:=by
  obtain ⟨K,hK,k1,k2,_,_,_,k3⟩:=up_hit hs b h0
  obtain ⟨L,hL,l1,l2,_,_,_,l3⟩:=up_hit hs b2 (by omega)
  obtain rfl : K = L:=by omega
  have hok:=hs _ (List.getElem_mem hK)
  rcases oth_ends k2 with ⟨y1,y2⟩ | ⟨y1,y2⟩ <;> rcases oth_ends l2 with ⟨z1,z2⟩ | ⟨z1,z2⟩
  · omega
  · have e1 : nxN N cs b = b2:=by omega
    have e2 : nxN N cs b2 = b:=by omega
    rw [e1] at k3;rw [e2] at l3;omega
  · have e1 : nxN N cs b = b2:=by omega
    have e2 : nxN N cs b2 = b:=by omega
    rw [e1] at k3;rw [e2] at l3;omega
  · omega
theorem upOk_of {N : Nat} {cs : List S51} (hv : cabsB (N : Int) cs = true) : UpOk N (upN N cs) (nxN N cs) (gD (costsN N cs)):=by
  have hs:=sound_of hv
  refine ⟨fun b hb => ((costs_ok hv).2 b hb).1,fun b hb h0 => ?_⟩
  obtain ⟨K,hK,k1,k2,_,k4,_,k3⟩:=up_hit hs b h0
  have:=hs _ (List.getElem_mem hK)
  exact ⟨k4,by omega⟩
/-- The way up from a bridge to its root. -/
theorem way_up {N : Nat} {cs : List S51} (hv : cabsB (N : Int) cs = true) {a : Nat} (ha : a < N) : ∃ w r,Ch (upN N cs) (nxN N cs) a w r ∧ upN N cs r < 0 ∧ r < N ∧ gD (rootsL N cs) a = (r : Int) ∧ w.Nodup ∧ w.length < N ∧ (∀ x ∈ w,x < N ∧ 0 ≤ upN N cs x ∧ gD (rootsL N cs) x = (r : Int)) ∧ r ∉ w:=by
  have hs:=sound_of hv
  obtain ⟨f1,f2,f3,f4⟩:=cabsB_facts hv
  have H:=upOk_of hv
  have hle:=(costs_ok hv).2 a ha
  have hc:=cabOk_of hv
  have hrl:=rootsL_len N cs
  obtain ⟨w,r,q1,q2,q3⟩:=ch_some H 800 a ha (by omega)
  obtain ⟨g1,g2,g3,g4⟩:=ch_facts H q1 ha
  have hrr:=up_root (by omega) hs q3 q2
  have hstep : ∀ x,x < N → 0 ≤ upN N cs x → gD (rootsL N cs) x = gD (rootsL N cs) (nxN N cs x):=by
    intro x hx h0
    obtain ⟨K,hK,k1,k2,_,k4,_,k3⟩:=up_hit hs x h0
    rw [gD_get _ _ (by omega),gD_get _ _ (by omega)]
    refine (roots_join hc hx k4).2 ?_
    have hcl:=jnB_closed hc hx cs[K] (List.getElem_mem hK)
    have hself:=jnB_self hc hx
    rcases oth_ends k2 with ⟨y1,y2⟩ | ⟨y1,y2⟩
    · rw [← y1,← y2,Int.toNat_natCast,Int.toNat_natCast] at hcl;exact hcl.1 hself
    · rw [← y1,← y2,Int.toNat_natCast,Int.toNat_natCast] at hcl;exact hcl.2 hself
  have hall : ∀ {y : Nat} {v : List Nat},Ch (upN N cs) (nxN N cs) y v r → y < N → gD (rootsL N cs) y = (r : Int) ∧ ∀ x ∈ v,gD (rootsL N cs) x = (r : Int):=by
    intro y v h
    clear q1 g2 g3 g4
    induction h with
    | nil _ => exact fun _ => ⟨hrr,fun x hx => by cases hx⟩
    | @cons y v r h0 hc' ih =>
      intro hy
      obtain ⟨i1,i2⟩:=ih q2 q3 g1 hrr (H.up y hy h0).1
      have e:=hstep y hy h0
      exact ⟨by rw [e,i1],fun x hx => by
        rcases List.mem_cons.1 hx with rfl | hx
        · rw [e,i1]
        · exact i2 x hx⟩
  obtain ⟨a1,a2⟩:=hall q1 ha
  have hrw : r ∉ w:=fun hx => by have:=(g3 r hx).2.2.2;omega
  have hlen:=nodup_len N (r :: w) (List.Pairwise.cons (fun x hx e => hrw (e ▸ hx)) g4) (fun x hx => by
    rcases List.mem_cons.1 hx with rfl | hx
    · exact q3
    · exact (g3 x hx).1)
  rw [List.length_cons] at hlen
  exact ⟨w,r,q1,q2,q3,a1,g4,by omega,fun x hx => ⟨(g3 x hx).1,(g3 x hx).2.1,a2 x hx⟩,hrw⟩

-- LIB hasl
/-- A number is in a list. -/
def hasL (l : List Int) (x : Int) : Bool:=l.any fun y => decide (y = x)
theorem hasL_cons (y : Int) (l : List Int) (x : Int) : hasL (y :: l) x = (decide (y = x) || hasL l x):=rfl
theorem hasL_iff (l : List Int) (x : Int) : hasL l x = true ↔ x ∈ l:=by
  unfold hasL
  rw [List.any_eq_true]
  constructor
  · rintro ⟨y,h,e⟩
    rw [← of_decide_eq_true e];exact h
  · intro h
    exact ⟨x,h,decide_eq_true rfl⟩

-- LIB way2
/-- The way up from a bridge, followed so far. -/
def chL (u : Nat → Int) (nx : Nat → Nat) : Nat → Nat → List Nat
  | 0,_ => []
  | f + 1,a => if 0 ≤ u a then a :: chL u nx f (nx a) else []
theorem chL_eq {u : Nat → Int} {nx : Nat → Nat} {a : Nat} {w : List Nat} {r : Nat} (h : Ch u nx a w r) (hr : u r < 0) : ∀ f,w.length < f → chL u nx f a = w:=by
  induction h with
  | nil a =>
    intro f hf
    obtain ⟨f,rfl⟩ : ∃ m,f = m + 1:=⟨f - 1,by omega⟩
    rw [chL,if_neg (by omega)]
  | @cons a w r h0 hc ih =>
    intro f hf
    rw [List.length_cons] at hf
    obtain ⟨f,rfl⟩ : ∃ m,f = m + 1:=⟨f - 1,by omega⟩
    rw [chL,if_pos h0,ih hr f (by omega)]
/-- The cables up from a bridge. -/
def upsL (N : Nat) (cs : List S51) (a : Nat) : List Int:=(chL (upN N cs) (nxN N cs) 50 a).map (upN N cs)
theorem iups_l0 {N : Nat} {cs : List S51} (hv : cabsB (N : Int) cs = true) (hs vs : List Int) {a r : Nat} {w : List Nat} (h : Ch (upN N cs) (nxN N cs) a w r) (hr : upN N cs r < 0) : a < N → ∀ (k : Nat) (acc : List Int),acc.length + w.length ≤ 1000 → w.length + 400 < k →
    impl_Net_ups.l0 k (a : Int) (costsN N cs) acc (N : Int) cs hs vs = some (acc ++ w.map (upN N cs)):=by
  obtain ⟨f1,f2,f3,f4⟩:=cabsB_facts hv
  have hso:=sound_of hv
  induction h with
  | nil a =>
    intro ha k acc h1 hk
    obtain ⟨k,rfl⟩ : ∃ m,k = m + 1:=⟨k - 1,by omega⟩
    have hu : (upX cs (costsN N cs) (a : Int)).1 = upN N cs a:=rfl
    simp only [impl_Net_ups.l0]
    rw [iup_eq hso (by omega) (costs_ok hv) ha k (by omega),Option.bind_some,hu,if_pos hr,List.map_nil,List.append_nil]
  | @cons a w r h0 hc ih =>
    intro ha k acc h1 hk
    rw [List.length_cons] at h1 hk
    obtain ⟨k,rfl⟩ : ∃ m,k = m + 1:=⟨k - 1,by omega⟩
    have hu : (upX cs (costsN N cs) (a : Int)).1 = upN N cs a:=rfl
    obtain ⟨K,hK,k1,k2,k3,k4,_,_⟩:=up_hit hso a h0
    simp only [impl_Net_ups.l0]
    rw [iup_eq hso (by omega) (costs_ok hv) ha k (by omega),Option.bind_some,hu,if_neg (by omega),if_pos (by omega),k3,ih hr k4 k _ (by rw [List.length_append];simp only [List.length_cons,List.length_nil];omega) (by omega),List.append_assoc,List.map_cons]
    rfl
theorem iups_eq {N : Nat} {cs : List S51} (hv : cabsB (N : Int) cs = true) (hs vs : List Int) {a : Nat} (ha : a < N) (k : Nat) (hk : 500 < k) : impl_Net_ups.f k (N : Int) cs hs vs (a : Int) = some (upsL N cs a):=by
  obtain ⟨f1,f2,f3,f4⟩:=cabsB_facts hv
  obtain ⟨w,r,q1,q2,q3,q4,q5,q6,q7,q8⟩:=way_up hv ha
  unfold impl_Net_ups.f upsL
  rw [icosts_eq N cs hv k (by omega),Option.bind_some,chL_eq q1 q2 50 (by omega)]
  exact iups_l0 hv hs vs q1 q2 ha k [] (by simp;omega) (by omega)
/-- The marks of cables. -/
def mkB (m : List Bool) : List Int → List Bool
  | [] => m
  | x :: l => mkB (m.set x.toNat true) l
theorem mkB_len (l : List Int) : ∀ m,(mkB m l).length = m.length:=by
  induction l with
  | nil => exact fun _ => rfl
  | cons x l ih => intro m;rw [mkB,ih,List.length_set]
theorem mkB_get (l : List Int) : ∀ m : List Bool,(∀ x ∈ l,0 ≤ x ∧ x < m.length) → ∀ i : Nat,i < m.length → rdOf false (mkB m l) (i : Int) = (rdOf false m (i : Int) || hasL l (i : Int)):=by
  induction l with
  | nil => intro m _ i _;rw [mkB];simp [hasL]
  | cons x l ih =>
    intro m h i hi
    have hx:=h x List.mem_cons_self
    rw [mkB,ih _ (fun y hy => by have:=h y (List.mem_cons_of_mem _ hy);rw [List.length_set];omega) i (by rw [List.length_set];exact hi),hasL_cons]
    obtain ⟨X,rfl⟩:=Int.eq_ofNat_of_zero_le hx.1
    have e : rdOf false (m.set (X : Int).toNat true) (i : Int) = (rdOf false m (i : Int) || decide ((X : Int) = (i : Int))):=by
      rw [Int.toNat_natCast,rdB_get _ i (by rw [List.length_set];exact hi),rdB_get _ i hi,List.getElem_set]
      by_cases e : X = i
      · rw [if_pos e];simp [e]
      · rw [if_neg e,decide_eq_false (by omega),Bool.or_false]
    rw [e,Bool.or_assoc]
theorem sups_l0 {N : Nat} {cs : List S51} (hv : cabsB (N : Int) cs = true) (hs vs : List Int) {a r : Nat} {w : List Nat} (h : Ch (upN N cs) (nxN N cs) a w r) (hr : upN N cs r < 0) : a < N → ∀ (k : Nat) (m : List Bool),m.length = cs.length → w.length + 400 < k →
    spec_l19Up.l0 k (a : Int) m (costsN N cs) (upN N cs a) (N : Int) cs hs vs = some (mkB m (w.map (upN N cs))):=by
  obtain ⟨f1,f2,f3,f4⟩:=cabsB_facts hv
  have hso:=sound_of hv
  induction h with
  | nil a =>
    intro ha k m h1 hk
    obtain ⟨k,rfl⟩ : ∃ m,k = m + 1:=⟨k - 1,by omega⟩
    simp only [spec_l19Up.l0]
    rw [if_neg (by omega)]
    rfl
  | @cons a w r h0 hc ih =>
    intro ha k m h1 hk
    rw [List.length_cons] at hk
    obtain ⟨k,rfl⟩ : ∃ m,k = m + 1:=⟨k - 1,by omega⟩
    obtain ⟨K,hK,k1,k2,k3,k4,_,_⟩:=up_hit hso a h0
    have hu : (upX cs (costsN N cs) (nxN N cs a : Int)).1 = upN N cs (nxN N cs a):=rfl
    simp only [spec_l19Up.l0]
    rw [if_pos h0,if_pos h0,k1,if_pos (by omega),if_pos (by omega),rdCab_get cs K hK,sother_eq,Option.bind_some,k2,Option.getD_some,sup_eq hso (by omega) (costs_ok hv) k4 k (by omega),Option.bind_some,hu,ih hr k4 k _ (by rw [List.length_set];exact h1) (by omega),List.map_cons,mkB,k1]
theorem sups_eq {N : Nat} {cs : List S51} (hv : cabsB (N : Int) cs = true) (hs vs : List Int) {a : Nat} (ha : a < N) (k : Nat) (hk : 600 < k) : spec_l19Up.f k (N : Int) cs hs vs (a : Int) = some (mkB (List.replicate cs.length false) (upsL N cs a)):=by
  obtain ⟨f1,f2,f3,f4⟩:=cabsB_facts hv
  obtain ⟨w,r,q1,q2,q3,q4,q5,q6,q7,q8⟩:=way_up hv ha
  have hu : (upX cs (costsN N cs) (a : Int)).1 = upN N cs a:=rfl
  unfold spec_l19Up.f upsL
  rw [if_pos (by omega),if_pos (by rw [Int.toNat_natCast];omega),scosts_eq N cs hv k (by omega),Option.bind_some,sup_eq (sound_of hv) (by omega) (costs_ok hv) ha k (by omega),Option.bind_some,hu,Int.toNat_natCast,chL_eq q1 q2 50 (by omega)]
  exact sups_l0 hv hs vs q1 q2 ha k _ (by simp) (by omega)
theorem slist_l0 (m : List Bool) (hm : m.length ≤ 1000000) (p : Int → Bool) (hp : ∀ i : Nat,i < m.length → p (i : Int) = rdOf false m (i : Int)) (d : Nat) : ∀ (k i : Nat) (acc : List Int),i + d = m.length → acc.length + d ≤ 1000000 → d < k →
    spec_l19List.l0 k m acc (i : Int) = some (acc ++ filM p d (i : Int)):=by
  induction d with
  | zero =>
    intro k i acc h1 h2 hk
    obtain ⟨k,rfl⟩ : ∃ m,k = m + 1:=⟨k - 1,by omega⟩
    simp only [spec_l19List.l0]
    rw [if_neg (by omega),filM,List.append_nil]
  | succ d ih =>
    intro k i acc h1 h2 hk
    obtain ⟨k,rfl⟩ : ∃ m,k = m + 1:=⟨k - 1,by omega⟩
    have hi : i < m.length:=by omega
    simp only [spec_l19List.l0]
    rw [if_pos (by omega),if_pos (by omega),wrap_succ hi (by omega),filM,hp i hi]
    by_cases c : rdOf false m (i : Int) = true
    · rw [if_pos c,if_pos c,if_pos (by omega),ih k (i + 1) _ (by omega) (by simp;omega) (by omega),List.append_assoc];rfl
    · rw [if_neg c,if_neg c,ih k (i + 1) acc (by omega) (by omega) (by omega)];rfl
theorem slist_eq (m : List Bool) (hm : m.length ≤ 1000000) (p : Int → Bool) (hp : ∀ i : Nat,i < m.length → p (i : Int) = rdOf false m (i : Int)) (k : Nat) (hk : m.length < k) : spec_l19List.f k m = some (filM p m.length 0) :=
  slist_l0 m hm p hp m.length k 0 [] (by omega) (by simp;omega) hk
theorem sway_l0 (y : List Bool) (M : Nat) (hM : M ≤ 1000) (hy : y.length = M) (p : Int → Bool) (d : Nat) : ∀ (k i : Nat) (x : List Bool),i + d = M → x.length = M → (∀ j : Nat,j < i → p (j : Int) = rdOf false x (j : Int)) → (∀ j : Nat,i ≤ j → j < M → p (j : Int) = (rdOf false x (j : Int) != rdOf false y (j : Int))) → d + M + 2 < k →
    spec_TreeWay.l0 k x y (i : Int) = some (filM p M 0):=by
  induction d with
  | zero =>
    intro k i x h1 h2 h3 h4 hk
    obtain ⟨k,rfl⟩ : ∃ m,k = m + 1:=⟨k - 1,by omega⟩
    simp only [spec_TreeWay.l0]
    rw [if_neg (by omega),slist_eq x (by omega) p (fun j hj => h3 j (by omega)) k (by omega),Option.bind_some,h2]
  | succ d ih =>
    intro k i x h1 h2 h3 h4 hk
    obtain ⟨k,rfl⟩ : ∃ m,k = m + 1:=⟨k - 1,by omega⟩
    simp only [spec_TreeWay.l0]
    rw [if_pos (by omega),if_pos (by omega),if_pos (by omega),wrap_succ (show i < M by omega) (by omega)]
    have hset : ∀ j : Nat,j < M → rdOf false (x.set ((i : Int).toNat) (rdOf false x (i : Int) != rdOf false y (i : Int))) (j : Int) = if j = i then (rdOf false x (i : Int) != rdOf false y (i : Int)) else rdOf false x (j : Int):=by
      intro j hj
      rw [Int.toNat_natCast,rdB_get _ j (by rw [List.length_set];omega),rdB_get x j (by omega),List.getElem_set]
      by_cases e : i = j
      · rw [if_pos e,if_pos e.symm]
      · rw [if_neg e,if_neg (fun h => e h.symm)]
    refine ih k (i + 1) _ (by omega) (by rw [List.length_set];exact h2) (fun j hj => ?_) (fun j hj hj2 => ?_) (by omega)
    · rw [hset j (by omega)]
      by_cases e : j = i
      · rw [if_pos e,e];exact h4 i (by omega) (by omega)
      · rw [if_neg e];exact h3 j (by omega)
    · rw [hset j hj2,if_neg (by omega)];exact h4 j (by omega) hj2

-- LIB way3
theorem iindex_at (l : List Int) (x : Int) (hl : l.length ≤ 1000000) (d : Nat) : ∀ (k i : Nat),i + d = l.length → d < k → ∃ z,slices_Index_int_int.l0 k l x l.length (i : Int) = some z ∧ decide (z ≥ 0) = hasL (l.drop i) x:=by
  induction d with
  | zero =>
    intro k i h1 hk
    obtain ⟨k,rfl⟩ : ∃ m,k = m + 1:=⟨k - 1,by omega⟩
    simp only [slices_Index_int_int.l0]
    rw [if_neg (by omega),List.drop_of_length_le (by omega)]
    exact ⟨-1,rfl,rfl⟩
  | succ d ih =>
    intro k i h1 hk
    obtain ⟨k,rfl⟩ : ∃ m,k = m + 1:=⟨k - 1,by omega⟩
    have hi : i < l.length:=by omega
    simp only [slices_Index_int_int.l0]
    rw [if_pos (by omega),if_pos (by omega),if_pos (by omega),rd_get l i hi,wrap_succ hi (by omega),List.drop_eq_getElem_cons hi,hasL_cons]
    by_cases c : x = l[i]
    · rw [if_pos c,decide_eq_true c.symm,Bool.true_or]
      exact ⟨(i : Int),rfl,decide_eq_true (by omega)⟩
    · rw [if_neg c,decide_eq_false (fun h => c h.symm),Bool.false_or]
      exact ih k (i + 1) (by omega) (by omega)
theorem icontains_eq (l : List Int) (x : Int) (hl : l.length ≤ 1000000) (k : Nat) (hk : l.length < k) : slices_Contains_int_int.f k l x = some (hasL l x):=by
  obtain ⟨z,h1,h2⟩:=iindex_at l x hl l.length k 0 (by omega) hk
  unfold slices_Contains_int_int.f slices_Index_int_int.f
  rw [show (slices_Index_int_int.l0 k l x (l.length : Int) 0) = some z from h1,Option.bind_some,h2,List.drop_zero]
theorem iway_l1 (x y : List Int) (hx : x.length ≤ 100) (hy : y.length ≤ 100) (d : Nat) : ∀ (k i : Nat) (acc : List Int),i + d = y.length → acc.length + d ≤ 1000 → d + 200 < k →
    impl_TreeWay.l1 k x acc y y.length (i : Int) = (slices_Sort_int_int.f (k - d - 1) (acc ++ (y.drop i).filter (fun c => !hasL x c))).bind fun t => some t:=by
  induction d with
  | zero =>
    intro k i acc h1 h2 hk
    obtain ⟨k,rfl⟩ : ∃ m,k = m + 1:=⟨k - 1,by omega⟩
    simp only [impl_TreeWay.l1]
    rw [if_neg (by omega),List.drop_of_length_le (by omega),List.filter_nil,List.append_nil]
    rfl
  | succ d ih =>
    intro k i acc h1 h2 hk
    obtain ⟨k,rfl⟩ : ∃ m,k = m + 1:=⟨k - 1,by omega⟩
    have hi : i < y.length:=by omega
    simp only [impl_TreeWay.l1]
    rw [if_pos (by omega),if_pos (by omega),if_pos (by omega),rd_get y i hi,icontains_eq x _ (by omega) k (by omega),Option.bind_some,wrap_succ hi (by omega),List.drop_eq_getElem_cons hi,show k + 1 - (d + 1) - 1 = k - d - 1 by omega]
    cases c : hasL x y[i] with
    | true => rw [if_pos rfl,List.filter_cons_of_neg (by simp [c])];exact ih k (i + 1) acc (by omega) (by omega) (by omega)
    | false => rw [if_neg (by decide),if_pos (by omega),List.filter_cons_of_pos (by simp [c]),ih k (i + 1) _ (by omega) (by simp;omega) (by omega),List.append_assoc];rfl
theorem iway_l0 (x y : List Int) (hx : x.length ≤ 100) (hy : y.length ≤ 100) (d : Nat) : ∀ (k i : Nat) (acc : List Int),i + d = x.length → acc.length + d ≤ 1000 → d + 200 < k →
    impl_TreeWay.l0 k x y acc x x.length (i : Int) = impl_TreeWay.l1 (k - d - 1) x (acc ++ (x.drop i).filter (fun c => !hasL y c)) y y.length 0:=by
  induction d with
  | zero =>
    intro k i acc h1 h2 hk
    obtain ⟨k,rfl⟩ : ∃ m,k = m + 1:=⟨k - 1,by omega⟩
    simp only [impl_TreeWay.l0]
    rw [if_neg (by omega),List.drop_of_length_le (by omega),List.filter_nil,List.append_nil]
    rfl
  | succ d ih =>
    intro k i acc h1 h2 hk
    obtain ⟨k,rfl⟩ : ∃ m,k = m + 1:=⟨k - 1,by omega⟩
    have hi : i < x.length:=by omega
    simp only [impl_TreeWay.l0]
    rw [if_pos (by omega),if_pos (by omega),if_pos (by omega),rd_get x i hi,icontains_eq y _ (by omega) k (by omega),Option.bind_some,wrap_succ hi (by omega),List.drop_eq_getElem_cons hi,show k + 1 - (d + 1) - 1 = k - d - 1 by omega]
    cases c : hasL y x[i] with
    | true => rw [if_pos rfl,List.filter_cons_of_neg (by simp [c])];exact ih k (i + 1) acc (by omega) (by omega) (by omega)
    | false => rw [if_neg (by decide),if_pos (by omega),List.filter_cons_of_pos (by simp [c]),ih k (i + 1) _ (by omega) (by simp;omega) (by omega),List.append_assoc];rfl
theorem filM_asc (p : Int → Bool) (d : Nat) : ∀ i,(filM p d i).Pairwise (· < ·):=by
  induction d with
  | zero => exact fun _ => List.Pairwise.nil
  | succ d ih =>
    intro i
    rw [filM]
    split
    · exact List.Pairwise.cons (fun x hx => by have:=((filM_mem p d (i + 1) x).1 hx).1;omega) (ih (i + 1))
    · exact ih (i + 1)
def wayB (N : Nat) (cs : List S51) (a b : Nat) (i : Int) : Bool:=hasL (upsL N cs a) i != hasL (upsL N cs b) i
theorem map_filter_not {u : Nat → Int} {p t v : List Nat} (hu : ∀ x ∈ p ++ t,∀ y ∈ v,u x = u y → x = y) (hp : ∀ x ∈ p,x ∉ v) (ht : ∀ x ∈ t,x ∈ v) : ((p ++ t).map u).filter (fun c => !hasL (v.map u) c) = p.map u:=by
  rw [List.map_append,List.filter_append]
  have h1 : (p.map u).filter (fun c => !hasL (v.map u) c) = p.map u:=by
    rw [List.filter_eq_self]
    intro c hc
    obtain ⟨x,hx,rfl⟩:=List.mem_map.1 hc
    cases e : hasL (v.map u) (u x) with
    | false => rfl
    | true =>
      obtain ⟨y,hy,hxy⟩:=List.mem_map.1 ((hasL_iff _ _).1 e)
      have:=hu x (List.mem_append_left _ hx) y hy hxy.symm
      exact absurd (this ▸ hy) (hp x hx)
  have h2 : (t.map u).filter (fun c => !hasL (v.map u) c) = []:=by
    rw [List.filter_eq_nil_iff]
    intro c hc
    obtain ⟨x,hx,rfl⟩:=List.mem_map.1 hc
    rw [(hasL_iff _ _).2 (List.mem_map.2 ⟨x,ht x hx,rfl⟩)]
    decide
  rw [h1,h2,List.append_nil]
theorem nodup_map {u : Nat → Int} {l : List Nat} (h : l.Nodup) (hu : ∀ x ∈ l,∀ y ∈ l,u x = u y → x = y) : (l.map u).Nodup:=by
  induction l with
  | nil => exact List.Pairwise.nil
  | cons x l ih =>
    obtain ⟨h1,h2⟩:=List.nodup_cons.1 h
    rw [List.map_cons,List.nodup_cons]
    refine ⟨fun hm => ?_,ih h2 (fun y hy z hz => hu y (List.mem_cons_of_mem _ hy) z (List.mem_cons_of_mem _ hz))⟩
    obtain ⟨y,hy,e⟩:=List.mem_map.1 hm
    exact h1 ((hu x List.mem_cons_self y (List.mem_cons_of_mem _ hy) e.symm) ▸ hy)
/-- The two parts of the way between two bridges of one tree. -/
theorem way_parts {N : Nat} {cs : List S51} (hv : cabsB (N : Int) cs = true) {a b : Nat} (ha : a < N) (hb : b < N) (hr : gD (rootsL N cs) a = gD (rootsL N cs) b) : ∃ p q m,(upsL N cs a).filter (fun c => !hasL (upsL N cs b) c) = p.map (upN N cs) ∧ (upsL N cs b).filter (fun c => !hasL (upsL N cs a) c) = q.map (upN N cs) ∧
    Ch (upN N cs) (nxN N cs) a p m ∧ Ch (upN N cs) (nxN N cs) b q m ∧ p.length + q.length < N ∧ (∀ x ∈ p ++ q,x < N ∧ 0 ≤ upN N cs x ∧ gD (rootsL N cs) x = gD (rootsL N cs) a) ∧ ((p ++ q).map (upN N cs)).Nodup ∧ (∀ i,wayB N cs a b i = hasL ((p ++ q).map (upN N cs)) i):=by
  have hs:=sound_of hv
  obtain ⟨f1,f2,f3,f4⟩:=cabsB_facts hv
  obtain ⟨w,r,q1,q2,q3,q4,q5,q6,q7,q8⟩:=way_up hv ha
  obtain ⟨v,r2,g1,g2,g3,g4,g5,g6,g7,g8⟩:=way_up hv hb
  obtain rfl : r = r2:=by omega
  obtain ⟨p,q,t,m,rfl,rfl,m3,m4,m5,m6⟩:=ch_meet (upOk_of hv) hb g1 g2 q1 ha
  have eu : upsL N cs a = (p ++ t).map (upN N cs):=by unfold upsL;rw [chL_eq q1 q2 50 (by omega)]
  have ev : upsL N cs b = (q ++ t).map (upN N cs):=by unfold upsL;rw [chL_eq g1 g2 50 (by omega)]
  have h1:=map_filter_not (u:=upN N cs) (p:=p) (t:=t) (v:=q ++ t) (fun x hx y _ e => up_once2 hs x y (q7 x hx).2.1 e) m5 (fun x hx => List.mem_append_right _ hx)
  have h2:=map_filter_not (u:=upN N cs) (p:=q) (t:=t) (v:=p ++ t) (fun x hx y _ e => up_once2 hs x y (g7 x hx).2.1 e) m6 (fun x hx => List.mem_append_right _ hx)
  have hmem : ∀ x ∈ p ++ q,x < N ∧ 0 ≤ upN N cs x ∧ gD (rootsL N cs) x = gD (rootsL N cs) a ∧ x ≠ r:=by
    intro x hx
    rcases List.mem_append.1 hx with hx | hx
    · have hx2:=List.mem_append_left t hx
      have:=q7 x hx2
      exact ⟨this.1,this.2.1,by omega,fun e => q8 (e ▸ hx2)⟩
    · have hx2:=List.mem_append_left t hx
      have:=g7 x hx2
      exact ⟨this.1,this.2.1,by omega,fun e => g8 (e ▸ hx2)⟩
  have hnd : (p ++ q).Nodup:=by
    rw [List.nodup_append]
    refine ⟨(List.nodup_append.1 q5).1,(List.nodup_append.1 g5).1,fun x hx y hy e => ?_⟩
    subst e
    exact m5 x hx (List.mem_append_left _ hy)
  have hlen:=nodup_len N (r :: (p ++ q)) (List.Pairwise.cons (fun x hx e => (hmem x hx).2.2.2 e.symm) hnd) (fun x hx => by
    rcases List.mem_cons.1 hx with rfl | hx
    · exact q3
    · exact (hmem x hx).1)
  rw [List.length_cons,List.length_append] at hlen
  refine ⟨p,q,m,by rw [eu,ev];exact h1,by rw [eu,ev];exact h2,m3,m4,by omega,fun x hx => ⟨(hmem x hx).1,(hmem x hx).2.1,(hmem x hx).2.2.1⟩,nodup_map hnd (fun x hx y _ e => up_once2 hs x y (hmem x hx).2.1 e),fun i => ?_⟩
  unfold wayB
  rw [eu,ev]
  rw [Bool.eq_iff_iff,hasL_iff,bne_iff_ne]
  have key : ∀ x ∈ p ++ q,∀ y ∈ p ++ t ++ q,upN N cs x = upN N cs y → x = y:=fun x hx y _ e => up_once2 hs x y (hmem x hx).2.1 e
  constructor
  · intro hne
    by_cases c1 : i ∈ (p ++ t).map (upN N cs)
    · by_cases c2 : i ∈ (q ++ t).map (upN N cs)
      · exact absurd (by rw [(hasL_iff _ _).2 c1,(hasL_iff _ _).2 c2]) hne
      · obtain ⟨x,hx,rfl⟩:=List.mem_map.1 c1
        rcases List.mem_append.1 hx with hx | hx
        · exact List.mem_map.2 ⟨x,List.mem_append_left _ hx,rfl⟩
        · exact absurd (List.mem_map.2 ⟨x,List.mem_append_right _ hx,rfl⟩) c2
    · by_cases c2 : i ∈ (q ++ t).map (upN N cs)
      · obtain ⟨x,hx,rfl⟩:=List.mem_map.1 c2
        rcases List.mem_append.1 hx with hx | hx
        · exact List.mem_map.2 ⟨x,List.mem_append_right _ hx,rfl⟩
        · exact absurd (List.mem_map.2 ⟨x,List.mem_append_right _ hx,rfl⟩) c1
      · refine absurd ?_ hne
        have e1 : hasL ((p ++ t).map (upN N cs)) i = false:=Bool.eq_false_iff.2 (fun h => c1 ((hasL_iff _ _).1 h))
        have e2 : hasL ((q ++ t).map (upN N cs)) i = false:=Bool.eq_false_iff.2 (fun h => c2 ((hasL_iff _ _).1 h))
        rw [e1,e2]
  · intro hm
    obtain ⟨x,hx,rfl⟩:=List.mem_map.1 hm
    rcases List.mem_append.1 hx with hx | hx
    · have e1:=(hasL_iff ((p ++ t).map (upN N cs)) _).2 (List.mem_map.2 ⟨x,List.mem_append_left _ hx,rfl⟩)
      have e2 : hasL ((q ++ t).map (upN N cs)) (upN N cs x) = false:=Bool.eq_false_iff.2 (fun h => by
        obtain ⟨y,hy,e⟩:=List.mem_map.1 ((hasL_iff _ _).1 h)
        have:=up_once2 hs x y (hmem x (List.mem_append_left _ hx)).2.1 e.symm
        exact m5 x hx (this ▸ hy))
      rw [e1,e2];decide
    · have e2:=(hasL_iff ((q ++ t).map (upN N cs)) _).2 (List.mem_map.2 ⟨x,List.mem_append_left _ hx,rfl⟩)
      have e1 : hasL ((p ++ t).map (upN N cs)) (upN N cs x) = false:=Bool.eq_false_iff.2 (fun h => by
        obtain ⟨y,hy,e⟩:=List.mem_map.1 ((hasL_iff _ _).1 h)
        have:=up_once2 hs x y (hmem x (List.mem_append_right _ hx)).2.1 e.symm
        exact m6 x hx (this ▸ hy))
      rw [e1,e2];decide
/-- The cables of the tree between two stations. -/
def wayX (n : Int) (cs : List S51) (hs vs : List Int) (a b : Int) : List Int:=if netB n cs hs vs = true ∧ (0 ≤ a ∧ a < hs.length) ∧ (0 ≤ b ∧ b < hs.length) ∧ rd (rootsL n.toNat cs) (rd hs a) = rd (rootsL n.toNat cs) (rd hs b) then filM (wayB n.toNat cs (rd hs a).toNat (rd hs b).toNat) cs.length 0 else []
/-- What is told of two stations that are joined. -/
theorem way_facts {n : Int} {cs : List S51} {hs vs : List Int} {a b : Int} (h : netB n cs hs vs = true) (ha : 0 ≤ a ∧ a < hs.length) (hb : 0 ≤ b ∧ b < hs.length) : ∃ (N A B : Nat),n = (N : Int) ∧ N ≤ 8 ∧ cs.length ≤ 20 ∧ hs.length ≤ 15 ∧ cabsB (N : Int) cs = true ∧ A < N ∧ B < N ∧ rd hs a = (A : Int) ∧ rd hs b = (B : Int):=by
  obtain ⟨q1,q2,q3,q4⟩:=netB_facts h
  obtain ⟨p1,p2,p3,p4⟩:=cabsB_facts q1
  obtain ⟨N,rfl⟩ : ∃ N : Nat,n = (N : Int):=⟨n.toNat,by omega⟩
  obtain ⟨x,hx⟩:=Int.eq_ofNat_of_zero_le ha.1
  obtain ⟨y,hy⟩:=Int.eq_ofNat_of_zero_le hb.1
  have hx2 : x < hs.length:=by omega
  have hy2 : y < hs.length:=by omega
  have g1:=q4 _ (List.getElem_mem hx2)
  have g2:=q4 _ (List.getElem_mem hy2)
  exact ⟨N,(hs[x]).toNat,(hs[y]).toNat,rfl,by omega,p3,q2,q1,by omega,by omega,by rw [hx,rd_get hs x hx2];omega,by rw [hy,rd_get hs y hy2];omega⟩
theorem filM_mem0 (p : Int → Bool) (M : Nat) (x : Int) : x ∈ filM p M 0 ↔ 0 ≤ x ∧ x < M ∧ p x = true:=by
  have:=filM_mem p M 0 x
  rw [this]
  constructor
  · rintro ⟨h1,h2,h3⟩;exact ⟨h1,by omega,h3⟩
  · rintro ⟨h1,h2,h3⟩;exact ⟨h1,by omega,h3⟩
theorem way_perm {N : Nat} {cs : List S51} (hv : cabsB (N : Int) cs = true) {a b : Nat} {l : List Nat} (h1 : ∀ x ∈ l,0 ≤ upN N cs x) (h2 : (l.map (upN N cs)).Nodup) (h3 : ∀ i,wayB N cs a b i = hasL (l.map (upN N cs)) i) : (l.map (upN N cs)).Perm (filM (wayB N cs a b) cs.length 0):=by
  refine (List.perm_ext_iff_of_nodup h2 ((filM_asc _ _ _).imp (fun h e => by omega))).2 (fun i => ?_)
  rw [filM_mem0,h3,hasL_iff]
  constructor
  · intro hm
    refine ⟨?_,?_,hm⟩
    · obtain ⟨x,hx,rfl⟩:=List.mem_map.1 hm;exact h1 x hx
    · obtain ⟨x,hx,rfl⟩:=List.mem_map.1 hm;exact (upX_lt cs _ _).2
  · exact fun h => h.2.2
theorem wayX_len (n : Int) (cs : List S51) (hs vs : List Int) (a b : Int) : (wayX n cs hs vs a b).length ≤ 20:=by
  unfold wayX
  split
  · rename_i h
    obtain ⟨N,A,B,rfl,c1,c2,_⟩:=way_facts h.1 h.2.1 h.2.2.1
    exact Nat.le_trans (filM_len _ _ _) c2
  · simp
theorem iway_eq (n : Int) (cs : List S51) (hs vs : List Int) (a b : Int) (k : Nat) (hk : 1000 < k) : impl_TreeWay.f k n cs hs vs a b = some (wayX n cs hs vs a b):=by
  unfold impl_TreeWay.f wayX
  rw [istation_eq,Option.bind_some]
  obtain ⟨k,rfl⟩ : ∃ m,k = m + 1:=⟨k - 1,by omega⟩
  by_cases c1 : netB n cs hs vs = true ∧ 0 ≤ a ∧ a < hs.length
  · rw [decide_eq_true c1,if_pos rfl,istation_eq,Option.bind_some]
    simp only [impl_TreeWay.j0]
    by_cases c2 : netB n cs hs vs = true ∧ 0 ≤ b ∧ b < hs.length
    · obtain ⟨N,A,B,rfl,g1,g2,g3,g4,g5,g6,g7,g8⟩:=way_facts c1.1 c1.2 c2.2
      have hrl:=rootsL_len N cs
      have e : impl_rootsOf.f (N : Int) cs = some (rootsL N cs):=by unfold impl_rootsOf.f;rw [if_pos g4,Int.toNat_natCast]
      rw [decide_eq_true c2,if_neg (by decide),e,Option.bind_some,if_pos c1.2.1,if_pos c1.2.2,g7,if_pos (by omega),if_pos (by omega),if_pos c2.2.1,if_pos c2.2.2,g8,if_pos (by omega),if_pos (by omega),Int.toNat_natCast]
      by_cases c3 : rd (rootsL N cs) (A : Int) = rd (rootsL N cs) (B : Int)
      · have c3':=c3
        rw [rd_gD,rd_gD] at c3'
        obtain ⟨p,q,m,p1,p2,p3,p4,p5,p6,p7,p8⟩:=way_parts g4 g5 g6 c3'
        obtain ⟨w,r,q1,q2,q3,q4,q5,q6,q7,q8⟩:=way_up g4 g5
        obtain ⟨v,r2,w1,w2,w3,w4,w5,w6,w7,w8⟩:=way_up g4 g6
        have lu : (upsL N cs A).length ≤ 100:=by unfold upsL;rw [chL_eq q1 q2 50 (by omega),List.length_map];omega
        have lv : (upsL N cs B).length ≤ 100:=by unfold upsL;rw [chL_eq w1 w2 50 (by omega),List.length_map];omega
        have hx:=iway_l0 (upsL N cs A) (upsL N cs B) lu lv (upsL N cs A).length k 0 [] (by omega) (by simp;omega) (by omega)
        rw [List.drop_zero,List.nil_append,p1] at hx
        have hpl : (p.map (upN N cs)).length ≤ 8:=by rw [List.length_map];omega
        have hy:=iway_l1 (upsL N cs A) (upsL N cs B) lu lv (upsL N cs B).length (k - (upsL N cs A).length - 1) 0 (p.map (upN N cs)) (by omega) (by omega) (by omega)
        rw [List.drop_zero,p2,← List.map_append] at hy
        obtain ⟨s,s1,s2,s3⟩:=sort_ok ((p ++ q).map (upN N cs)) (by rw [List.length_map,List.length_append];omega)
        rw [if_pos c3,iups_eq g4 hs vs g5 k (by omega),Option.bind_some,iups_eq g4 hs vs g6 k (by omega),Option.bind_some,if_pos ⟨c1.1,c1.2,c2.2,c3⟩,Int.toNat_natCast,Int.toNat_natCast]
        refine hx.trans (hy.trans ?_)
        rw [s3 _ (by omega),Option.bind_some]
        congr 1
        exact sort_uniq s2 ((filM_asc _ _ _).imp (fun h => by omega)) (s1.trans (way_perm g4 (fun x hx => (p6 x hx).2.1) p7 p8))
      · rw [if_neg c3,if_neg (fun h => c3 h.2.2.2)]
    · rw [decide_eq_false c2,if_pos (by decide),if_neg (fun h => c2 ⟨h.1,h.2.2.1⟩)]
  · rw [decide_eq_false c1,if_neg (by decide)]
    simp only [impl_TreeWay.j0]
    rw [if_pos trivial,if_neg (fun h => c1 ⟨h.1,h.2.1⟩)]
theorem sway_eq (n : Int) (cs : List S51) (hs vs : List Int) (a b : Int) (hl : cs.length + hs.length + vs.length ≤ 1048576) (k : Nat) (hk : cs.length + hs.length + vs.length + 2000 < k) : spec_TreeWay.f k n cs hs vs a b = some (wayX n cs hs vs a b):=by
  obtain ⟨k,rfl⟩ : ∃ m,k = m + 1:=⟨k - 1,by omega⟩
  unfold spec_TreeWay.f wayX
  rw [snet_eq n cs hs vs (by omega) (by omega) (by omega) _ (by omega),Option.bind_some]
  cases hv : netB n cs hs vs with
  | false =>
    rw [if_neg (by decide)]
    simp only [spec_TreeWay.j0]
    rw [if_pos trivial,if_neg (fun h => by cases h.1)]
  | true =>
    rw [if_pos rfl,sstation_eq n cs hs vs a (by omega),Option.bind_some]
    by_cases c1 : 0 ≤ a ∧ a < hs.length
    · rw [decide_eq_true c1,if_pos rfl,sstation_eq n cs hs vs b (by omega),Option.bind_some]
      simp only [spec_TreeWay.j0]
      by_cases c2 : 0 ≤ b ∧ b < hs.length
      · obtain ⟨N,A,B,rfl,g1,g2,g3,g4,g5,g6,g7,g8⟩:=way_facts hv c1 c2
        rw [decide_eq_true c2,if_neg (by decide),if_pos c1.1,if_pos c1.2,g7,sroot_eq g4 g5 k (by omega),Option.bind_some,if_pos c2.1,if_pos c2.2,g8,sroot_eq g4 g6 k (by omega),Option.bind_some,rd_gD,Int.toNat_natCast,rd_gD]
        by_cases c3 : gD (rootsL N cs) A = gD (rootsL N cs) B
        · have hin : ∀ a,∀ x ∈ upsL N cs a,x ∈ upsL N cs a → 0 ≤ x ∧ x < cs.length:=by
            intro a x hx _
            unfold upsL at hx
            obtain ⟨y,hy,rfl⟩:=List.mem_map.1 hx
            refine ⟨?_,(upX_lt cs _ _).2⟩
            have : ∀ f a,∀ y ∈ chL (upN N cs) (nxN N cs) f a,0 ≤ upN N cs y:=by
              intro f
              induction f with
              | zero => intro a y hy;cases hy
              | succ f ih =>
                intro a y hy
                rw [chL] at hy
                split at hy
                · rename_i h0
                  rcases List.mem_cons.1 hy with rfl | hy
                  · exact h0
                  · exact ih _ y hy
                · cases hy
            exact this 50 a y hy
          have hmk : ∀ a (j : Nat),j < cs.length → rdOf false (mkB (List.replicate cs.length false) (upsL N cs a)) (j : Int) = hasL (upsL N cs a) (j : Int):=by
            intro a j hj
            rw [mkB_get (upsL N cs a) (List.replicate cs.length false) (fun x hx => by rw [List.length_replicate];exact hin a x hx hx) j (by rw [List.length_replicate];exact hj),rdB_get _ j (by rw [List.length_replicate];exact hj),List.getElem_replicate,Bool.false_or]
          rw [if_pos c3,sups_eq g4 hs vs g5 k (by omega),Option.bind_some,sups_eq g4 hs vs g6 k (by omega),Option.bind_some,if_pos ⟨trivial,c1,c2,c3⟩,Int.toNat_natCast]
          exact sway_l0 _ cs.length (by omega) (by rw [mkB_len,List.length_replicate]) (wayB N cs A B) cs.length k 0 _ (by omega) (by rw [mkB_len,List.length_replicate]) (fun j hj => absurd hj (by omega)) (fun j _ hj => by rw [hmk A j hj,hmk B j hj];rfl) (by omega)
        · rw [if_neg c3,if_neg (fun h => c3 h.2.2.2)]
      · rw [decide_eq_false c2,if_pos (by decide),if_neg (fun h => c2 h.2.2.1)]
    · rw [decide_eq_false c1,if_neg (by decide)]
      simp only [spec_TreeWay.j0]
      rw [if_pos trivial,if_neg (fun h => c1 h.2.1)]

-- LIB pints
/-- A copy of a list of numbers is that list. -/
theorem toIntS_at (l : List Int) (hl : l.length ≤ 1048576) (d : Nat) : ∀ (k i : Nat) (x : List Int),i + d = l.length → x.length = l.length → x.take i = l.take i → d < k → laws_toIntS.l0 k l x (i : Int) = some l:=by
  induction d with
  | zero =>
    intro k i x h1 h2 h3 hk
    obtain ⟨k,rfl⟩ : ∃ m,k = m + 1:=⟨k - 1,by omega⟩
    simp only [laws_toIntS.l0]
    rw [if_neg (by omega)]
    have e1 : x.take i = x:=List.take_of_length_le (by omega)
    have e2 : l.take i = l:=List.take_of_length_le (by omega)
    rw [← e1,h3,e2]
  | succ d ih =>
    intro k i x h1 h2 h3 hk
    obtain ⟨k,rfl⟩ : ∃ m,k = m + 1:=⟨k - 1,by omega⟩
    simp only [laws_toIntS.l0]
    rw [if_pos (by omega),if_pos (by omega),if_pos (by omega),wrap_succ (show i < l.length by omega) (by omega),rd_get l i (by omega),Int.toNat_natCast]
    refine ih k (i + 1) (x.set i l[i]) (by omega) (by rw [List.length_set];exact h2) ?_ (by omega)
    rw [List.take_add_one,List.take_add_one,List.take_set,List.getElem?_set_self (by omega),List.getElem?_eq_getElem (by omega),List.set_eq_of_length_le (by rw [List.length_take];omega),h3]
theorem toIntS_eq (l : List Int) (hl : l.length ≤ 1048576) (k : Nat) (hk : l.length < k) : laws_toIntS.f k l = some l:=by
  unfold laws_toIntS.f
  rw [if_pos (by omega),if_pos (by omega)]
  exact toIntS_at l hl l.length k 0 _ (by omega) (by simp) (by simp) hk
theorem eqIntS_at (l : List Int) (hl : l.length ≤ 9223372036854775807) (d : Nat) : ∀ (k i : Nat),i + d = l.length → d < k → laws_eqIntS.l0 k l l (i : Int) = some true:=by
  induction d with
  | zero =>
    intro k i h1 hk
    obtain ⟨k,rfl⟩ : ∃ m,k = m + 1:=⟨k - 1,by omega⟩
    simp only [laws_eqIntS.l0]
    rw [if_neg (by omega)]
  | succ d ih =>
    intro k i h1 hk
    obtain ⟨k,rfl⟩ : ∃ m,k = m + 1:=⟨k - 1,by omega⟩
    simp only [laws_eqIntS.l0]
    rw [if_pos (by omega),if_pos (by omega),if_pos (by omega),if_pos trivial,wrap_succ (show i < l.length by omega) (by omega)]
    exact ih k (i + 1) (by omega) (by omega)
theorem eqIntS_eq (l : List Int) (hl : l.length ≤ 9223372036854775807) (k : Nat) (hk : l.length < k) : laws_eqIntS.f k l l = some true:=by
  unfold laws_eqIntS.f
  rw [if_pos rfl]
  exact eqIntS_at l hl l.length k 0 (by omega) hk

-- LIB p19e
-- what the exact laws do with their arguments
theorem rdLab_get (l : List S79) (i : Nat) (h : i < l.length) : rd_T79 l (i : Int) = l[i]:=by simp [rd_T79,List.getD_eq_getElem?_getD,h]
def cvC (l : List S79) : List S51:=l.map fun x => ⟨x.f0,x.f1,x.f2⟩
theorem cvC_len (l : List S79) : (cvC l).length = l.length:=by unfold cvC;simp
theorem toCable_at (l : List S79) (hl : l.length ≤ 1048576) (d : Nat) : ∀ (k i : Nat) (x : List S51),i + d = l.length → x.length = l.length → x.take i = (cvC l).take i → d < k → laws_toCableS.l0 k l x (i : Int) = some (cvC l):=by
  have hc:=cvC_len l
  induction d with
  | zero =>
    intro k i x h1 h2 h3 hk
    obtain ⟨k,rfl⟩ : ∃ m,k = m + 1:=⟨k - 1,by omega⟩
    simp only [laws_toCableS.l0]
    rw [if_neg (by omega)]
    have e1 : x.take i = x:=List.take_of_length_le (by omega)
    have e2 : (cvC l).take i = cvC l:=List.take_of_length_le (by omega)
    rw [← e1,h3,e2]
  | succ d ih =>
    intro k i x h1 h2 h3 hk
    obtain ⟨k,rfl⟩ : ∃ m,k = m + 1:=⟨k - 1,by omega⟩
    simp only [laws_toCableS.l0,laws_toCable.f,Option.bind_some]
    rw [if_pos (by omega),if_pos (by omega),if_pos (by omega),wrap_succ (show i < l.length by omega) (by omega),rdLab_get l i (by omega),Int.toNat_natCast]
    have e : (cvC l)[i]? = some ⟨l[i].f0,l[i].f1,l[i].f2⟩:=by unfold cvC;simp [show i < l.length by omega]
    refine ih k (i + 1) _ (by omega) (by rw [List.length_set];exact h2) ?_ (by omega)
    rw [List.take_add_one,List.take_add_one,List.take_set,List.getElem?_set_self (by omega),e,List.set_eq_of_length_le (by rw [List.length_take];omega),h3]
theorem toCable_eq (l : List S79) (hl : l.length ≤ 1048576) (k : Nat) (hk : l.length < k) : laws_toCableS.f k l = some (cvC l):=by
  unfold laws_toCableS.f
  rw [if_pos (by omega),if_pos (by omega)]
  exact toCable_at l hl l.length k 0 _ (by omega) (by simp) (by simp) hk
theorem eqCable_at (l : List S51) (hl : l.length ≤ 9223372036854775807) (d : Nat) : ∀ (k i : Nat),i + d = l.length → d < k → laws_eqCableS.l0 k l l (i : Int) = some true:=by
  induction d with
  | zero =>
    intro k i h1 hk
    obtain ⟨k,rfl⟩ : ∃ m,k = m + 1:=⟨k - 1,by omega⟩
    simp only [laws_eqCableS.l0]
    rw [if_neg (by omega)]
  | succ d ih =>
    intro k i h1 hk
    obtain ⟨k,rfl⟩ : ∃ m,k = m + 1:=⟨k - 1,by omega⟩
    have e : ∀ (a b c : Int),laws_eqCable.f a b c a b c = some true:=fun a b c => by unfold laws_eqCable.f;rw [if_pos rfl,if_pos rfl,if_pos rfl]
    simp only [laws_eqCableS.l0]
    rw [if_pos (by omega),if_pos (by omega),if_pos (by omega),e,Option.bind_some,if_pos rfl,wrap_succ (show i < l.length by omega) (by omega)]
    exact ih k (i + 1) (by omega) (by omega)
theorem eqCable_eq (l : List S51) (hl : l.length ≤ 9223372036854775807) (k : Nat) (hk : l.length < k) : laws_eqCableS.f k l l = some true:=by
  unfold laws_eqCableS.f
  rw [if_pos rfl]
  exact eqCable_at l hl l.length k 0 (by omega) hk
theorem szInt_of (l : List Int) (hl : l.length ≤ maxLen) (m : Int) (h0 : 0 ≤ m) (h1 : m ≤ 1048576) : ∃ n : Int,laws_szIntS.f l m = some n ∧ (¬ n < 0 → l.length ≤ m ∧ n = m - l.length):=by
  unfold maxLen at hl
  unfold laws_szIntS.f
  rw [wrap_eq (by omega) (by omega)]
  split
  · exact ⟨_,rfl,fun h => absurd (show (-1 : Int) < 0 by decide) h⟩
  · exact ⟨_,rfl,fun h => by omega⟩
theorem szNet_eq (n : Int) (cs : List S79) (hs vs : List Int) (h1 : cs.length ≤ maxLen) (h2 : hs.length ≤ maxLen) (h3 : vs.length ≤ maxLen) : ∃ m : Int,laws_szNet.f n cs hs vs 1048576 = some m ∧ (¬ m < 0 → cs.length + hs.length + vs.length ≤ 1048576 ∧ 0 ≤ m ∧ m ≤ 1048576):=by
  have hc : ∃ m : Int,laws_szCableS.f cs 1048576 = some m ∧ (¬ m < 0 → cs.length ≤ 1048576 ∧ m = 1048576 - cs.length):=by
    unfold maxLen at h1
    unfold laws_szCableS.f
    rw [wrap_eq (by omega) (by omega)]
    split
    · exact ⟨_,rfl,fun h => absurd (show (-1 : Int) < 0 by decide) h⟩
    · exact ⟨_,rfl,fun h => by omega⟩
  obtain ⟨m1,e1,g1⟩:=hc
  unfold laws_szNet.f
  rw [e1,Option.bind_some]
  by_cases c1 : m1 < 0
  · rw [if_pos c1];exact ⟨_,rfl,fun h => absurd (show (-1 : Int) < 0 by decide) h⟩
  obtain ⟨q1,q2⟩:=g1 c1
  obtain ⟨m2,e2,g2⟩:=szInt_of hs h2 m1 (by omega) (by omega)
  rw [if_neg c1,e2,Option.bind_some]
  by_cases c2 : m2 < 0
  · rw [if_pos c2];exact ⟨_,rfl,fun h => absurd (show (-1 : Int) < 0 by decide) h⟩
  obtain ⟨q3,q4⟩:=g2 c2
  obtain ⟨m3,e3,g3⟩:=szInt_of vs h3 m2 (by omega) (by omega)
  rw [if_neg c2,e3,Option.bind_some]
  by_cases c3 : m3 < 0
  · rw [if_pos c3];exact ⟨_,rfl,fun h => absurd (show (-1 : Int) < 0 by decide) h⟩
  rw [if_neg c3]
  exact ⟨_,rfl,fun h => by have:=g3 h;omega⟩
theorem toNet_eq (n : Int) (cs : List S79) (hs vs : List Int) (h : cs.length + hs.length + vs.length ≤ 1048576) (k : Nat) (hk : cs.length + hs.length + vs.length < k) : laws_toNet.f k n cs hs vs = some (n,cvC cs,hs,vs):=by
  unfold laws_toNet.f
  rw [toCable_eq cs (by omega) k (by omega),Option.bind_some,toIntS_eq hs (by omega) k (by omega),Option.bind_some,toIntS_eq vs (by omega) k (by omega),Option.bind_some]
theorem eqNet_eq (n : Int) (cs : List S51) (hs vs : List Int) (h : cs.length + hs.length + vs.length ≤ 1048576) (k : Nat) (hk : cs.length + hs.length + vs.length < k) : laws_eqNet.f k n cs hs vs n cs hs vs = some true:=by
  unfold laws_eqNet.f
  rw [if_pos rfl,eqCable_eq cs (by omega) k (by omega),Option.bind_some,if_pos rfl,eqIntS_eq hs (by omega) k (by omega),Option.bind_some,if_pos rfl,eqIntS_eq vs (by omega) k (by omega),Option.bind_some,if_pos rfl]

-- LIB pmarkint
/-- Numbers in a row, from m on. -/
def mkI (m : Int) : Nat → List Int
  | 0 => []
  | n + 1 => m :: mkI (m + 1) n
theorem markInt_at (d : Nat) : ∀ (k i : Nat) (m : Int) (l : List Int),i + d = l.length → l.length ≤ 4611686018427387904 → d < k → 0 ≤ m → m + d ≤ 4611686018427387904 → laws_markIntS.l0 k l m i = some (m + d,l.take i ++ mkI m d):=by
  induction d with
  | zero =>
    intro k i m l h1 hl hk h2 h3
    obtain ⟨k,rfl⟩ : ∃ m,k = m + 1:=⟨k - 1,by omega⟩
    simp only [laws_markIntS.l0]
    have e : l.take i = l:=List.take_of_length_le (by omega)
    rw [if_neg (by omega),e,mkI,List.append_nil,show m + ((0 : Nat) : Int) = m by omega]
  | succ d ih =>
    intro k i m l h1 hl hk h2 h3
    obtain ⟨k,rfl⟩ : ∃ m,k = m + 1:=⟨k - 1,by omega⟩
    simp only [laws_markIntS.l0]
    have e2 : (l.set i m).take (i + 1) = l.take i ++ [m]:=by
      rw [List.take_add_one,List.take_set,List.getElem?_set_self (by omega),List.set_eq_of_length_le (by rw [List.length_take];omega)]
      rfl
    rw [if_pos (by omega),if_pos (by omega),wrap_eq (by omega) (by omega),wrap_succ (show i < l.length by omega) (by omega),Int.toNat_natCast,ih k (i + 1) (m + 1) _ (by rw [List.length_set];omega) (by rw [List.length_set];omega) (by omega) (by omega) (by omega),e2,mkI,List.append_assoc,show m + 1 + (d : Int) = m + ((d + 1 : Nat) : Int) by omega]
    rfl
theorem markInt_eq (l : List Int) (m : Int) (hl : l.length ≤ 2305843009213693952) (h0 : 0 ≤ m) (h1 : m ≤ 2305843009213693952) (k : Nat) (hk : l.length < k) : laws_markIntS.f k l m = some (m + l.length,mkI m l.length) :=
  markInt_at l.length k 0 m l (by omega) (by omega) hk h0 (by omega)
theorem mkI_len (n : Nat) : ∀ m,(mkI m n).length = n:=by
  induction n with
  | zero => exact fun _ => rfl
  | succ n ih => exact fun m => by rw [mkI,List.length_cons,ih]

-- LIB pheldint
theorem heldInt_at (d : Nat) : ∀ (k i : Nat) (m : Int) (l : List Int),i + d = l.length → l.length ≤ 4611686018427387904 → d < k → 0 ≤ m → m + d ≤ 4611686018427387904 → l.drop i = mkI m d → laws_heldIntS.l0 k l m i = some (m + d):=by
  induction d with
  | zero =>
    intro k i m l h1 hl hk h2 h3 h4
    obtain ⟨k,rfl⟩ : ∃ m,k = m + 1:=⟨k - 1,by omega⟩
    simp only [laws_heldIntS.l0]
    rw [if_neg (by omega),show m + ((0 : Nat) : Int) = m by omega]
  | succ d ih =>
    intro k i m l h1 hl hk h2 h3 h4
    obtain ⟨k,rfl⟩ : ∃ m,k = m + 1:=⟨k - 1,by omega⟩
    rw [List.drop_eq_getElem_cons (show i < l.length by omega),mkI] at h4
    obtain ⟨e1,e2⟩:=List.cons.inj h4
    simp only [laws_heldIntS.l0]
    rw [if_pos (by omega),if_pos (by omega),rd_get l i (by omega),e1,wrap_eq (by omega) (by omega),wrap_succ (show i < l.length by omega) (by omega),ih k (i + 1) (m + 1) l (by omega) hl (by omega) (by omega) (by omega) e2]
    simp
    omega
theorem heldInt_eq (n : Nat) (m : Int) (hl : n ≤ 2305843009213693952) (h0 : 0 ≤ m) (h1 : m ≤ 2305843009213693952) (k : Nat) (hk : n < k) : laws_heldIntS.f k (mkI m n) m = some (m + n):=by
  have h:=heldInt_at n k 0 m (mkI m n) (by rw [mkI_len];omega) (by rw [mkI_len];omega) hk h0 (by omega) rfl
  exact h

-- LIB p19x
theorem markCable_at (d : Nat) : ∀ (k i : Nat) (m : Int) (l : List S51),i + d = l.length → l.length ≤ 1000000000 → d < k → 0 ≤ m → m + 3 * d ≤ 4611686018427387904 → ∃ x,laws_markCableS.l0 k l m i = some (m + 3 * d,x):=by
  induction d with
  | zero =>
    intro k i m l h1 hl hk h2 h3
    obtain ⟨k,rfl⟩ : ∃ m,k = m + 1:=⟨k - 1,by omega⟩
    simp only [laws_markCableS.l0]
    rw [if_neg (by omega),show m + 3 * ((0 : Nat) : Int) = m by omega]
    exact ⟨_,rfl⟩
  | succ d ih =>
    intro k i m l h1 hl hk h2 h3
    obtain ⟨k,rfl⟩ : ∃ m,k = m + 1:=⟨k - 1,by omega⟩
    simp only [laws_markCableS.l0,Option.bind_some]
    rw [if_pos (by omega),if_pos (by omega),wrap_eq (x:=m + 1) (by omega) (by omega),wrap_eq (x:=m + 1 + 1) (by omega) (by omega),wrap_eq (x:=m + 1 + 1 + 1) (by omega) (by omega),wrap_succ (show i < l.length by omega) (by omega),show m + 3 * ((d + 1 : Nat) : Int) = m + 1 + 1 + 1 + 3 * (d : Int) by omega]
    exact ih k (i + 1) (m + 1 + 1 + 1) _ (by simp only [List.length_set];omega) (by simp only [List.length_set];omega) (by omega) (by omega) (by omega)
theorem markNet_eq (n : Int) (cs : List S51) (hs vs : List Int) (hl : cs.length + hs.length + vs.length ≤ 1048576) (k : Nat) (hk : cs.length + hs.length + vs.length < k) : ∃ m x y z,0 ≤ m ∧ laws_markNet.f k n cs hs vs 1 = some (m,x,y,z):=by
  obtain ⟨x,hx⟩:=markCable_at cs.length k 0 1 cs (by omega) (by omega) (by omega) (by omega) (by omega)
  have hx' : laws_markCableS.f k cs 1 = some (1 + 3 * (cs.length : Int),x):=hx
  refine ⟨1 + 3 * (cs.length : Int) + hs.length + vs.length,x,mkI (1 + 3 * (cs.length : Int)) hs.length,mkI (1 + 3 * (cs.length : Int) + hs.length) vs.length,by omega,?_⟩
  unfold laws_markNet.f
  rw [hx',Option.bind_some]
  simp only []
  rw [markInt_eq hs _ (by omega) (by omega) (by omega) k (by omega),Option.bind_some]
  simp only []
  rw [markInt_eq vs _ (by omega) (by omega) (by omega) k (by omega),Option.bind_some]

end Go.Proofs.Ytdamdcdjodmemaa.PAll
