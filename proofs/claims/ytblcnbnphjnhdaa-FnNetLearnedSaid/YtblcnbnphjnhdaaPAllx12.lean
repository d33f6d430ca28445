/- Proved here: contracts of functions of the given program, or lemmas on them, for the laws of this seat. Written by xprint.py, a program of this session, on the ground of the kit's print; parts by hand: wip/x/ext. -/
import Derived.Test.YtblcnbnphjnhdaaPAllx0
import Derived.Test.YtblcnbnphjnhdaaPAllx1
import Derived.Test.YtblcnbnphjnhdaaPAllx2
import Derived.Test.YtblcnbnphjnhdaaPAllx5
import Derived.Test.YtblcnbnphjnhdaaPAllx6
import Derived.Test.YtblcnbnphjnhdaaPAllx7
import Derived.Test.YtblcnbnphjnhdaaPAllx9
import Derived.Test.YtblcnbnphjnhdaaPAllx10
namespace Go.Proofs.Ytblcnbnphjnhdaa.PAll
open Go.RowKit Go.Proofs.YtblcnbnphjnhdaaW.PrintWords Go.Proofs.YtblcnbnphjnhdaaW.PrintLast Go.Proofs.YtblcnbnphjnhdaaW.PrintMore
attribute [local go_sem] max2_int min2_int max_two min_two max_three min_three max_four min_four   -- for this text's walks alone
set_option linter.unusedVariables false
set_option linter.unusedSimpArgs false

-- LIB way3
theorem filM_mem0 (p : Int → Bool) (M : Nat) (x : Int) : x ∈ filM p M 0 ↔ 0 ≤ x ∧ x < M ∧ p x = true:=by
 have:=filM_mem p M 0 x
 rw [this]
 constructor
 ·rintro ⟨h1,h2,h3⟩;exact ⟨h1,by omega,h3⟩
 ·rintro ⟨h1,h2,h3⟩;exact ⟨h1,by omega,h3⟩

-- LIB treeup
theorem treeX_up {N : Nat} {cs : List S83} (hv : cabsB (N : Int) cs = true) {x : Nat} (hx : x < N) (h0 : 0 ≤ upN N cs x) : upN N cs x ∈ treeX (N : Int) cs:=by
 unfold treeX
 rw [if_pos hv,Int.toNat_natCast]
 have hp:=tree_perm (upN N cs) N cs.length (fun x _ => (upX_lt cs _ _).2)
 refine hp.mem_iff.1 ?_
 have : ∀ (d b : Nat),b ≤ x → x < b + d → upN N cs x ∈ uL (upN N cs) d b:=by
  intro d
  induction d with
  | zero => intro b h1 h2;omega
  | succ d ih =>
   intro b h1 h2
   rw [uL]
   by_cases e : b = x
   ·subst e;rw [if_pos h0];exact List.mem_cons_self
   ·split
    ·exact List.mem_cons_of_mem _ (ih (b + 1) (by omega) (by omega))
    ·exact ih (b + 1) (by omega) (by omega)
 exact this N 0 (by omega) (by omega)

-- LIB nettree
section
variable {N : Nat} {cs : List S83}
def wL (N : Nat) (cs : List S83) (a : Nat) : List Nat:=chL (upN N cs) (nxN N cs) 50 a
theorem ups_wL (a : Nat) : upsL N cs a = (wL N cs a).map (upN N cs):=rfl
theorem wL_ch (hv : cabsB (N : Int) cs = true) {a : Nat} (ha : a < N) : ∃ r,Ch (upN N cs) (nxN N cs) a (wL N cs a) r ∧ upN N cs r < 0 ∧ r < N ∧ gD (rootsL N cs) a = (r : Int) ∧ (wL N cs a).Nodup ∧ (wL N cs a).length < N ∧ (∀ x ∈ wL N cs a,x < N ∧ 0 ≤ upN N cs x ∧ gD (rootsL N cs) x = (r : Int)):=by
 obtain ⟨w,r,h1,h2,h3,h4,h5,h6,h7,h8⟩:=way_up hv ha
 have hN:=(cabsB_facts hv).2.1
 have e : wL N cs a = w:=chL_eq h1 h2 50 (by omega)
 rw [e]
 exact ⟨r,h1,h2,h3,h4,h5,h6,h7⟩
theorem wL_root {a : Nat} (h : upN N cs a < 0) : wL N cs a = []:=by
 unfold wL
 rw [chL,if_neg (by omega)]
theorem wL_step (hv : cabsB (N : Int) cs = true) {a : Nat} (ha : a < N) (h : 0 ≤ upN N cs a) : wL N cs a = a :: wL N cs (nxN N cs a):=by
 obtain ⟨r,h1,h2,_⟩:=wL_ch hv ha
 have hn:=((upOk_of hv).up a ha h).1
 obtain ⟨r2,g1,g2,_⟩:=wL_ch hv hn
 exact (ch_det h1 (Ch.cons h g1) h2 g2).1
theorem up_inj (hv : cabsB (N : Int) cs = true) {a b : Nat} (h : 0 ≤ upN N cs a) (e : upN N cs a = upN N cs b) : a = b:=up_once2 (sound_of hv) a b h e
theorem mem_ups (hv : cabsB (N : Int) cs = true) {a x : Nat} (hx : 0 ≤ upN N cs x) : upN N cs x ∈ upsL N cs a ↔ x ∈ wL N cs a:=by
 rw [ups_wL,List.mem_map]
 constructor
 ·rintro ⟨y,hy,e⟩
  exact (up_inj hv hx e.symm) ▸ hy
 ·exact fun h => ⟨x,h,rfl⟩
theorem roots_nx (hv : cabsB (N : Int) cs = true) {a : Nat} (ha : a < N) (h : 0 ≤ upN N cs a) : gD (rootsL N cs) (nxN N cs a) = gD (rootsL N cs) a:=by
 obtain ⟨r,h1,h2,_,h4,_⟩:=wL_ch hv ha
 have hn:=((upOk_of hv).up a ha h).1
 obtain ⟨r2,g1,g2,_,g4,_⟩:=wL_ch hv hn
 have e:=(ch_det h1 (Ch.cons h g1) h2 g2).2
 rw [h4,g4,e]
def TJ (N : Nat) (cs : List S83) (k : Int) (b o : Nat) : Prop:=∃ x,x < N ∧ 0 ≤ upN N cs x ∧ upN N cs x = k ∧ ((b = x ∧ o = nxN N cs x) ∨ (b = nxN N cs x ∧ o = x))
theorem TJ.lt (hv : cabsB (N : Int) cs = true) {k : Int} {b o : Nat} (h : TJ N cs k b o) : b < N ∧ o < N:=by
 obtain ⟨x,hx,h0,_,h⟩:=h
 have:=((upOk_of hv).up x hx h0).1
 rcases h with ⟨rfl,rfl⟩ | ⟨rfl,rfl⟩ <;> exact ⟨by assumption,by assumption⟩
theorem TJ.symm {k : Int} {b o : Nat} (h : TJ N cs k b o) : TJ N cs k o b:=by
 obtain ⟨x,hx,h0,h1,h⟩:=h
 exact ⟨x,hx,h0,h1,h.elim (fun h => Or.inr ⟨h.2,h.1⟩) (fun h => Or.inl ⟨h.2,h.1⟩)⟩
theorem TJ.root (hv : cabsB (N : Int) cs = true) {k : Int} {b o : Nat} (h : TJ N cs k b o) : gD (rootsL N cs) b = gD (rootsL N cs) o:=by
 obtain ⟨x,hx,h0,_,h⟩:=h
 have:=roots_nx hv hx h0
 rcases h with ⟨rfl,rfl⟩ | ⟨rfl,rfl⟩
 ·exact this.symm
 ·exact this
theorem TJ.cross (hv : cabsB (N : Int) cs = true) {k : Int} {b o : Nat} (h : TJ N cs k b o) : (∀ j,j ≠ k → (j ∈ upsL N cs b ↔ j ∈ upsL N cs o)) ∧ (k ∈ upsL N cs b ↔ ¬ k ∈ upsL N cs o):=by
 obtain ⟨x,hx,h0,rfl,h⟩:=h
 have hs:=wL_step hv hx h0
 have hn : x ∉ wL N cs (nxN N cs x):=by
  obtain ⟨r,_,_,_,_,hnd,_⟩:=wL_ch hv hx
  rw [hs] at hnd
  exact (List.nodup_cons.1 hnd).1
 have h1 : upN N cs x ∈ upsL N cs x:=(mem_ups hv h0).2 (by rw [hs];exact List.mem_cons_self)
 have h2 : upN N cs x ∉ upsL N cs (nxN N cs x):=fun h => hn ((mem_ups hv h0).1 h)
 have h3 : ∀ j,j ≠ upN N cs x → (j ∈ upsL N cs x ↔ j ∈ upsL N cs (nxN N cs x)):=fun j hj => by
  rw [ups_wL,ups_wL,hs,List.map_cons,List.mem_cons]
  exact ⟨fun h => h.resolve_left hj,Or.inr⟩
 rcases h with ⟨rfl,rfl⟩ | ⟨rfl,rfl⟩
 ·exact ⟨h3,⟨fun _ => h2,fun _ => h1⟩⟩
 ·exact ⟨fun j hj => (h3 j hj).symm,⟨fun h => absurd h h2,fun h => absurd h1 h⟩⟩
theorem ch_up {u : Nat → Int} {nx : Nat → Nat} {t r : Nat} {w : List Nat} (h : Ch u nx t w r) {x : Nat} (hx : x ∈ w) (h0 : 0 ≤ u (nx x)) (hr : u r < 0) : nx x ∈ w:=by
 induction h with
 | nil _ => cases hx
 | @cons t w r h1 hc ih =>
  rcases List.mem_cons.1 hx with rfl | hx
  ·cases hc with
   | nil _ => omega
   | cons _ _ => exact List.mem_cons_of_mem _ List.mem_cons_self
  ·exact List.mem_cons_of_mem _ (ih hx hr)
theorem ch_child {N : Nat} {u : Nat → Int} {nx : Nat → Nat} {c : Nat → Int} (H : UpOk N u nx c) {t r : Nat} {w : List Nat} (h : Ch u nx t w r) : t < N → ∀ x ∈ w,∀ y ∈ w,nx x = nx y → x = y:=by
 induction h with
 | nil _ => exact fun _ x hx => by cases hx
 | @cons t w r h1 hc ih =>
  intro ht x hx y hy e
  obtain ⟨h2,h3⟩:=H.up t ht h1
  obtain ⟨_,_,h4,_⟩:=ch_facts H hc h2
  rcases List.mem_cons.1 hx with e1 | hx2
  ·subst e1
   rcases List.mem_cons.1 hy with e2 | hy2
   ·exact e2.symm
   ·have h5:=h4 y hy2
    have h6:=(H.up y h5.1 h5.2.1).2
    rw [← e] at h6
    omega
  ·rcases List.mem_cons.1 hy with e2 | hy2
   ·subst e2
    have h5:=h4 x hx2
    have h6:=(H.up x h5.1 h5.2.1).2
    rw [e] at h6
    omega
   ·exact ih h2 x hx2 y hy2 e
theorem ch_pred {u : Nat → Int} {nx : Nat → Nat} {t r : Nat} {w : List Nat} (h : Ch u nx t w r) {b : Nat} (hb : b ∈ w ∨ b = r) (hne : b ≠ t) : ∃ x ∈ w,nx x = b:=by
 induction h with
 | nil _ =>
  rcases hb with hb | hb
  ·cases hb
  ·exact absurd hb hne
 | @cons t w r h1 hc ih =>
  by_cases e : b = nx t
  ·exact ⟨t,List.mem_cons_self,e.symm⟩
  ·obtain ⟨x,hx,hxe⟩:=ih (hb.imp (fun h => (List.mem_cons.1 h).resolve_left hne) id) e
   exact ⟨x,List.mem_cons_of_mem _ hx,hxe⟩
def Sep (N : Nat) (cs : List S83) (k : Int) (a b : Nat) : Prop:=¬ (k ∈ upsL N cs a ↔ k ∈ upsL N cs b)
theorem sep_one (hv : cabsB (N : Int) cs = true) {k k2 : Int} {b o o2 t : Nat} (ht : t < N) (h : TJ N cs k b o) (h2 : TJ N cs k2 b o2) (s : Sep N cs k b t) (s2 : Sep N cs k2 b t) : k = k2:=by
  have main : ∀ {k k2 : Int} {x y : Nat},x < N → 0 ≤ upN N cs x → upN N cs x = k → b = x → y < N → 0 ≤ upN N cs y → upN N cs y = k2 → b = nxN N cs y → Sep N cs k b t → Sep N cs k2 b t → False:=by
    intro k k2 x y hx hx0 hxk hbx hy hy0 hyk hby s s2
    subst hbx
    subst hxk
    subst hyk
    have hb1 : upN N cs b ∈ upsL N cs b:=(mem_ups hv hx0).2 (by rw [wL_step hv hx hx0];exact List.mem_cons_self)
    have hb2 : upN N cs b ∉ upsL N cs t:=fun h => s ⟨fun _ => h,fun _ => hb1⟩
    have hy1 : upN N cs y ∉ upsL N cs b:=by
      have hc:=(TJ.cross hv (⟨y,hy,hy0,rfl,Or.inr ⟨rfl,rfl⟩⟩ : TJ N cs (upN N cs y) (nxN N cs y) y)).2
      rw [← hby] at hc
      exact fun h => hc.1 h ((mem_ups hv hy0).2 (by rw [wL_step hv hy hy0];exact List.mem_cons_self))
    have hy2 : upN N cs y ∈ upsL N cs t:=Classical.byContradiction (fun h => s2 ⟨fun h3 => absurd h3 hy1,fun h3 => absurd h3 h⟩)
    obtain ⟨r,hc,hr,_⟩:=wL_ch hv ht
    have:=ch_up hc ((mem_ups hv hy0).1 hy2) (by rw [← hby];exact hx0) hr
    rw [← hby] at this
    exact hb2 ((mem_ups hv hx0).2 this)
  obtain ⟨x,hx,hx0,hxk,hx1⟩:=h
  obtain ⟨y,hy,hy0,hyk,hy1⟩:=h2
  rcases hx1 with ⟨e1,_⟩ | ⟨e1,_⟩ <;> rcases hy1 with ⟨e2,_⟩ | ⟨e2,_⟩
  · rw [← hxk,← hyk,← e1,← e2]
  · exact (main hx hx0 hxk e1 hy hy0 hyk e2 s s2).elim
  · exact (main hy hy0 hyk e2 hx hx0 hxk e1 s2 s).elim
  · have low : ∀ {k : Int} {x : Nat}, x < N → 0 ≤ upN N cs x → upN N cs x = k → b = nxN N cs x → Sep N cs k b t → x ∈ wL N cs t := by
      intro k x hx hx0 hxk hbx s
      subst hxk
      have hc:=(TJ.cross hv (⟨x,hx,hx0,rfl,Or.inr ⟨rfl,rfl⟩⟩ : TJ N cs (upN N cs x) (nxN N cs x) x)).2
      rw [← hbx] at hc
      have h1 : upN N cs x ∉ upsL N cs b:=fun h => hc.1 h ((mem_ups hv hx0).2 (by rw [wL_step hv hx hx0];exact List.mem_cons_self))
      exact (mem_ups hv hx0).1 (Classical.byContradiction (fun h => s ⟨fun h3 => absurd h3 h1,fun h3 => absurd h3 h⟩))
    obtain ⟨r,hc,hr,_⟩:=wL_ch hv ht
    have:=ch_child (upOk_of hv) hc ht x (low hx hx0 hxk e1 s) y (low hy hy0 hyk e2 s2) (by rw [← e1,← e2])
    rw [← hxk,← hyk,this]
theorem sep_some (hv : cabsB (N : Int) cs = true) {b t : Nat} (hb : b < N) (ht : t < N) (hr : gD (rootsL N cs) b = gD (rootsL N cs) t) (hne : b ≠ t) : ∃ k o,TJ N cs k b o ∧ Sep N cs k b t:=by
 obtain ⟨r,hc,h2,h3,h4,_,_,h7⟩:=wL_ch hv ht
 have child : (b ∈ wL N cs t ∨ b = r) → ∃ k o,TJ N cs k b o ∧ Sep N cs k b t:=fun h => by
  obtain ⟨x,hx,e⟩:=ch_pred hc h hne
  have hx1:=h7 x hx
  have hj : TJ N cs (upN N cs x) b x:=⟨x,hx1.1,hx1.2.1,rfl,Or.inr ⟨e.symm,rfl⟩⟩
  refine ⟨_,x,hj,fun hi => ?_⟩
  have h1:=(mem_ups hv hx1.2.1).2 hx
  exact (hj.cross hv).2.1 (hi.2 h1) ((mem_ups hv hx1.2.1).2 (by rw [wL_step hv hx1.1 hx1.2.1];exact List.mem_cons_self))
 by_cases h0 : 0 ≤ upN N cs b
 ·by_cases hm : b ∈ wL N cs t
  ·exact child (Or.inl hm)
  ·refine ⟨_,nxN N cs b,⟨b,hb,h0,rfl,Or.inl ⟨rfl,rfl⟩⟩,fun hi => hm ((mem_ups hv h0).1 (hi.1 ((mem_ups hv h0).2 ?_)))⟩
   rw [wL_step hv hb h0]
   exact List.mem_cons_self
 ·obtain ⟨r2,hc2,g2,g3,g4,_⟩:=wL_ch hv hb
  rw [wL_root (by omega)] at hc2
  have e : b = r:=by
   cases hc2
   rw [hr,h4] at g4
   omega
  exact child (Or.inr e)
end

-- LIB netlaw
theorem mem_uL {u : Nat → Int} (d : Nat) : ∀ b x,x ∈ uL u d b → ∃ y,b ≤ y ∧ y < b + d ∧ 0 ≤ u y ∧ u y = x:=by
 induction d with
 | zero => intro b x h;cases h
 | succ d ih =>
  intro b x h
  rw [uL] at h
  split at h
  ·rename_i h0
   rcases List.mem_cons.1 h with e | h
   ·exact ⟨b,Nat.le_refl _,by omega,h0,e.symm⟩
   ·obtain ⟨y,h1,h2,h3⟩:=ih (b + 1) x h
    exact ⟨y,by omega,by omega,h3⟩
  ·obtain ⟨y,h1,h2,h3⟩:=ih (b + 1) x h
   exact ⟨y,by omega,by omega,h3⟩
theorem uL_nodup {u : Nat → Int} (hi : ∀ x y,0 ≤ u x → u x = u y → x = y) (d : Nat) : ∀ b,(uL u d b).Nodup:=by
 induction d with
 | zero => exact fun _ => List.Pairwise.nil
 | succ d ih =>
  intro b
  rw [uL]
  split
  ·rename_i h0
   refine List.nodup_cons.2 ⟨fun h => ?_,ih _⟩
   obtain ⟨y,h1,_,_,h3⟩:=mem_uL d _ _ h
   have:=hi b y h0 h3.symm
   omega
  ·exact ih _
section
variable {N : Nat} {cs : List S83}
theorem tree_mem (hv : cabsB (N : Int) cs = true) {k : Int} (h : k ∈ treeX (N : Int) cs) : ∃ x,x < N ∧ 0 ≤ upN N cs x ∧ upN N cs x = k:=by
 unfold treeX at h
 rw [if_pos hv,Int.toNat_natCast] at h
 obtain ⟨y,_,h2,h3,h4⟩:=mem_uL N 0 k ((tree_perm (upN N cs) N cs.length (fun x _ => (upX_lt cs _ _).2)).mem_iff.2 h)
 exact ⟨y,by omega,h3,h4⟩
theorem tree_nodup (hv : cabsB (N : Int) cs = true) : (treeX (N : Int) cs).Nodup:=by
 unfold treeX
 rw [if_pos hv,Int.toNat_natCast]
 exact (tree_perm (upN N cs) N cs.length (fun x _ => (upX_lt cs _ _).2)).nodup_iff.1 (uL_nodup (fun x y h e => up_inj hv h e) N 0)
theorem tj_tree (hv : cabsB (N : Int) cs = true) {k : Int} {b o : Nat} (h : TJ N cs k b o) : k ∈ treeX (N : Int) cs:=by
 obtain ⟨x,hx,h0,rfl,_⟩:=h
 exact treeX_up hv hx h0
theorem tj_pos {k : Int} {b o : Nat} (h : TJ N cs k b o) : 0 ≤ k ∧ k < cs.length:=by
 obtain ⟨x,hx,h0,rfl,_⟩:=h
 exact ⟨h0,(upX_lt cs _ _).2⟩
theorem oth_tj (hv : cabsB (N : Int) cs = true) {k : Int} (hk : k ∈ treeX (N : Int) cs) (b : Nat) : (∃ o : Nat,othX (rd_T83 cs k) (b : Int) = some (o : Int) ∧ TJ N cs k b o) ∨ (othX (rd_T83 cs k) (b : Int) = none ∧ ∀ o : Nat,¬ TJ N cs k b o):=by
 obtain ⟨x,hx,h0,rfl⟩:=tree_mem hv hk
 obtain ⟨K,hK,k1,k2,_,k4,k5,_⟩:=up_hit (sound_of hv) x h0
 have hrd : rd_T83 cs (upN N cs x) = cs[K]:=by rw [k1];exact rdCab_get cs K hK
 rw [hrd]
 by_cases e1 : b = x
 ·subst e1
  exact Or.inl ⟨nxN N cs b,k2,b,hx,h0,rfl,Or.inl ⟨rfl,rfl⟩⟩
 ·by_cases e2 : b = nxN N cs x
  ·subst e2
   refine Or.inl ⟨x,?_,x,hx,h0,rfl,Or.inr ⟨rfl,rfl⟩⟩
   rcases oth_ends k2 with ⟨y1,y2⟩ | ⟨y1,y2⟩
   ·unfold othX
    rw [if_neg (by omega),if_pos y2,← y1]
   ·unfold othX
    rw [if_pos y2,← y1]
  ·refine Or.inr ⟨?_,fun o h => ?_⟩
   ·unfold othX
    rcases oth_ends k2 with ⟨y1,y2⟩ | ⟨y1,y2⟩
    ·rw [if_neg (by omega),if_neg (by omega)]
    ·rw [if_neg (by omega),if_neg (by omega)]
   ·obtain ⟨y,hy,hy0,hye,h⟩:=h
    obtain rfl:=up_inj hv hy0 hye
    rcases h with ⟨h,_⟩ | ⟨h,_⟩
    ·exact e1 h
    ·exact e2 h
theorem tj_oth (hv : cabsB (N : Int) cs = true) {k : Int} {b o : Nat} (h : TJ N cs k b o) : othX (rd_T83 cs k) (b : Int) = some (o : Int):=by
 rcases oth_tj hv (tj_tree hv h) b with ⟨o2,h1,h2⟩ | ⟨_,h2⟩
 ·obtain ⟨x,hx,h0,rfl,h⟩:=h
  obtain ⟨y,hy,hy0,hye,h2⟩:=h2
  obtain rfl:=up_inj hv hy0 hye
  have hne : nxN N cs y ≠ y:=by
   obtain ⟨_,_,_,_,_,_,k5,_⟩:=up_hit (sound_of hv) y h0
   exact k5
  rw [h1]
  rcases h with ⟨e1,e2⟩ | ⟨e1,e2⟩ <;> rcases h2 with ⟨e3,e4⟩ | ⟨e3,e4⟩
  ·rw [e4,e2]
  ·omega
  ·omega
  ·rw [e4,e2]
 ·exact absurd h (h2 o)
theorem sep_neg (k : Int) (hk : k < 0) (hv : cabsB (N : Int) cs = true) {a b : Nat} (ha : a < N) (hb : b < N) : ¬ Sep N cs k a b:=by
 have no : ∀ {c : Nat},c < N → k ∉ upsL N cs c:=by
  intro c hc h
  rw [ups_wL] at h
  obtain ⟨x,hx,e⟩:=List.mem_map.1 h
  obtain ⟨r,_,_,_,_,_,_,h7⟩:=wL_ch hv hc
  have:=(h7 x hx).2.1
  omega
 exact fun h => h ⟨fun h1 => absurd h1 (no ha),fun h1 => absurd h1 (no hb)⟩
theorem sep_self (k : Int) (a : Nat) : ¬ Sep N cs k a a:=fun h => h Iff.rfl
theorem sep_symm {k : Int} {a b : Nat} (h : Sep N cs k a b) : Sep N cs k b a:=fun e => h e.symm
theorem sep_flip (hv : cabsB (N : Int) cs = true) {k : Int} {b o : Nat} (h : TJ N cs k b o) (t : Nat) : Sep N cs k b t ↔ ¬ Sep N cs k o t:=by
 have:=(h.cross hv).2
 unfold Sep
 by_cases h1 : k ∈ upsL N cs b <;> by_cases h2 : k ∈ upsL N cs o <;> by_cases h3 : k ∈ upsL N cs t <;> simp_all
theorem sep_keep (hv : cabsB (N : Int) cs = true) {k j : Int} {b o : Nat} (h : TJ N cs k b o) (hj : j ≠ k) (t : Nat) : Sep N cs j b t ↔ Sep N cs j o t:=by
 have:=(h.cross hv).1 j hj
 unfold Sep
 rw [this]
theorem sep_tri {k : Int} {a b c : Nat} (h : Sep N cs k a b) : Sep N cs k a c ↔ ¬ Sep N cs k c b:=by
 unfold Sep at *
 by_cases h1 : k ∈ upsL N cs a <;> by_cases h2 : k ∈ upsL N cs b <;> by_cases h3 : k ∈ upsL N cs c <;> simp_all
theorem wL_tj (hv : cabsB (N : Int) cs = true) {k : Int} {b o : Nat} (h : TJ N cs k b o) : (k = upN N cs b ∧ 0 ≤ k ∧ (wL N cs b).length = (wL N cs o).length + 1 ∧ ¬ (k = upN N cs o)) ∨ (k = upN N cs o ∧ 0 ≤ k ∧ (wL N cs o).length = (wL N cs b).length + 1 ∧ ¬ (k = upN N cs b)):=by
 have hlt:=h.lt hv
 obtain ⟨x,hx,h0,rfl,h⟩:=h
 have hs:=wL_step hv hx h0
 have hl : (wL N cs x).length = (wL N cs (nxN N cs x)).length + 1:=by rw [hs];rfl
 have hne : ¬ (upN N cs x = upN N cs (nxN N cs x)):=fun e => by
  have:=up_inj hv h0 e
  rw [← this] at hl
  omega
 rcases h with ⟨rfl,rfl⟩ | ⟨rfl,rfl⟩
 ·exact Or.inl ⟨rfl,h0,hl,hne⟩
 ·exact Or.inr ⟨rfl,h0,hl,hne⟩
theorem wL_len (hv : cabsB (N : Int) cs = true) {b : Nat} (hb : b < N) : (wL N cs b).length ≤ 7:=by
 obtain ⟨r,_,_,_,_,_,h6,_⟩:=wL_ch hv hb
 have:=(cabsB_facts hv).2.1
 omega
end
def muN (N : Nat) (cs : List S83) (b : Nat) (y : Int) : Nat:=if y = upN N cs b ∧ 0 ≤ y then 8 - (wL N cs b).length else (wL N cs b).length + 9
def wtN (N : Nat) (cs : List S83) (b : Nat) (y : Int) : Nat:=if y = upN N cs b ∧ 0 ≤ y then 9 ^ (8 - (wL N cs b).length) else 43046721 * ((wL N cs b).length + 1)
theorem mu_lt {N : Nat} {cs : List S83} (hv : cabsB (N : Int) cs = true) {k y : Int} {b o : Nat} (h : TJ N cs k b o) (hne : k ≠ y) : muN N cs o k < muN N cs b y:=by
 have hlt:=h.lt hv
 have l1:=wL_len hv hlt.1
 have l2:=wL_len hv hlt.2
 unfold muN
 rcases wL_tj hv h with ⟨h1,h2,h3,h4⟩ | ⟨h1,h2,h3,h4⟩
 ·rw [if_neg (fun e => h4 e.1),if_neg (fun e => hne (h1.trans e.1.symm))]
  omega
 ·rw [if_pos ⟨h1,h2⟩]
  split <;> omega
def wuN (N : Nat) (cs : List S83) (b : Nat) (y : Int) (l : List Int) : Nat:=if upN N cs b ∈ l ∧ 0 ≤ upN N cs b ∧ upN N cs b ≠ y then 43046721 * (wL N cs b).length else 0
def wlN (N : Nat) (cs : List S83) (b : Nat) (y : Int) (l : List Int) : Nat:=wuN N cs b y l + l.length * 9 ^ (7 - (wL N cs b).length)
theorem wu_mono {N : Nat} {cs : List S83} {k y : Int} {b : Nat} {l : List Int} : wuN N cs b y l ≤ wuN N cs b y (k :: l):=by
 unfold wuN
 split
 ·rename_i h5
  rw [if_pos ⟨List.mem_cons_of_mem _ h5.1,h5.2⟩]
  exact Nat.le_refl _
 ·exact Nat.zero_le _
theorem wl_cons {N : Nat} {cs : List S83} (hv : cabsB (N : Int) cs = true) {k y : Int} {b o : Nat} (h : TJ N cs k b o) (hne : k ≠ y) {l : List Int} (hnd : (k :: l).Nodup) : wtN N cs o k + wlN N cs b y l ≤ wlN N cs b y (k :: l):=by
 have hlt:=h.lt hv
 have hkl:=(List.nodup_cons.1 hnd).1
 have l1:=wL_len hv hlt.1
 have l2:=wL_len hv hlt.2
 unfold wtN wlN
 rw [List.length_cons,Nat.add_mul l.length 1,Nat.one_mul]
 rcases wL_tj hv h with ⟨h1,h2,h3,h4⟩ | ⟨h1,h2,h3,h4⟩
 ·have e1 : wuN N cs b y l = 0:=by unfold wuN;rw [if_neg (fun e => hkl (h1 ▸ e.1))]
  have e2 : wuN N cs b y (k :: l) = 43046721 * (wL N cs b).length:=by unfold wuN;rw [if_pos ⟨by rw [← h1];exact List.mem_cons_self,by omega,by rw [← h1];exact hne⟩]
  rw [if_neg (fun e => h4 e.1),e1,e2,← h3]
  generalize 9 ^ (7 - (wL N cs b).length) = q
  generalize l.length * q = lq
  omega
 ·have e8 : 8 - (wL N cs o).length = 7 - (wL N cs b).length:=by omega
  rw [if_pos ⟨h1,h2⟩,e8]
  have:=wu_mono (N:=N) (cs:=cs) (k:=k) (y:=y) (b:=b) (l:=l)
  generalize 9 ^ (7 - (wL N cs b).length) = q
  generalize l.length * q = lq
  omega
theorem wl_skip {N : Nat} {cs : List S83} {k y : Int} {b : Nat} {l : List Int} : wlN N cs b y l ≤ wlN N cs b y (k :: l):=by
 unfold wlN
 rw [List.length_cons,Nat.add_mul l.length 1,Nat.one_mul]
 have:=wu_mono (N:=N) (cs:=cs) (k:=k) (y:=y) (b:=b) (l:=l)
 generalize 9 ^ (7 - (wL N cs b).length) = q
 generalize l.length * q = lq
 omega
theorem wl_all {N : Nat} {cs : List S83} (hv : cabsB (N : Int) cs = true) {b : Nat} (hb : b < N) (y : Int) {l : List Int} (hl : l.length ≤ 8) : wlN N cs b y l + 1 ≤ wtN N cs b y:=by
 have l1:=wL_len hv hb
 unfold wlN wtN
 have hp : 1 ≤ 9 ^ (7 - (wL N cs b).length):=Nat.one_le_pow _ _ (by omega)
 have hm : l.length * 9 ^ (7 - (wL N cs b).length) ≤ 8 * 9 ^ (7 - (wL N cs b).length):=Nat.mul_le_mul_right _ hl
 by_cases h : y = upN N cs b ∧ 0 ≤ y
 ·have e0 : wuN N cs b y l = 0:=by unfold wuN;rw [if_neg (fun e => e.2.2 h.1.symm)]
  have e : 9 ^ (8 - (wL N cs b).length) = 9 * 9 ^ (7 - (wL N cs b).length):=by rw [show 8 - (wL N cs b).length = (7 - (wL N cs b).length) + 1 from by omega,Nat.pow_succ,Nat.mul_comm]
  rw [if_pos h,e0,e]
  generalize 9 ^ (7 - (wL N cs b).length) = q at *
  omega
 ·have h7 : 9 ^ (7 - (wL N cs b).length) ≤ 9 ^ 7:=Nat.pow_le_pow_right (by omega) (by omega)
  have e7 : (9 : Nat) ^ 7 = 4782969:=by decide
  have h0 : wuN N cs b y l ≤ 43046721 * (wL N cs b).length:=by unfold wuN;split <;> omega
  rw [e7] at h7
  rw [if_neg h]
  generalize 9 ^ (7 - (wL N cs b).length) = q at *
  omega
theorem wt_max {N : Nat} {cs : List S83} (hv : cabsB (N : Int) cs = true) {b : Nat} (hb : b < N) (y : Int) : wtN N cs b y ≤ 400000000:=by
 have l1:=wL_len hv hb
 unfold wtN
 split
 ·have h1 : 9 ^ (8 - (wL N cs b).length) ≤ 9 ^ 8:=Nat.pow_le_pow_right (by omega) (by omega)
  have h2 : (9 : Nat) ^ 8 = 43046721:=by decide
  rw [h2] at h1
  omega
 ·omega

-- LIB netlaw2
def hmN (hs : List Int) (s : Nat) : Nat:=(rd hs s).toNat
theorem takeN_mem (fr rc i : Int) (l : List Int) (s : Int) : s ∈ takeN fr rc i l ↔ s ∈ l ∨ (s = i ∧ i ≠ fr ∧ (rc = i ∨ rc = 15)):=by
 unfold takeN
 split
 ·rename_i h
  rw [List.mem_append,List.mem_singleton]
  exact ⟨fun h1 => h1.imp id (fun e => ⟨e,h.1,h.2⟩),fun h1 => h1.imp id (fun e => e.1)⟩
 ·rename_i h
  exact ⟨Or.inl,fun h1 => h1.elim id (fun e => absurd ⟨e.2.1,e.2.2⟩ h)⟩
theorem takeN_len (fr rc i : Int) (l : List Int) : (takeN fr rc i l).length ≤ l.length + 1:=by unfold takeN;split <;> simp
theorem stN_mem (hs vs : List Int) (b v fr rc : Int) (d : Nat) : ∀ (i : Nat) (l : List Int),(∀ s,s ∈ stN hs vs b v fr rc d (i : Int) l ↔ s ∈ l ∨ ∃ S : Nat,i ≤ S ∧ S < i + d ∧ s = (S : Int) ∧ rd hs S = b ∧ rd vs S = v ∧ (S : Int) ≠ fr ∧ (rc = S ∨ rc = 15)) ∧ (stN hs vs b v fr rc d (i : Int) l).length ≤ l.length + d:=by
 induction d with
 | zero => exact fun i l => ⟨fun s => ⟨Or.inl,fun h => h.elim id (fun ⟨S,h1,h2,_⟩ => by omega)⟩,Nat.le_refl _⟩
 | succ d ih =>
  intro i l
  have hl : (if rd hs (i : Int) = b ∧ rd vs (i : Int) = v then takeN fr rc i l else l).length ≤ l.length + 1:=by
   split
   ·exact takeN_len _ _ _ _
   ·omega
  obtain ⟨h1,h2⟩:=ih (i + 1) (if rd hs (i : Int) = b ∧ rd vs (i : Int) = v then takeN fr rc i l else l)
  rw [stN,show (i : Int) + 1 = ((i + 1 : Nat) : Int) from by omega]
  refine ⟨fun s => (h1 s).trans ⟨fun h => ?_,fun h => ?_⟩,by omega⟩
  ·rcases h with h | ⟨S,a1,a2,a3⟩
   ·split at h
    ·rename_i hc
     rcases (takeN_mem _ _ _ _ _).1 h with h | ⟨e,e2,e3⟩
     ·exact Or.inl h
     ·exact Or.inr ⟨i,Nat.le_refl _,by omega,e,hc.1,hc.2,e2,e3⟩
    ·exact Or.inl h
   ·exact Or.inr ⟨S,by omega,by omega,a3⟩
  ·rcases h with h | ⟨S,a1,a2,a3,a4,a5,a6,a7⟩
   ·refine Or.inl ?_
    split
    ·exact (takeN_mem _ _ _ _ _).2 (Or.inl h)
    ·exact h
   ·by_cases e : S = i
    ·subst e
     refine Or.inl ?_
     rw [if_pos ⟨a4,a5⟩]
     exact (takeN_mem _ _ _ _ _).2 (Or.inr ⟨a3,a6,a7⟩)
    ·exact Or.inr ⟨S,by omega,by omega,a3,a4,a5,a6,a7⟩
structure NV (N : Nat) (cs : List S83) (hs vs : List Int) (F : Nat) (v rc : Int) : Prop where
 hn : netB (N : Int) cs hs vs = true
 hF : F < hs.length
 hv : rd vs F = v
 hr : (0 ≤ rc ∧ rc < hs.length) ∨ rc = 15
def InvT (N : Nat) (cs : List S83) (hs vs : List Int) (T : TabN) : Prop :=
 ∀ b v s x,T b v s = some x → ∃ B S : Nat,b = (B : Int) ∧ s = (S : Int) ∧ B < N ∧ S < hs.length ∧ v = rd vs S ∧ gD (rootsL N cs) B = gD (rootsL N cs) (hmN hs S) ∧ ((x = -1 ∧ B = hmN hs S) ∨ ∃ o,TJ N cs x B o ∧ Sep N cs x B (hmN hs S))
def AtB (N : Nat) (cs : List S83) (h0 b : Nat) (y : Int) : Prop:=gD (rootsL N cs) b = gD (rootsL N cs) h0 ∧ ((y = -1 ∧ b = h0) ∨ ∃ o,TJ N cs y b o ∧ Sep N cs y b h0)
def szN (st : RN) (w : Nat) : Prop:=st.over.length + w < 1000000000000 ∧ st.took.length + 15 * w < 1000000000000 ∧ st.n + w < 1000000000000
structure Base (N : Nat) (cs : List S83) (hs vs : List Int) (F : Nat) (v rc : Int) (w b : Nat) (st st' : RN) : Prop where
 lo : st'.over.length ≤ st.over.length + w
 lt : st'.took.length ≤ st.took.length + 15 * w
 ln : st'.n ≤ st.n + w
 inv : InvT N cs hs vs st'.T
 old : ∀ x y s,st.T x y s ≠ none → st'.T x y s ≠ none
 oth : ∀ x y s,¬ (y = v ∧ s = (F : Int)) → st'.T x y s = st.T x y s
 ov0 : ∀ j ∈ st.over,j ∈ st'.over
 ov1 : ∀ j ∈ st'.over,j ∈ st.over ∨ ∃ e o,TJ N cs j e o ∧ gD (rootsL N cs) e = gD (rootsL N cs) b
 tk0 : ∀ s ∈ st.took,s ∈ st'.took
 tk1 : ∀ s ∈ st'.took,s ∈ st.took ∨ ∃ S : Nat,s = (S : Int) ∧ S < hs.length ∧ S ≠ F ∧ (rc = S ∨ rc = 15) ∧ rd vs S = v ∧ gD (rootsL N cs) (hmN hs S) = gD (rootsL N cs) b
section
variable {N : Nat} {cs : List S83} {hs vs : List Int} {F : Nat} {v rc : Int}
theorem Base.refl {b : Nat} {st : RN} (h : InvT N cs hs vs st.T) : Base N cs hs vs F v rc 0 b st st:=⟨by omega,by omega,by omega,h,fun _ _ _ h => h,fun _ _ _ _ => rfl,fun _ h => h,fun _ h => Or.inl h,fun _ h => h,fun _ h => Or.inl h⟩
theorem Base.trans {w w2 b : Nat} {st st1 st2 : RN} (h : Base N cs hs vs F v rc w b st st1) (g : Base N cs hs vs F v rc w2 b st1 st2) : Base N cs hs vs F v rc (w + w2) b st st2 :=
 ⟨by have:=h.lo;have:=g.lo;omega,by have:=h.lt;have:=g.lt;omega,by have:=h.ln;have:=g.ln;omega,g.inv,fun x y s hx => g.old x y s (h.old x y s hx),fun x y s hx => (g.oth x y s hx).trans (h.oth x y s hx),fun j hj => g.ov0 j (h.ov0 j hj),
  fun j hj => (g.ov1 j hj).elim (fun h1 => h.ov1 j h1) Or.inr,fun j hj => g.tk0 j (h.tk0 j hj),fun j hj => (g.tk1 j hj).elim (fun h1 => h.tk1 j h1) Or.inr⟩
theorem Base.wide {w w2 b : Nat} {st st1 : RN} (h : Base N cs hs vs F v rc w b st st1) (hw : w ≤ w2) : Base N cs hs vs F v rc w2 b st st1 :=
 ⟨by have:=h.lo;omega,by have:=h.lt;omega,by have:=h.ln;omega,h.inv,h.old,h.oth,h.ov0,h.ov1,h.tk0,h.tk1⟩
def Tgt (hs vs : List Int) (v rc : Int) (t : Nat) : Prop:=rc = 15 ∨ ∃ R : Nat,rc = (R : Int) ∧ R < hs.length ∧ rd vs R = v ∧ t = hmN hs R
def OnP (N : Nat) (cs : List S83) (b c t : Nat) : Prop:=∀ j,¬ (Sep N cs j b c ∧ Sep N cs j c t)
def Concl (N : Nat) (cs : List S83) (hs vs : List Int) (F : Nat) (v rc : Int) (b t : Nat) (st' : RN) : Prop :=
 (∀ S : Nat,S < hs.length → hmN hs S = t → rd vs S = v → S ≠ F → (rc = S ∨ rc = 15) → (S : Int) ∈ st'.took) ∧ (∀ j,Sep N cs j b t → j ∈ st'.over) ∧ ∀ c,c < N → gD (rootsL N cs) c = gD (rootsL N cs) b → c ≠ b → OnP N cs b c t → st'.T c v F ≠ none
theorem Concl.grow {w b b2 t : Nat} {st st2 : RN} (h : Concl N cs hs vs F v rc b t st) (g : Base N cs hs vs F v rc w b2 st st2) : Concl N cs hs vs F v rc b t st2 :=
 ⟨fun S a1 a2 a3 a4 a5 => g.tk0 _ (h.1 S a1 a2 a3 a4 a5),fun j hj => g.ov0 j (h.2.1 j hj),fun c a1 a2 a3 a4 => g.old _ _ _ (h.2.2 c a1 a2 a3 a4)⟩
def Narrow (N : Nat) (cs : List S83) (hs vs : List Int) (F : Nat) (v rc : Int) (b : Nat) (P : Nat → Prop) (st st' : RN) : Prop :=
 ∀ R : Nat,rc = (R : Int) → R < hs.length → R ≠ F → rd vs R = v → gD (rootsL N cs) (hmN hs R) = gD (rootsL N cs) b → P (hmN hs R) → (∀ c,c < N → gD (rootsL N cs) c = gD (rootsL N cs) b → OnP N cs b c (hmN hs R) → st.T c v R ≠ none) → ∀ j ∈ st'.over,j ∈ st.over ∨ Sep N cs j b (hmN hs R)
def ComeOK (N : Nat) (cs : List S83) (hs vs : List Int) (F : Nat) (v rc : Int) (f : Nat) : Prop :=
 ∀ (b : Nat) (y : Int) (st : RN),b < N → InvT N cs hs vs st.T → AtB N cs (hmN hs F) b y → muN N cs b y ≤ f → szN st (wtN N cs b y) →
  ∃ st',comeN cs (treeX (N : Int) cs) hs vs v F rc f b y st = some st' ∧ Base N cs hs vs F v rc (wtN N cs b y) b st st' ∧ st'.over.length + 1 ≤ st.over.length + wtN N cs b y ∧ st'.T b v F ≠ none ∧
   (∀ t,t < N → gD (rootsL N cs) t = gD (rootsL N cs) b → ¬ Sep N cs y b t → Tgt hs vs v rc t → Concl N cs hs vs F v rc b t st') ∧ Narrow N cs hs vs F v rc b (fun t => ¬ Sep N cs y b t) st st'
theorem hop_one (hv : cabsB (N : Int) cs = true) {k : Int} {b o t c : Nat} (hk : TJ N cs k b o) (ht : t < N) (hs : Sep N cs k b t) (hc : c < N) (hr : gD (rootsL N cs) c = gD (rootsL N cs) b) (hne : c ≠ b) (hp : OnP N cs b c t) : Sep N cs k b c ∧ OnP N cs o c t:=by
 obtain ⟨k2,o2,h1,h2⟩:=sep_some hv (hk.lt hv).1 hc hr.symm (fun e => hne e.symm)
 have h3 : ¬ Sep N cs k2 c t:=fun h => hp k2 ⟨h2,h⟩
 have h4 : Sep N cs k2 b t:=by
  by_cases h : Sep N cs k2 b t
  ·exact h
  ·have:=sep_tri (c:=t) h2
   exact (h (this.2 (fun h5 => h3 (sep_symm h5)))).elim
 obtain rfl:=sep_one hv ht hk h1 hs h4
 refine ⟨h2,fun j ⟨h5,h6⟩ => ?_⟩
 by_cases e : j = k
 ·subst e
  exact (sep_flip hv hk c).1 h2 h5
 ·exact hp j ⟨(sep_keep hv hk e c).2 h5,h6⟩
theorem onp_out (hv : cabsB (N : Int) cs = true) {k : Int} {b o t c : Nat} (hk : TJ N cs k b o) (hs : Sep N cs k b t) (hp : OnP N cs o c t) : OnP N cs b c t:=by
 rintro j ⟨h1,h2⟩
 by_cases e : j = k
 ·subst e
  exact (sep_tri (c:=c) hs).1 h1 h2
 ·exact hp j ⟨(sep_keep hv hk e c).1 h1,h2⟩
end

-- LIB netlaw3
section
variable {N : Nat} {cs : List S83} {hs vs : List Int} {F : Nat} {v rc : Int}
theorem NV.cab (h : NV N cs hs vs F v rc) : cabsB (N : Int) cs = true:=(netB_facts h.hn).1
theorem NV.home (h : NV N cs hs vs F v rc) {S : Nat} (hS : S < hs.length) : rd hs S = (hmN hs S : Int) ∧ hmN hs S < N:=by
 have:=(netB_more h.hn).2.2.2.1 S hS
 unfold hmN
 exact ⟨by omega,by omega⟩
def szF (st : RN) (w : Nat) : Prop:=st.over.length + w + 1 < 1000000000000 ∧ st.took.length + 15 * w < 1000000000000 ∧ st.n + w < 1000000000000
theorem send_ok (nv : NV N cs hs vs F v rc) {f : Nat} (ih : ComeOK N cs hs vs F v rc f) {k y : Int} {b o : Nat} (hk : TJ N cs k b o) (hne : k ≠ y) (hat : AtB N cs (hmN hs F) b y) (hmu : muN N cs b y ≤ f + 1) {st : RN} (hI : InvT N cs hs vs st.T) (hsz : szF st (wtN N cs o k)) :
  ∃ st',sendN cs (comeN cs (treeX (N : Int) cs) hs vs v F rc f) b k st = some st' ∧ Base N cs hs vs F v rc (wtN N cs o k) b st st' ∧ (∀ t,t < N → gD (rootsL N cs) t = gD (rootsL N cs) b → Sep N cs k b t → Tgt hs vs v rc t → Concl N cs hs vs F v rc b t st') ∧ Narrow N cs hs vs F v rc b (fun t => Sep N cs k b t) st st':=by
 have hv:=nv.cab
 obtain ⟨hbl,hol⟩:=hk.lt hv
 have hhF:=(nv.home nv.hF).2
 have hro:=hk.root hv
 have hat2 : AtB N cs (hmN hs F) o k:=by
  refine ⟨hro.symm.trans hat.1,Or.inr ⟨b,hk.symm,Classical.byContradiction (fun h => ?_)⟩⟩
  have h1:=(sep_flip hv hk (hmN hs F)).2 h
  rcases hat.2 with ⟨_,e⟩ | ⟨o2,h2,h3⟩
  ·rw [e] at h1
   exact sep_self _ _ h1
  ·exact hne (sep_one hv hhF hk h2 h1 h3)
 have hmu2 : muN N cs o k ≤ f:=by
  have:=mu_lt hv hk hne
  omega
 unfold sendN
 rw [if_pos (by have:=hsz.1;omega),tj_oth hv hk]
 have hwt : 1 ≤ wtN N cs o k:=by
  have:=wl_all hv hol k (l:=[]) (by simp)
  omega
 -- the length behind the cable
 have hcm:=ih o k { st with over:=st.over ++ [k] } hol hI hat2 hmu2
 have hl0 : (st.over ++ [k]).length = st.over.length + 1:=by simp
 have hs2 : szN { st with over:=st.over ++ [k] } (wtN N cs o k):=⟨by show (st.over ++ [k]).length + _ < _;have:=hsz.1;omega,by have:=hsz.2.1;show st.took.length + _ < _;omega,by have:=hsz.2.2;show st.n + _ < _;omega⟩
 obtain ⟨st',h1,h2,h3,h4,h5,h6⟩:=hcm hs2
 ·skip
  have hl : (st.over ++ [k]).length = st.over.length + 1:=by simp
  refine ⟨st',h1,⟨?_,h2.lt,h2.ln,h2.inv,h2.old,h2.oth,fun j hj => h2.ov0 j (List.mem_append_left _ hj),fun j hj => ?_,h2.tk0,fun s hs' => (h2.tk1 s hs').imp id (fun ⟨S,a1,a2,a3,a4,a5,a6⟩ => ⟨S,a1,a2,a3,a4,a5,a6.trans hro.symm⟩)⟩,?_,?_⟩
  ·have : st'.over.length + 1 ≤ (st.over ++ [k]).length + wtN N cs o k:=h3
   omega
  ·rcases h2.ov1 j hj with h | ⟨e,o2,a1,a2⟩
   ·rcases List.mem_append.1 h with h | h
    ·exact Or.inl h
    ·rw [List.mem_singleton.1 h]
     exact Or.inr ⟨b,o,hk,rfl⟩
   ·exact Or.inr ⟨e,o2,a1,a2.trans hro.symm⟩
  ·intro t ht hr hs3 htg
   obtain ⟨c1,c2,c3⟩:=h5 t ht (hr.trans hro) ((sep_flip hv hk t).1 hs3) htg
   refine ⟨c1,fun j hj => ?_,fun c hc hrc hcb hp => ?_⟩
   ·by_cases e : j = k
    ·subst e
     exact h2.ov0 _ (List.mem_append_right _ List.mem_cons_self)
    ·exact c2 j ((sep_keep hv hk e t).1 hj)
   ·obtain ⟨g1,g2⟩:=hop_one hv hk ht hs3 hc hrc hcb hp
    by_cases e : c = o
    ·rw [e];exact h4
    ·exact c3 c hc (hrc.trans hro) e g2
  ·intro R hR hRl hRF hRv hRr hs3 hkn j hj
   rcases h6 R hR hRl hRF hRv (hRr.trans hro) ((sep_flip hv hk _).1 hs3) (fun c hc hrc hp => hkn c hc (hrc.trans hro.symm) (onp_out hv hk hs3 hp)) j hj with h | h
   ·rcases List.mem_append.1 h with h | h
    ·exact Or.inl h
    ·rw [List.mem_singleton.1 h]
     exact Or.inr hs3
   ·by_cases e : j = k
    ·rw [e];exact Or.inr hs3
    ·exact Or.inr ((sep_keep hv hk e _).2 h)
theorem flood_ok (nv : NV N cs hs vs F v rc) {f : Nat} (ih : ComeOK N cs hs vs F v rc f) {y : Int} {b : Nat} (hb : b < N) (hat : AtB N cs (hmN hs F) b y) (hmu : muN N cs b y ≤ f + 1) (l : List Int) :
  (∀ k ∈ l,k ∈ treeX (N : Int) cs) → l.Nodup → ∀ st : RN,InvT N cs hs vs st.T → szF st (wlN N cs b y l) →
  ∃ st',floodN cs (comeN cs (treeX (N : Int) cs) hs vs v F rc f) b y l st = some st' ∧ Base N cs hs vs F v rc (wlN N cs b y l) b st st' ∧ (∀ k ∈ l,∀ o,TJ N cs k b o → k ≠ y → ∀ t,t < N → gD (rootsL N cs) t = gD (rootsL N cs) b → Sep N cs k b t → Tgt hs vs v rc t → Concl N cs hs vs F v rc b t st'):=by
 have hv:=nv.cab
 induction l with
 | nil =>
  intro _ _ st hI _
  exact ⟨st,rfl,(Base.refl hI).wide (Nat.zero_le _),fun k hk => by cases hk⟩
 | cons k l ihl =>
  intro htr hnd st hI hsz
  have hnd2:=(List.nodup_cons.1 hnd).2
  have htr2 : ∀ k ∈ l,k ∈ treeX (N : Int) cs:=fun j hj => htr j (List.mem_cons_of_mem _ hj)
  rw [floodN]
  rcases oth_tj hv (htr k List.mem_cons_self) b with ⟨o,h1,h2⟩ | ⟨h1,h2⟩
  ·rw [h1]
   by_cases hky : k = y
   ·rw [if_neg (fun h => h.2 hky)]
    have hw:=wl_skip (N:=N) (cs:=cs) (k:=k) (y:=y) (b:=b) (l:=l)
    obtain ⟨st',g1,g2,g3⟩:=ihl htr2 hnd2 st hI ⟨by have:=hsz.1;omega,by have:=hsz.2.1;omega,by have:=hsz.2.2;omega⟩
    refine ⟨st',g1,g2.wide hw,fun j hj o2 hj2 hjy => ?_⟩
    rcases List.mem_cons.1 hj with e | hj
    ·exact absurd (e.trans hky) hjy
    ·exact g3 j hj o2 hj2 hjy
   ·rw [if_pos ⟨rfl,hky⟩]
    have hw:=wl_cons hv h2 hky hnd
    obtain ⟨st1,s1,s2,s3,_⟩:=send_ok nv ih h2 hky hat hmu hI ⟨by have:=hsz.1;omega,by have:=hsz.2.1;omega,by have:=hsz.2.2;omega⟩
    have l1:=s2.lo
    have l2:=s2.lt
    have l3:=s2.ln
    obtain ⟨st',g1,g2,g3⟩:=ihl htr2 hnd2 st1 s2.inv ⟨by have:=hsz.1;omega,by have:=hsz.2.1;omega,by have:=hsz.2.2;omega⟩
    rw [s1,Option.bind_some]
    refine ⟨st',g1,(s2.trans g2).wide hw,fun j hj o2 hj2 hjy t ht hr hs3 htg => ?_⟩
    rcases List.mem_cons.1 hj with e | hj
    ·subst e
     exact (s3 t ht hr hs3 htg).grow g2
    ·exact g3 j hj o2 hj2 hjy t ht hr hs3 htg
  ·rw [h1,if_neg (fun h => by cases h.1)]
   have hw:=wl_skip (N:=N) (cs:=cs) (k:=k) (y:=y) (b:=b) (l:=l)
   obtain ⟨st',g1,g2,g3⟩:=ihl htr2 hnd2 st hI ⟨by have:=hsz.1;omega,by have:=hsz.2.1;omega,by have:=hsz.2.2;omega⟩
   refine ⟨st',g1,g2.wide hw,fun j hj o2 hj2 hjy => ?_⟩
   rcases List.mem_cons.1 hj with e | hj
   ·rw [e] at hj2
    exact absurd hj2 (h2 o2)
   ·exact g3 j hj o2 hj2 hjy
theorem inv_put (nv : NV N cs hs vs F v rc) {T : TabN} (hI : InvT N cs hs vs T) {b : Nat} (hb : b < N) {y : Int} (hat : AtB N cs (hmN hs F) b y) : InvT N cs hs vs (putN T b v F y):=by
 intro b2 v2 s2 x h
 unfold putN at h
 by_cases hc : b2 = (b : Int) ∧ v2 = v ∧ s2 = (F : Int)
 ·rw [if_pos hc] at h
  obtain rfl:=Option.some.inj h
  exact ⟨b,F,hc.1,hc.2.2,hb,nv.hF,by rw [hc.2.1,nv.hv],hat.1,hat.2⟩
 ·rw [if_neg hc] at h
  exact hI b2 v2 s2 x h
theorem come_ok (nv : NV N cs hs vs F v rc) (f : Nat) : ComeOK N cs hs vs F v rc f:=by
  have hv:=nv.cab
  induction f with
  | zero =>
    intro b y st hb _ _ hmu
    have:=wL_len hv hb
    unfold muN at hmu
    split at hmu <;> omega
  | succ f ih =>
    intro b y st hb hI hat hmu hsz
    have hN8:=(cabsB_facts hv).2.1
    have hlh:=(netB_more nv.hn).2.1
    have hwm:=wt_max hv hb y
    have hI1:=inv_put nv hI hb hat
    have hw1:=wl_all hv hb y (treeX_len (N : Int) cs)
    have hT1F : putN st.T b v F y b v F = some y:=by unfold putN;rw [if_pos ⟨rfl,rfl,rfl⟩]
    have hold : ∀ x z s,st.T x z s ≠ none → putN st.T b v F y x z s ≠ none:=fun x z s h => by
      unfold putN
      split
      · exact fun h => by cases h
      · exact h
    have hoth : ∀ x z s,¬ (z = v ∧ s = (F : Int)) → putN st.T b v F y x z s = st.T x z s:=fun x z s h => by
      unfold putN
      rw [if_neg (fun h2 => h h2.2)]
    -- the store alone
    have hB0 : ∀ l : List Int,(∀ s,s ∈ l ↔ s ∈ st.took ∨ ∃ S : Nat,s = (S : Int) ∧ S < hs.length ∧ S ≠ F ∧ (rc = S ∨ rc = 15) ∧ rd vs S = v ∧ hmN hs S = b) → l.length ≤ st.took.length + 15 → Base N cs hs vs F v rc 1 b st { T:=putN st.T b v F y,took:=l,over:=st.over,n:=st.n + 1 }:=fun l hl hll =>
      ⟨by show st.over.length ≤ st.over.length + 1;omega,by show l.length ≤ _;omega,Nat.le_refl _,hI1,hold,hoth,fun _ h => h,fun _ h => Or.inl h,fun s h => (hl s).2 (Or.inl h),fun s h => ((hl s).1 h).imp id (fun ⟨S,a1,a2,a3,a4,a5,a6⟩ => ⟨S,a1,a2,a3,a4,a5,by rw [a6]⟩)⟩
    have self : ∀ st' : RN,st'.T = putN st.T b v F y → (∀ S : Nat,S < hs.length → hmN hs S = b → rd vs S = v → S ≠ F → (rc = S ∨ rc = 15) → (S : Int) ∈ st'.took) → Concl N cs hs vs F v rc b b st':=fun st' hT h => ⟨h,fun j hj => absurd hj (sep_self j b),fun c hc hr hne hp => by
      obtain ⟨k,o,h1,h2⟩:=sep_some hv hb hc hr.symm (fun e => hne e.symm)
      exact absurd ⟨h2,sep_symm h2⟩ (hp k)⟩
    rw [comeN,if_pos ⟨by have:=hsz.2.2;omega,by have:=hsz.2.1;omega,by omega,by omega⟩]
    cases hm : (if rc = 15 then none else putN st.T b v F y b v rc) with
    | some x =>
      have h15 : rc ≠ 15:=fun h => by rw [if_pos h] at hm;cases hm
      rw [if_neg h15] at hm
      obtain ⟨B,R,e1,e2,hB,hR,hvR,hrt,hx⟩:=hI1 _ _ _ _ hm
      obtain rfl : b = B:=by omega
      subst e2
      have hrR : ∀ t,Tgt hs vs v R t → t = hmN hs R:=fun t ht => by
        rcases ht with h | ⟨R2,h1,_,_,h4⟩
        · exact absurd h h15
        · have : R2 = R:=by omega
          rw [h4,this]
      simp only []
      by_cases hx1 : x = -1
      · have hbR : b = hmN hs R := by
          rcases hx with h | ⟨o,h,_⟩
          · exact h.2
          · have:=(tj_pos h).1
            omega
        rw [if_pos hx1]
        have hl : ∀ s,s ∈ takeN F R R st.took ↔ s ∈ st.took ∨ ∃ S : Nat,s = (S : Int) ∧ S < hs.length ∧ S ≠ F ∧ ((R : Int) = S ∨ (R : Int) = 15) ∧ rd vs S = v ∧ hmN hs S = b:=fun s => by
          rw [takeN_mem]
          refine or_congr Iff.rfl ⟨fun ⟨a1,a2,a3⟩ => ⟨R,a1,hR,by omega,Or.inl rfl,hvR.symm,hbR.symm⟩,fun ⟨S,a1,a2,a3,a4,a5,a6⟩ => ?_⟩
          have : S = R:=by
            rcases a4 with h | h
            · omega
            · exact absurd h h15
          subst this
          exact ⟨a1,by omega,Or.inl rfl⟩
        have hbase:=hB0 _ hl (by have:=takeN_len F R R st.took;omega)
        refine ⟨_,rfl,hbase.wide (by omega),by show st.over.length + 1 ≤ _;omega,(by show putN st.T b v F y b v F ≠ none;rw [hT1F];exact fun h => nomatch h),fun t ht hr hs3 htg => ?_,fun R2 _ _ _ _ _ _ _ j hj => Or.inl hj⟩
        rw [hrR t htg,← hbR]
        exact self _ rfl (fun S a1 a2 a3 a4 a5 => (hl S).2 (Or.inr ⟨S,rfl,a1,a4,a5,a3,a2⟩))
      · rw [if_neg hx1]
        obtain ⟨o,hk,hsx⟩ : ∃ o,TJ N cs x b o ∧ Sep N cs x b (hmN hs R):=by
          rcases hx with h | h
          · exact absurd h.1 hx1
          · exact h
        by_cases hxy : x = y
        · rw [if_pos hxy]
          have hbase:=hB0 st.took (fun s => ⟨Or.inl,fun h => h.elim id (fun ⟨S,a1,a2,a3,a4,a5,a6⟩ => by
            have : S = R:=by
              rcases a4 with h | h
              · omega
              · exact absurd h h15
            rw [this] at a6
            rw [a6] at hsx
            exact absurd hsx (sep_self _ _))⟩) (by omega)
          refine ⟨_,rfl,hbase.wide (by omega),by show st.over.length + 1 ≤ _;omega,(by show putN st.T b v F y b v F ≠ none;rw [hT1F];exact fun h => nomatch h),fun t ht hr hs3 htg => ?_,fun R2 _ _ _ _ _ _ _ j hj => Or.inl hj⟩
          rw [hrR t htg,← hxy] at hs3
          exact absurd hsx hs3
        · rw [if_neg hxy,if_pos (tj_pos hk)]
          have hw:=wl_cons hv hk hxy (l:=[]) (by simp)
          have hw2:=wl_all hv hb y (l:=[x]) (by simp)
          obtain ⟨st',s1,s2,s3,s4⟩:=send_ok nv ih hk hxy hat hmu (st:={ T:=putN st.T b v F y,took:=st.took,over:=st.over,n:=st.n + 1 }) hI1 ⟨by have:=hsz.1;show st.over.length + _ + 1 < _;omega,by have:=hsz.2.1;show st.took.length + _ < _;omega,by have:=hsz.2.2;show st.n + 1 + _ < _;omega⟩
          have hbase : Base N cs hs vs F v R 1 b st { T:=putN st.T b v F y,took:=st.took,over:=st.over,n:=st.n + 1 } :=
            ⟨by show st.over.length ≤ _;omega,by show st.took.length ≤ _;omega,Nat.le_refl _,hI1,hold,hoth,fun _ h => h,fun _ h => Or.inl h,fun _ h => h,fun _ h => Or.inl h⟩
          have lo:=s2.lo
          refine ⟨st',s1,(hbase.trans s2).wide (by omega),by have h : st'.over.length ≤ st.over.length + wtN N cs o x:=lo;omega,s2.old _ _ _ ((by show putN st.T b v F y b v F ≠ none;rw [hT1F];exact fun h => nomatch h)),fun t ht hr hs3 htg => ?_,fun R2 hR2 hR2l hR2F hR2v hR2r hs3 hkn j hj => ?_⟩
          · refine s3 t ht hr ?_ htg
            rw [hrR t htg]
            exact hsx
          · have e : R2 = R:=by omega
            subst e
            refine s4 R2 rfl hR2l hR2F hR2v hR2r hsx (fun c hc hrc hp => ?_) j hj
            show putN st.T b v F y c v R2 ≠ none
            rw [hoth _ _ _ (fun h => hR2F (by omega))]
            exact hkn c hc hrc hp
    | none =>
      simp only []
      obtain ⟨st2,g1,g2,g3⟩:=flood_ok nv ih hb hat hmu (treeX (N : Int) cs) (fun _ h => h) (tree_nodup hv) { T:=putN st.T b v F y,took:=st.took,over:=st.over,n:=st.n + 1 } hI1 ⟨by have:=hsz.1;show st.over.length + _ + 1 < _;omega,by have:=hsz.2.1;show st.took.length + _ < _;omega,by have:=hsz.2.2;show st.n + 1 + _ < _;omega⟩
      rw [g1,Option.bind_some]
      have l2:=g2.lt
      have l2' : st2.took.length ≤ st.took.length + 15 * wlN N cs b y (treeX (N : Int) cs):=l2
      unfold leaveN
      rw [if_pos (by have:=hsz.2.1;omega)]
      obtain ⟨m1,m2⟩:=stN_mem hs vs (b : Int) v (F : Int) rc hs.length 0 st2.took
      have hhm : ∀ S : Nat,S < hs.length → (rd hs S = (b : Int) ↔ hmN hs S = b):=fun S hS => by
        have:=(nv.home hS).1
        omega
      have hbase : Base N cs hs vs F v rc 1 b st { T:=putN st.T b v F y,took:=st.took,over:=st.over,n:=st.n + 1 } :=
        ⟨by show st.over.length ≤ _;omega,by show st.took.length ≤ _;omega,Nat.le_refl _,hI1,hold,hoth,fun _ h => h,fun _ h => Or.inl h,fun _ h => h,fun _ h => Or.inl h⟩
      have hb2:=hbase.trans g2
      have lo:=g2.lo
      have lo' : st2.over.length ≤ st.over.length + wlN N cs b y (treeX (N : Int) cs):=lo
      have ln':=hb2.ln
      have hfin : Base N cs hs vs F v rc (wtN N cs b y) b st { st2 with took:=stN hs vs b v F rc hs.length 0 st2.took } :=
        ⟨by show st2.over.length ≤ _;omega,by show (stN hs vs b v F rc hs.length 0 st2.took).length ≤ _;have : (stN hs vs b v F rc hs.length ((0 : Nat) : Int) st2.took).length ≤ st2.took.length + hs.length:=m2;have e : ((0 : Nat) : Int) = 0:=rfl;rw [e] at this;omega,by show st2.n ≤ _;omega,hb2.inv,hb2.old,hb2.oth,hb2.ov0,hb2.ov1,fun s h => (m1 s).2 (Or.inl (hb2.tk0 s h)),fun s h => by
          rcases (m1 s).1 h with h | ⟨S,a1,a2,a3,a4,a5,a6,a7⟩
          · exact hb2.tk1 s h
          · exact Or.inr ⟨S,a3,by omega,by omega,a7,a5,by rw [(hhm S (by omega)).1 a4]⟩⟩
      have hTF : st2.T b v F ≠ none:=g2.old _ _ _ ((by show putN st.T b v F y b v F ≠ none;rw [hT1F];exact fun h => nomatch h))
      refine ⟨_,rfl,hfin,by show st2.over.length + 1 ≤ _;omega,hTF,fun t ht hr hs3 htg => ?_,fun R hR hRl hRF hRv hRr hs3 hkn j hj => ?_⟩
      · by_cases htb : t = b
        · subst htb
          refine ⟨fun S a1 a2 a3 a4 a5 => (m1 S).2 (Or.inr ⟨S,Nat.zero_le _,by omega,rfl,(hhm S a1).2 a2,a3,by omega,a5⟩),fun j hj => absurd hj (sep_self j t),fun c hc hrc hne hp => ?_⟩
          obtain ⟨k,o,h1,h2⟩:=sep_some hv hb hc hrc.symm (fun e => hne e.symm)
          exact absurd ⟨h2,sep_symm h2⟩ (hp k)
        · obtain ⟨k,o,h1,h2⟩:=sep_some hv hb ht hr.symm (fun e => htb e.symm)
          have hky : k ≠ y:=fun e => hs3 (e ▸ h2)
          obtain ⟨c1,c2,c3⟩:=g3 k (tj_tree hv h1) o h1 hky t ht hr h2 htg
          exact ⟨fun S a1 a2 a3 a4 a5 => (m1 S).2 (Or.inl (c1 S a1 a2 a3 a4 a5)),c2,c3⟩
      · have h1:=hkn b hb rfl (fun j h => sep_self _ _ h.1)
        have h15 : rc ≠ 15:=by omega
        rw [if_neg h15,hR,hoth _ _ _ (fun h => hRF (by omega))] at hm
        exact absurd hm h1
end

-- LIB netsim
def encY (y : Int) : Int:=if y = -1 then -2 else y
def encO : Option Int → Int
 | none => -1
 | some x => encY x
def MkOf (m : List Bool) (n : Nat) (l : List Int) : Prop:=m.length = n ∧ ∀ i : Nat,i < n → (rdOf false m (i : Int) = true ↔ (i : Int) ∈ l)
structure Sim (N : Nat) (cs : List S83) (hs : List Int) (st : RN) (ss : SN) : Prop where
 tl : ss.tabs.length = N * 150
 tb : ∀ b v s : Nat,b < N → v ≤ 9 → s < 15 → rd ss.tabs (atS b v s) = encO (st.T b v s)
 tk : MkOf ss.took hs.length st.took
 ov : MkOf ss.over cs.length st.over
theorem rdB_nat (m : List Bool) (i : Nat) : rdOf false m (i : Int) = m.getD i false:=by simp [rdOf]
theorem mk_set {m : List Bool} {n : Nat} {l l2 : List Int} (h : MkOf m n l) (K : Nat) (h2 : ∀ i : Nat,i < n → ((i : Int) ∈ l2 ↔ (i : Int) ∈ l ∨ i = K)) : MkOf (m.set K true) n l2:=by
 refine ⟨by rw [List.length_set];exact h.1,fun i hi => ?_⟩
 have h3:=h.2 i hi
 rw [rdB_nat] at h3 ⊢
 rw [h2 i hi,← h3,List.getD_eq_getElem?_getD,List.getD_eq_getElem?_getD,List.getElem?_set]
 by_cases e : K = i
 ·subst e
  rw [if_pos rfl,if_pos (by rw [h.1];exact hi)]
  simp
 ·rw [if_neg e]
  exact ⟨Or.inl,fun h4 => h4.elim id (fun h5 => absurd h5.symm e)⟩
theorem mk_same {m : List Bool} {n : Nat} {l l2 : List Int} (h : MkOf m n l) (h2 : ∀ i : Nat,i < n → ((i : Int) ∈ l2 ↔ (i : Int) ∈ l)) : MkOf m n l2:=⟨h.1,fun i hi => (h.2 i hi).trans (h2 i hi).symm⟩
theorem give_mk (hs vs : List Int) (b v fr rc only : Int) (n d : Nat) : ∀ (i : Nat) (m : List Bool) (l l2 : List Int), i + d = n → MkOf m n l →
  (∀ s : Nat,s < n → ((s : Int) ∈ l2 ↔ (s : Int) ∈ l ∨ (i ≤ s ∧ rd hs s = b ∧ rd vs s = v ∧ (s : Int) ≠ fr ∧ (0 ≤ only → (s : Int) = only) ∧ (rc = s ∨ rc = 15)))) → MkOf (giveS hs vs b v fr rc only d (i : Int) m) n l2:=by
 induction d with
 | zero =>
  intro i m l l2 hd hm h
  rw [giveS]
  exact mk_same hm (fun s hs' => (h s hs').trans ⟨fun h2 => h2.elim id (fun h3 => by omega),Or.inl⟩)
 | succ d ih =>
  intro i m l l2 hd hm h
  rw [giveS,show (i : Int) + 1 = ((i + 1 : Nat) : Int) from by omega]
  by_cases c : rd hs (i : Int) ≠ b ∨ rd vs (i : Int) ≠ v ∨ (i : Int) = fr ∨ (0 ≤ only ∧ (i : Int) ≠ only)
  ·rw [if_pos c]
   refine ih (i + 1) m l l2 (by omega) hm (fun s hs' => (h s hs').trans (or_congr Iff.rfl ⟨fun ⟨a1,a2,a3,a4,a5,a6⟩ => ?_,fun ⟨a1,a2⟩ => ⟨by omega,a2⟩⟩))
   by_cases e : s = i
   ·subst e
    rcases c with c | c | c | ⟨c,c2⟩
    ·exact absurd a2 c
    ·exact absurd a3 c
    ·exact absurd c a4
    ·exact absurd (a5 c) c2
   ·exact ⟨by omega,a2,a3,a4,a5,a6⟩
  ·rw [if_neg c]
   have c1 : rd hs (i : Int) = b:=Classical.byContradiction (fun h => c (Or.inl h))
   have c2 : rd vs (i : Int) = v:=Classical.byContradiction (fun h => c (Or.inr (Or.inl h)))
   have c3 : (i : Int) ≠ fr:=fun h => c (Or.inr (Or.inr (Or.inl h)))
   have c4 : 0 ≤ only → (i : Int) = only:=fun h0 => Classical.byContradiction (fun h => c (Or.inr (Or.inr (Or.inr ⟨h0,h⟩))))
   by_cases cr : rc = (i : Int) ∨ rc = 15
   ·rw [if_pos cr,Int.toNat_natCast]
    refine ih (i + 1) (m.set i true) ((i : Int) :: l) l2 (by omega) (mk_set hm i (fun s _ => by rw [List.mem_cons];exact ⟨fun h => h.elim (fun e => Or.inr (by omega)) Or.inl,fun h => h.elim Or.inr (fun e => Or.inl (by omega))⟩)) (fun s hs' => (h s hs').trans ⟨fun h2 => ?_,fun h2 => ?_⟩)
    ·rcases h2 with h2 | ⟨a1,a2⟩
     ·exact Or.inl (List.mem_cons_of_mem _ h2)
     ·by_cases e : s = i
      ·rw [e];exact Or.inl List.mem_cons_self
      ·exact Or.inr ⟨by omega,a2⟩
    ·rcases h2 with h2 | ⟨a1,a2⟩
     ·rcases List.mem_cons.1 h2 with e | h2
      ·have : s = i:=by omega
       subst this
       exact Or.inr ⟨Nat.le_refl _,c1,c2,c3,c4,cr⟩
      ·exact Or.inl h2
     ·exact Or.inr ⟨by omega,a2⟩
   ·rw [if_neg cr]
    refine ih (i + 1) m l l2 (by omega) hm (fun s hs' => (h s hs').trans (or_congr Iff.rfl ⟨fun ⟨a1,a2,a3,a4,a5,a6⟩ => ?_,fun ⟨a1,a2⟩ => ⟨by omega,a2⟩⟩))
    by_cases e : s = i
    ·subst e
     exact absurd a6 cr
    ·exact ⟨by omega,a2,a3,a4,a5,a6⟩
theorem rd_set (T : List Int) (i : Nat) (x : Int) (j : Nat) (hi : i < T.length) : rd (T.set i x) (j : Int) = if j = i then x else rd T (j : Int):=by
 simp only [rd,rdOf,Int.toNat_natCast,List.getD_eq_getElem?_getD,List.getElem?_set]
 by_cases e : i = j
 ·subst e
  simp [hi]
 ·rw [if_neg e,if_neg (fun h => e h.symm)]
section
variable {N : Nat} {cs : List S83} {hs vs : List Int} {F : Nat} {v rc : Int}
theorem sim_put (nv : NV N cs hs vs F v rc) {st : RN} {ss : SN} (h : Sim N cs hs st ss) {b : Nat} (hb : b < N) (y : Int) (m : Nat) : Sim N cs hs { st with T:=putN st.T b v F y,n:=m } { ss with tabs:=ss.tabs.set (atS b v F).toNat (encY y) }:=by
 obtain ⟨_,n2,n3,_,n5⟩:=netB_more nv.hn
 have hvF:=n5 F nv.hF
 rw [nv.hv] at hvF
 obtain ⟨V,rfl⟩ : ∃ V : Nat,v = (V : Int):=⟨v.toNat,by omega⟩
 have hF:=nv.hF
 refine ⟨by show (ss.tabs.set _ _).length = _;rw [List.length_set];exact h.tl,fun b2 v2 s2 hb2 hv2 hs2 => ?_,h.tk,h.ov⟩
 show rd (ss.tabs.set (atS b V F).toNat (encY y)) (atS b2 v2 s2) = encO (putN st.T b V F y b2 v2 s2)
 have e1 : (atS b V F).toNat = (b * 10 + V) * 15 + F:=by unfold atS;omega
 have e2 : atS (b2 : Int) v2 s2 = (((b2 * 10 + v2) * 15 + s2 : Nat) : Int):=by unfold atS;omega
 have hlen:=h.tl
 rw [e1,e2,rd_set _ _ _ _ (by omega)]
 unfold putN
 by_cases c : (b2 * 10 + v2) * 15 + s2 = (b * 10 + V) * 15 + F
 ·rw [if_pos c,if_pos ⟨by omega,by omega,by omega⟩]
  rfl
 ·rw [if_neg c,if_neg (fun h => c (by omega)),← e2]
  exact h.tb b2 v2 s2 hb2 hv2 hs2
theorem in_tabs (nv : NV N cs hs vs F v rc) {T : List Int} (hl : T.length = N * 150) {b : Nat} (hb : b < N) {s : Int} (h0 : 0 ≤ s) (h1 : s < 15) : inS T b v s:=by
 obtain ⟨_,n2,n3,_,n5⟩:=netB_more nv.hn
 have hvF:=n5 F nv.hF
 rw [nv.hv] at hvF
 have hN8:=(cabsB_facts nv.cab).2.1
 unfold inS atS
 exact ⟨by omega,by omega,by omega,by omega,by omega,by omega,by omega⟩
theorem kn_eq (nv : NV N cs hs vs F v rc) {st : RN} {ss : SN} (h : Sim N cs hs st ss) {b : Nat} (hb : b < N) : knS ss.tabs b v rc = encO (if rc = 15 then none else st.T b v rc):=by
 obtain ⟨_,n2,n3,_,n5⟩:=netB_more nv.hn
 have hvF:=n5 F nv.hF
 rw [nv.hv] at hvF
 unfold knS
 by_cases c : rc = 15
 ·rw [if_neg (by omega),if_pos c]
  rfl
 ·have hr : 0 ≤ rc ∧ rc < hs.length:=nv.hr.resolve_right c
  rw [if_pos (by omega),if_neg c]
  obtain ⟨V,hV⟩ : ∃ V : Nat,v = (V : Int):=⟨v.toNat,by omega⟩
  obtain ⟨R,hR⟩ : ∃ R : Nat,rc = (R : Int):=⟨rc.toNat,by omega⟩
  rw [hV,hR]
  exact h.tb b V R hb (by omega) (by omega)
theorem at_next (nv : NV N cs hs vs F v rc) {k y : Int} {b o : Nat} (hk : TJ N cs k b o) (hne : k ≠ y) (hat : AtB N cs (hmN hs F) b y) : AtB N cs (hmN hs F) o k:=by
 have hv:=nv.cab
 refine ⟨(hk.root hv).symm.trans hat.1,Or.inr ⟨b,hk.symm,Classical.byContradiction (fun h => ?_)⟩⟩
 have h1:=(sep_flip hv hk (hmN hs F)).2 h
 rcases hat.2 with ⟨_,e⟩ | ⟨o2,h2,h3⟩
 ·rw [e] at h1
  exact sep_self _ _ h1
 ·exact hne (sep_one hv (nv.home nv.hF).2 hk h2 h1 h3)
def SimOK (N : Nat) (cs : List S83) (hs vs : List Int) (F : Nat) (v rc : Int) (f : Nat) : Prop :=
 ∀ (b : Nat) (y : Int) (st st' : RN) (ss : SN),b < N → InvT N cs hs vs st.T → AtB N cs (hmN hs F) b y → comeN cs (treeX (N : Int) cs) hs vs v F rc f b y st = some st' → Sim N cs hs st ss →
  ∃ ss',comeS cs (treeX (N : Int) cs) hs vs v F rc f b (encY y) ss = some ss' ∧ Sim N cs hs st' ss' ∧ InvT N cs hs vs st'.T
theorem sim_send (nv : NV N cs hs vs F v rc) {f : Nat} (ih : SimOK N cs hs vs F v rc f) {k y : Int} {b o : Nat} (hk : TJ N cs k b o) (hne : k ≠ y) (hat : AtB N cs (hmN hs F) b y) {st st' : RN} {ss : SN} (hI : InvT N cs hs vs st.T) (h : sendN cs (comeN cs (treeX (N : Int) cs) hs vs v F rc f) b k st = some st') (hS : Sim N cs hs st ss) :
  ∃ ss',comeS cs (treeX (N : Int) cs) hs vs v F rc f o k { ss with over:=ss.over.set k.toNat true } = some ss' ∧ Sim N cs hs st' ss' ∧ InvT N cs hs vs st'.T:=by
 have hv:=nv.cab
 obtain ⟨p1,p2⟩:=tj_pos hk
 obtain ⟨K,rfl⟩ : ∃ K : Nat,k = (K : Int):=⟨k.toNat,by omega⟩
 unfold sendN at h
 split at h
 ·rw [tj_oth hv hk] at h
  have hS2 : Sim N cs hs { st with over:=st.over ++ [(K : Int)] } { ss with over:=ss.over.set (K : Int).toNat true }:=by
   refine ⟨hS.tl,hS.tb,hS.tk,?_⟩
   rw [Int.toNat_natCast]
   exact mk_set hS.ov K (fun i _ => by
    show (i : Int) ∈ st.over ++ [(K : Int)] ↔ _
    rw [List.mem_append,List.mem_singleton]
    exact or_congr Iff.rfl ⟨fun h => by omega,fun h => by omega⟩)
  have hek : encY (K : Int) = (K : Int):=by unfold encY;rw [if_neg (by omega)]
  obtain ⟨ss',h1,h2,h3⟩:=ih o K { st with over:=st.over ++ [(K : Int)] } st' _ (hk.lt hv).2 hI (at_next nv hk hne hat) h hS2
  rw [hek] at h1
  exact ⟨ss',h1,h2,h3⟩
 ·cases h
theorem enc_ne {k y : Int} (hk : 0 ≤ k) : k = encY y ↔ k = y:=by
 unfold encY
 split
 ·omega
 ·exact Iff.rfl
theorem sim_flood (nv : NV N cs hs vs F v rc) {f : Nat} (ih : SimOK N cs hs vs F v rc f) {y : Int} {b : Nat} (hat : AtB N cs (hmN hs F) b y) (l : List Int) :
  (∀ k ∈ l,k ∈ treeX (N : Int) cs) → ∀ (st st' : RN) (ss : SN),InvT N cs hs vs st.T → floodN cs (comeN cs (treeX (N : Int) cs) hs vs v F rc f) b y l st = some st' → Sim N cs hs st ss →
  ∃ ss',floodS cs (comeS cs (treeX (N : Int) cs) hs vs v F rc f) b (encY y) (-1) l ss = some ss' ∧ Sim N cs hs st' ss' ∧ InvT N cs hs vs st'.T:=by
 have hv:=nv.cab
 induction l with
 | nil =>
  intro _ st st' ss hI h hS
  obtain rfl:=Option.some.inj h
  exact ⟨ss,rfl,hS,hI⟩
 | cons k l ihl =>
  intro htr st st' ss hI h hS
  have htr2 : ∀ k ∈ l,k ∈ treeX (N : Int) cs:=fun j hj => htr j (List.mem_cons_of_mem _ hj)
  have hkp:=treeX_in (htr k List.mem_cons_self)
  rw [floodN] at h
  rw [floodS]
  rcases oth_tj hv (htr k List.mem_cons_self) b with ⟨o,h1,h2⟩ | ⟨h1,h2⟩
  ·rw [h1] at h ⊢
   by_cases hky : k = y
   ·rw [if_neg (fun h => h.2 hky)] at h
    rw [if_pos (Or.inr (Or.inl ((enc_ne hkp.1).2 hky)))]
    exact ihl htr2 st st' ss hI h hS
   ·rw [if_pos ⟨rfl,hky⟩] at h
    obtain ⟨st1,s1,s2⟩:=Option.bind_eq_some_iff.1 h
    obtain ⟨ss1,g1,g2,g3⟩:=sim_send nv ih h2 hky hat hI s1 hS
    rw [if_neg (fun h => h.elim (fun h => by simp at h;omega) (fun h => h.elim (fun h => hky ((enc_ne hkp.1).1 h)) (fun h => by omega)))]
    have g1' : comeS cs (treeX (N : Int) cs) hs vs v F rc f ((some (o : Int)).getD (-1)) k { ss with over:=ss.over.set k.toNat true } = some ss1:=g1
    rw [g1',Option.bind_some]
    exact ihl htr2 st1 st' ss1 g3 s2 g2
  ·rw [h1] at h ⊢
   rw [if_neg (fun h => by cases h.1)] at h
   rw [if_pos (Or.inl (by decide))]
   exact ihl htr2 st st' ss hI h hS
theorem flood_one {go : Int → Int → SN → Option SN} {b y x : Int} (hx : 0 ≤ x) (l : List Int) : l.Nodup → ∀ ss : SN,floodS cs go b y x l ss = if x ∈ l ∧ ¬ ((othX (rd_T83 cs x) b).getD (-1) < 0 ∨ x = y) then go ((othX (rd_T83 cs x) b).getD (-1)) x { ss with over:=ss.over.set x.toNat true } else some ss:=by
 induction l with
 | nil => intro _ ss;rw [floodS,if_neg (fun h => by cases h.1)]
 | cons k l ihl =>
  intro hnd ss
  obtain ⟨n1,n2⟩:=List.nodup_cons.1 hnd
  rw [floodS]
  by_cases hk : k = x
  ·subst hk
   have hrest : ∀ ss : SN,floodS cs go b y k l ss = some ss:=fun ss => by rw [ihl n2,if_neg (fun h => n1 h.1)]
   by_cases c : (othX (rd_T83 cs k) b).getD (-1) < 0 ∨ k = y
   ·rw [if_pos (c.elim Or.inl (fun h => Or.inr (Or.inl h))),if_neg (fun h => h.2 c)]
    exact hrest ss
   ·rw [if_neg (fun h => c (h.elim Or.inl (fun h => h.elim Or.inr (fun h => absurd rfl h.2)))),if_pos ⟨List.mem_cons_self,c⟩]
    rw [show floodS cs go b y k l = fun ss => some ss from funext hrest]
    cases go ((othX (rd_T83 cs k) b).getD (-1)) k { ss with over:=ss.over.set k.toNat true } <;> rfl
  ·rw [if_pos (Or.inr (Or.inr ⟨hx,hk⟩)),ihl n2]
   have : (x ∈ k :: l ↔ x ∈ l):=by rw [List.mem_cons];exact ⟨fun h => h.resolve_left (fun e => hk e.symm),Or.inr⟩
   simp only [this]
theorem sim_come (nv : NV N cs hs vs F v rc) (f : Nat) : SimOK N cs hs vs F v rc f:=by
  have hv:=nv.cab
  induction f with
  | zero => intro b y st st' ss _ _ _ h;cases h
  | succ f ih =>
    intro b y st st' ss hb hI hat h hS
    obtain ⟨m1,m2,m3,n5⟩:=netB_more nv.hn
    have hI1:=inv_put nv hI hb hat
    have hS1:=sim_put nv hS hb y (st.n + 1)
    have hkn:=kn_eq nv hS1 hb
    have hkn2 : knS (ss.tabs.set (atS b v F).toNat (encY y)) b v rc = encO (if rc = 15 then none else putN st.T b v F y b v rc):=hkn
    obtain ⟨hp1,hp2,hp3,hp4⟩:=comeN_pos h
    unfold comeN at h
    rw [if_pos ⟨hp1,hp2,hp3,hp4⟩] at h
    unfold comeS
    have hin : inS ss.tabs b v F ∧ inS ss.tabs b v (if rc < 15 then rc else 0):=by
      have hF:=nv.hF
      refine ⟨in_tabs nv hS.tl hb (by omega) (by omega),?_⟩
      split
      · rename_i h15
        rcases nv.hr with hr | hr
        · exact in_tabs nv hS.tl hb hr.1 (by omega)
        · omega
      · exact in_tabs nv hS.tl hb (by omega) (by omega)
    rw [if_pos hin,hkn2]
    cases hm : (if rc = 15 then none else putN st.T b v F y b v rc) with
    | some x =>
      rw [hm] at h
      simp only [] at h
      have h15 : rc ≠ 15:=fun h => by rw [if_pos h] at hm;cases hm
      rw [if_neg h15] at hm
      obtain ⟨B,R,e1,e2,hB,hR,hvR,hrt,hx⟩:=hI1 _ _ _ _ hm
      obtain rfl : b = B:=by omega
      subst e2
      by_cases hx1 : x = -1
      · have hbR : b = hmN hs R := by
          rcases hx with h | ⟨o,h,_⟩
          · exact h.2
          · have:=(tj_pos h).1
            omega
        rw [if_pos hx1] at h
        obtain rfl:=Option.some.inj h
        have hen : encO (some x) = -2:=by show encY x = -2;unfold encY;rw [if_pos hx1]
        rw [hen,if_pos rfl]
        refine ⟨_,rfl,⟨hS1.tl,hS1.tb,?_,hS1.ov⟩,hI1⟩
        refine give_mk hs vs b v F R R hs.length hs.length 0 ss.took st.took _ (by omega) hS.tk (fun s hsl => ?_)
        show (s : Int) ∈ takeN F R R st.took ↔ _
        rw [takeN_mem]
        refine or_congr Iff.rfl ⟨fun ⟨a1,a2,a3⟩ => ?_,fun ⟨a1,a2,a3,a4,a5,a6⟩ => ⟨a5 (by omega),by have:=a5 (by omega);omega,Or.inl rfl⟩⟩
        have e : s = R:=by omega
        subst e
        exact ⟨Nat.zero_le _,by rw [(nv.home hR).1,hbR],hvR.symm,by omega,fun _ => rfl,Or.inl rfl⟩
      · rw [if_neg hx1] at h
        obtain ⟨o,hk,hsx⟩ : ∃ o,TJ N cs x b o ∧ Sep N cs x b (hmN hs R):=by
          rcases hx with h | h
          · exact absurd h.1 hx1
          · exact h
        obtain ⟨x0,xl⟩:=tj_pos hk
        have hen : encO (some x) = x:=by show encY x = x;unfold encY;rw [if_neg hx1]
        rw [hen,if_neg (by omega),flood_one x0 _ (tree_nodup hv)]
        by_cases hxy : x = y
        · rw [if_pos hxy] at h
          obtain rfl:=Option.some.inj h
          rw [if_neg (fun h => h.2 (Or.inr ((enc_ne x0).2 hxy))),Option.bind_some,if_neg (by omega)]
          exact ⟨_,rfl,hS1,hI1⟩
        · rw [if_neg hxy,if_pos ⟨x0,xl⟩] at h
          obtain ⟨ss1,g1,g2,g3⟩:=sim_send nv ih hk hxy hat (st:={ st with T:=putN st.T b v F y,n:=st.n + 1 }) hI1 h hS1
          have g1' : comeS cs (treeX (N : Int) cs) hs vs v F R f ((some (o : Int)).getD (-1)) x { tabs:=ss.tabs.set (atS b v F).toNat (encY y),took:=ss.took,over:=ss.over.set x.toNat true } = some ss1:=g1
          rw [tj_oth hv hk,if_pos ⟨tj_tree hv hk,fun h => h.elim (fun h => by simp at h;omega) (fun h => hxy ((enc_ne x0).1 h))⟩,g1',Option.bind_some,if_neg (by omega)]
          exact ⟨ss1,rfl,g2,g3⟩
    | none =>
      rw [hm] at h
      simp only [] at h
      have hen : encO none = -1:=rfl
      rw [hen,if_neg (by decide)]
      obtain ⟨st2,s1,s2⟩:=Option.bind_eq_some_iff.1 h
      obtain ⟨ss2,g1,g2,g3⟩:=sim_flood nv ih hat (treeX (N : Int) cs) (fun _ h => h) _ _ _ hI1 s1 hS1
      have g1' : floodS cs (comeS cs (treeX (N : Int) cs) hs vs v F rc f) b (encY y) (-1) (treeX (N : Int) cs) { tabs:=ss.tabs.set (atS b v F).toNat (encY y),took:=ss.took,over:=ss.over } = some ss2:=g1
      rw [g1',Option.bind_some,if_pos (by decide)]
      unfold leaveN at s2
      split at s2
      · obtain rfl:=Option.some.inj s2
        refine ⟨_,rfl,⟨g2.tl,g2.tb,?_,g2.ov⟩,g3⟩
        refine give_mk hs vs b v F rc (-1) hs.length hs.length 0 ss2.took st2.took _ (by omega) g2.tk (fun s hsl => ?_)
        refine ((stN_mem hs vs (b : Int) v (F : Int) rc hs.length 0 st2.took).1 s).trans (or_congr Iff.rfl ⟨fun ⟨S,a1,a2,a3,a4,a5,a6,a7⟩ => ?_,fun ⟨a1,a2,a3,a4,a5,a6⟩ => ⟨s,a1,by omega,rfl,a2,a3,a4,a6⟩⟩)
        have e : s = S:=by omega
        subst e
        exact ⟨a1,a4,a5,a6,fun h => by omega,a7⟩
      · cases s2
end

-- LIB netfin
theorem asc_uniq : ∀ {a b : List Int},a.Pairwise (· < ·) → b.Pairwise (· < ·) → (∀ x,x ∈ a ↔ x ∈ b) → a = b
 | [],[],_,_,_ => rfl
 | [],y :: b,_,_,h => absurd ((h y).2 List.mem_cons_self) (by simp)
 | x :: a,[],_,_,h => absurd ((h x).1 List.mem_cons_self) (by simp)
 | x :: a,y :: b,ha,hb,h => by
  rw [List.pairwise_cons] at ha hb
  have hx:=(h x).1 List.mem_cons_self
  have hy:=(h y).2 List.mem_cons_self
  rw [List.mem_cons] at hx hy
  obtain rfl : x = y:=by
   rcases hx with e | hx
   ·exact e
   ·rcases hy with e | hy
    ·exact e.symm
    ·have h1:=ha.1 y hy
     have h2:=hb.1 x hx
     omega
  congr 1
  refine asc_uniq ha.2 hb.2 (fun z => ⟨fun hz => ?_,fun hz => ?_⟩)
  ·rcases List.mem_cons.1 ((h z).1 (List.mem_cons_of_mem _ hz)) with e | e
   ·have:=ha.1 z hz;omega
   ·exact e
  ·rcases List.mem_cons.1 ((h z).2 (List.mem_cons_of_mem _ hz)) with e | e
   ·have:=hb.1 z hz;omega
   ·exact e

-- LIB netfin
theorem compact_upto (d : Array Int) (hs : ∀ i j,i ≤ j → j < d.size → d[i]! ≤ d[j]!) (m : Nat) : m ≤ d.size → (Lib.compactUpTo d m).Pairwise (· < ·) ∧ ∀ x,x ∈ Lib.compactUpTo d m ↔ ∃ j,j < m ∧ d[j]! = x:=by
 induction m with
 | zero => exact fun _ => ⟨List.Pairwise.nil,fun x => ⟨fun h => absurd h (by simp [Lib.compactUpTo]),fun ⟨j,hj,_⟩ => by omega⟩⟩
 | succ m ih =>
  intro hm
  obtain ⟨h1,h2⟩:=ih (by omega)
  rw [Lib.compactUpTo_succ]
  by_cases hk : m = 0 ∨ d[m]! ≠ d[m - 1]!
  ·have hk2 : Lib.keeps d m = true:=by unfold Lib.keeps;exact decide_eq_true hk
   rw [hk2,if_pos rfl]
   refine ⟨List.pairwise_append.2 ⟨h1,List.pairwise_singleton _ _,fun a ha b hb => ?_⟩,fun x => ?_⟩
   ·obtain rfl:=List.mem_singleton.1 hb
    obtain ⟨j,hj,rfl⟩:=(h2 a).1 ha
    have a1:=hs j (m - 1) (by omega) (by omega)
    have a2:=hs (m - 1) m (by omega) (by omega)
    have a3:=hk.resolve_left (by omega)
    omega
   ·rw [List.mem_append,List.mem_singleton,h2]
    exact ⟨fun h => h.elim (fun ⟨j,hj,e⟩ => ⟨j,by omega,e⟩) (fun e => ⟨m,by omega,e.symm⟩),fun ⟨j,hj,e⟩ => by
     by_cases e2 : j = m
     ·subst e2;exact Or.inr e.symm
     ·exact Or.inl ⟨j,by omega,e⟩⟩
  ·have hk2 : Lib.keeps d m = false:=by unfold Lib.keeps;exact decide_eq_false hk
   rw [hk2,if_neg (by decide),List.append_nil]
   refine ⟨h1,fun x => (h2 x).trans ⟨fun ⟨j,hj,e⟩ => ⟨j,by omega,e⟩,fun ⟨j,hj,e⟩ => ?_⟩⟩
   by_cases e2 : j = m
   ·subst e2
    refine ⟨j - 1,by omega,?_⟩
    have : d[j]! = d[j - 1]!:=Classical.not_not.1 (fun h => hk (Or.inr h))
    rw [← this];exact e
   ·exact ⟨j,by omega,e⟩

-- LIB netfin
theorem once_asc (l : List Int) : (onceL l).Pairwise (· < ·) ∧ ∀ x,x ∈ onceL l ↔ x ∈ l:=by
 have hp : (l.mergeSort fun x y => decide (x ≤ y)).Perm l:=List.mergeSort_perm _ _
 have ho : (l.mergeSort fun x y => decide (x ≤ y)).Pairwise (fun x y => decide (x ≤ y) = true):=List.pairwise_mergeSort (fun a b c h1 h2 => by simp only [decide_eq_true_eq] at *;omega) (fun a b => by simp only [Bool.or_eq_true,decide_eq_true_eq];omega) l
 unfold onceL Lib.compact
 revert hp ho
 generalize (l.mergeSort fun x y => decide (x ≤ y)) = s
 intro hp ho
 rw [List.pairwise_iff_getElem] at ho
 have hg : ∀ i,(h : i < s.length) → s.toArray[i]! = s[i]:=fun i h => by simp [h]
 obtain ⟨h1,h2⟩:=compact_upto s.toArray (fun i j hij hj => by
  have hj2 : j < s.length:=by simpa using hj
  rw [hg i (by omega),hg j hj2]
  rcases Nat.lt_or_ge i j with h | h
  ·exact of_decide_eq_true (ho i j (by omega) hj2 h)
  ·obtain rfl : i = j:=by omega
   exact Int.le_refl _) s.length (by simp)
 refine ⟨h1,fun x => (h2 x).trans ?_⟩
 rw [← hp.mem_iff,List.mem_iff_getElem]
 exact ⟨fun ⟨j,hj,e⟩ => ⟨j,hj,by rw [← hg j hj];exact e⟩,fun ⟨j,hj,e⟩ => ⟨j,hj,by rw [hg j hj];exact e⟩⟩

-- LIB netfin
theorem rep_false (n i : Nat) : (List.replicate n false).getD i false = false:=by
 rw [List.getD_eq_getElem?_getD,List.getElem?_replicate]
 split <;> rfl

-- LIB netfin
theorem lst_once {m : List Bool} {n : Nat} {l : List Int} (h : MkOf m n l) (hl : ∀ x ∈ l,0 ≤ x ∧ x < n) : lstS m = onceL l:=by
 obtain ⟨h1,h2⟩:=once_asc l
 unfold lstS
 refine asc_uniq (filM_asc _ _ _) h1 (fun x => (filM_mem0 _ _ _).trans (Iff.trans ?_ (h2 x).symm))
 rw [h.1]
 constructor
 ·rintro ⟨a1,a2,a3⟩
  obtain ⟨i,rfl⟩:=Int.eq_ofNat_of_zero_le a1
  exact (h.2 i (by omega)).1 a3
 ·intro hx
  obtain ⟨a1,a2⟩:=hl x hx
  obtain ⟨i,rfl⟩:=Int.eq_ofNat_of_zero_le a1
  exact ⟨a1,a2,(h.2 i (by omega)).2 hx⟩

-- LIB netfin
def LrnOK (N : Nat) (cs : List S83) (hs vs : List Int) (h : S37) (T : TabN) : Prop :=
 ∀ F : Nat,h.f0 = (F : Int) → ∀ c,c < N → gD (rootsL N cs) c = gD (rootsL N cs) (hmN hs F) →
  (h.f1 = 15 ∨ ∃ R : Nat,h.f1 = (R : Int) ∧ R < hs.length ∧ rd vs R = rd vs F ∧ gD (rootsL N cs) (hmN hs R) = gD (rootsL N cs) (hmN hs F) ∧ OnP N cs (hmN hs F) c (hmN hs R)) → T c (rd vs F) F ≠ none

-- LIB netfin
structure FrameOK (N : Nat) (cs : List S83) (hs vs : List Int) (h : S37) (F : Nat) (T : TabN) (ts os : List Int) : Prop where
 tka : ts.Pairwise (· < ·)
 ova : os.Pairwise (· < ·)
 tk : ∀ s,s ∈ ts ↔ ∃ S : Nat,s = (S : Int) ∧ S < hs.length ∧ S ≠ F ∧ (h.f1 = S ∨ h.f1 = 15) ∧ rd vs S = rd vs F ∧ gD (rootsL N cs) (hmN hs S) = gD (rootsL N cs) (hmN hs F)
 ov : ∀ j ∈ os,∃ e o,TJ N cs j e o ∧ gD (rootsL N cs) e = gD (rootsL N cs) (hmN hs F)
 all : h.f1 = 15 → ∀ j t,t < N → gD (rootsL N cs) t = gD (rootsL N cs) (hmN hs F) → Sep N cs j (hmN hs F) t → j ∈ os
 way : ∀ R : Nat,h.f1 = (R : Int) → R < hs.length → rd vs R = rd vs F → gD (rootsL N cs) (hmN hs R) = gD (rootsL N cs) (hmN hs F) → ∀ j,Sep N cs j (hmN hs F) (hmN hs R) → j ∈ os
 slim : ∀ R : Nat,h.f1 = (R : Int) → R < hs.length → R ≠ F → rd vs R = rd vs F → gD (rootsL N cs) (hmN hs R) = gD (rootsL N cs) (hmN hs F) → (∀ c,c < N → gD (rootsL N cs) c = gD (rootsL N cs) (hmN hs F) → OnP N cs (hmN hs F) c (hmN hs R) → T c (rd vs F) R ≠ none) → ∀ j ∈ os,Sep N cs j (hmN hs F) (hmN hs R)

-- LIB netfin
theorem mu_max {N : Nat} {cs : List S83} (hv : cabsB (N : Int) cs = true) {b : Nat} (hb : b < N) (y : Int) : muN N cs b y ≤ 20:=by
 have:=wL_len hv hb
 unfold muN
 split <;> omega

-- LIB netfin
theorem frames_ok (N : Nat) (cs : List S83) (hs vs : List Int) (hn : netB (N : Int) cs hs vs = true) (l : List S37) :
  ∀ (K : List S37) (T : TabN) (n : Nat) (tabs : List Int),l.all (hopB (N : Int) cs hs vs) = true → InvT N cs hs vs T → n + 400000000 * l.length + 400000000 < 1000000000000 → tabs.length = N * 150 →
   (∀ b v s : Nat,b < N → v ≤ 9 → s < 15 → rd tabs (atS b v s) = encO (T b v s)) → (∀ g ∈ K,LrnOK N cs hs vs g T) →
  ∃ fin,framesN cs (treeX (N : Int) cs) hs vs l T n = some fin ∧ framesS cs (treeX (N : Int) cs) hs vs l tabs = some fin ∧ fin.1.length = l.length ∧ fin.2.length = l.length ∧
   ∀ i (hi : i < l.length),∃ (F : Nat) (T' : TabN),l[i].f0 = (F : Int) ∧ F < hs.length ∧ FrameOK N cs hs vs l[i] F T' (fin.1.getD i []) (fin.2.getD i []) ∧ ∀ g ∈ K ++ l.take i,LrnOK N cs hs vs g T':=by
 induction l with
 | nil => exact fun K T n tabs _ _ _ _ _ _ => ⟨([],[]),rfl,rfl,rfl,rfl,fun i hi => absurd hi (by simp)⟩
 | cons h l ih =>
  intro K T n tabs hall hI hsz htl htb hK
  have hv:=(netB_facts hn).1
  rw [List.all_cons,Bool.and_eq_true] at hall
  obtain ⟨hh,hall⟩:=hall
  rw [List.length_cons] at hsz
  unfold hopB stB at hh
  rw [Bool.and_eq_true,Bool.or_eq_true,decide_eq_true_eq,decide_eq_true_eq,beq_iff_eq] at hh
  obtain ⟨⟨_,p0,p1⟩,hr⟩:=hh
  obtain ⟨F,hF⟩:=Int.eq_ofNat_of_zero_le p0
  have hFl : F < hs.length:=by omega
  have nv : NV N cs hs vs F (rd vs F) h.f1:=⟨hn,hFl,rfl,hr.imp (fun h => h.2) id⟩
  obtain ⟨hb1,hb⟩:=nv.home hFl
  have hat : AtB N cs (hmN hs F) (hmN hs F) (-1):=⟨rfl,Or.inl ⟨rfl,rfl⟩⟩
  have hwt:=wt_max hv hb (-1)
  have hnosep : ∀ t,t < N → ¬ Sep N cs (-1) (hmN hs F) t:=fun t ht => sep_neg (-1) (by decide) hv hb ht
  obtain ⟨st,e1,hB,hlen,hself,hC,hNa⟩:=come_ok nv 20 (hmN hs F) (-1) ⟨T,[],[],n⟩ hb hI hat (mu_max hv hb _) (by unfold szN;simp;omega)
  have hSim : Sim N cs hs ⟨T,[],[],n⟩ ⟨tabs,List.replicate hs.length false,List.replicate cs.length false⟩ :=
   ⟨htl,htb,⟨List.length_replicate,fun i hi => by rw [rdB_nat,rep_false];simp⟩,⟨List.length_replicate,fun i hi => by rw [rdB_nat,rep_false];simp⟩⟩
  obtain ⟨ss,e2,hS2,hI2⟩:=sim_come nv 20 (hmN hs F) (-1) ⟨T,[],[],n⟩ st _ hb hI hat e1 hSim
  have hlo:=hB.lo
  have hlt:=hB.lt
  have hln:=hB.ln
  simp only [List.length_nil,Nat.zero_add] at hlo hlt hln
  have hLrn : LrnOK N cs hs vs h st.T:=by
   intro F' hF' c hc hrt hcase
   obtain rfl : F' = F:=by omega
   by_cases e : c = hmN hs F'
   ·subst e;exact hself
   ·rcases hcase with h15 | ⟨R,hR,hRl,hRv,hRr,hP⟩
    ·exact (hC c hc hrt (hnosep c hc) (Or.inl h15)).2.2 c hc hrt e (fun j hj => sep_self _ _ hj.2)
    ·exact (hC (hmN hs R) (nv.home hRl).2 hRr (hnosep _ (nv.home hRl).2) (Or.inr ⟨R,hR,hRl,hRv,rfl⟩)).2.2 c hc hrt e hP
  have hmono : ∀ g,LrnOK N cs hs vs g T → LrnOK N cs hs vs g st.T:=fun g hg F' hF' c hc hrt hcase => hB.old _ _ _ (hg F' hF' c hc hrt hcase)
  obtain ⟨fin,q1,q2,q3,q4,q5⟩:=ih (K ++ [h]) st.T st.n ss.tabs hall hB.inv (by omega) hS2.tl hS2.tb (fun g hg => by
   rcases List.mem_append.1 hg with hg | hg
   ·exact hmono g (hK g hg)
   ·obtain rfl:=List.mem_singleton.1 hg
    exact hLrn)
  have htk : ∀ s ∈ st.took,∃ S : Nat,s = (S : Int) ∧ S < hs.length ∧ S ≠ F ∧ (h.f1 = S ∨ h.f1 = 15) ∧ rd vs S = rd vs F ∧ gD (rootsL N cs) (hmN hs S) = gD (rootsL N cs) (hmN hs F):=fun s hs' => (hB.tk1 s hs').resolve_left (by simp)
  have hov : ∀ j ∈ st.over,∃ e o,TJ N cs j e o ∧ gD (rootsL N cs) e = gD (rootsL N cs) (hmN hs F):=fun j hj => (hB.ov1 j hj).resolve_left (by simp)
  have ho1 : lstS ss.took = onceL st.took:=lst_once hS2.tk (fun x hx => by obtain ⟨S,rfl,h1,_⟩:=htk x hx;omega)
  have ho2 : lstS ss.over = onceL st.over:=lst_once hS2.ov (fun x hx => by obtain ⟨e,o,h1,_⟩:=hov x hx;exact tj_pos h1)
  obtain ⟨u1,u2⟩:=once_asc st.took
  obtain ⟨u3,u4⟩:=once_asc st.over
  refine ⟨(onceL st.took :: fin.1,onceL st.over :: fin.2),?_,?_,by simp [q3],by simp [q4],?_⟩
  ·unfold framesN
   rw [hF,hb1,e1,Option.bind_some,if_pos ⟨by omega,by omega⟩,q1]
   rfl
  ·unfold framesS
   rw [hF,hb1,show (-2 : Int) = encY (-1) from rfl,e2,Option.bind_some,q2,ho1,ho2]
   rfl
  ·intro i hi
   cases i with
   | zero =>
    refine ⟨F,T,hF,hFl,?_,fun g hg => hK g (by simpa using hg)⟩
    simp only [List.getD_cons_zero,List.getElem_cons_zero]
    refine ⟨u1,u3,fun s => (u2 s).trans ⟨htk s,?_⟩,fun j hj => hov j ((u4 j).1 hj),fun h15 j t ht hrt hsep => (u4 j).2 ((hC t ht hrt (hnosep t ht) (Or.inl h15)).2.1 j hsep),fun R hR hRl hRv hRr j hsep => (u4 j).2 ((hC (hmN hs R) (nv.home hRl).2 hRr (hnosep _ (nv.home hRl).2) (Or.inr ⟨R,hR,hRl,hRv,rfl⟩)).2.1 j hsep),fun R hR hRl hne hRv hRr hkn j hj => ?_⟩
    ·rintro ⟨S,rfl,hSl,hne,hc,hSv,hSr⟩
     refine (hC (hmN hs S) (nv.home hSl).2 hSr (hnosep _ (nv.home hSl).2) ?_).1 S hSl rfl hSv hne hc
     rcases hc with hc | hc
     ·exact Or.inr ⟨S,hc,hSl,hSv,rfl⟩
     ·exact Or.inl hc
    ·exact (hNa R hR hRl hne hRv hRr (hnosep _ (nv.home hRl).2) hkn j ((u4 j).1 hj)).resolve_left (by simp)
   | succ i =>
    obtain ⟨F',T',r1,r2,r3,r4⟩:=q5 i (by simpa using hi)
    refine ⟨F',T',r1,r2,?_,fun g hg => r4 g ?_⟩
    ·simpa using r3
    ·rw [List.take_succ_cons] at hg
     simpa [List.append_assoc] using hg

-- LIB netfin
theorem frames_start (N : Nat) (cs : List S83) (hs vs : List Int) (l : List S37) (h : runB (N : Int) cs hs vs l = true) :
  ∃ fin,framesN cs (treeX (N : Int) cs) hs vs l (fun _ _ _ => none) 0 = some fin ∧ framesS cs (treeX (N : Int) cs) hs vs l (List.replicate ((N : Int) * 150).toNat (-1)) = some fin ∧ fin.1.length = l.length ∧ fin.2.length = l.length ∧
   ∀ i (hi : i < l.length),∃ (F : Nat) (T' : TabN),l[i].f0 = (F : Int) ∧ F < hs.length ∧ FrameOK N cs hs vs l[i] F T' (fin.1.getD i []) (fin.2.getD i []) ∧ ∀ g ∈ l.take i,LrnOK N cs hs vs g T':=by
 unfold runB at h
 rw [Bool.and_eq_true,Bool.and_eq_true,decide_eq_true_eq] at h
 obtain ⟨h1,h2,h3⟩:=h
 have hc:=netB_more h1
 exact frames_ok N cs hs vs h1 l [] (fun _ _ _ => none) 0 _ h3 (fun _ _ _ _ h => by cases h) (by omega) (by rw [List.length_replicate];omega) (fun b v s hb hv hs' => by
  have : ((atS b v s).toNat : Int) = atS b v s ∧ (atS b v s).toNat < N * 150:=by unfold atS;omega
  rw [← this.1,rd_get _ _ (by rw [List.length_replicate];omega),List.getElem_replicate];rfl) (fun g hg => by cases hg)

-- LIB p19mi
theorem imates_eq (n : Int) (cs : List S83) (hs vs : List Int) (s : Int) (k : Nat) (hk : 20 < k) : impl_MatesOf.f k n cs hs vs s = some (matesX n cs hs vs s):=rfl

-- LIB netmeet
theorem le_asc {l : List Int} (h1 : l.Pairwise (· ≤ ·)) (h2 : l.Nodup) : l.Pairwise (· < ·):=by
 rw [List.pairwise_iff_getElem] at h1 ⊢
 intro i j hi hj hij
 have a:=h1 i j hi hj hij
 have b : l[i] ≠ l[j]:=(List.pairwise_iff_getElem.1 h2) i j hi hj hij
 omega
theorem tree_asc {N : Nat} {cs : List S83} (hv : cabsB (N : Int) cs = true) : (treeX (N : Int) cs).Pairwise (· < ·):=by
 have h:=tree_nodup hv
 unfold treeX at h ⊢
 rw [if_pos hv,Int.toNat_natCast] at h ⊢
 exact le_asc (tI_sorted _ _ _ _) h
section
variable {N : Nat} {cs : List S83} {hs vs : List Int} {F : Nat}
theorem hm_rd (hn : netB (N : Int) cs hs vs = true) {S : Nat} (hS : S < hs.length) : rd hs S = (hmN hs S : Int) ∧ hmN hs S < N:=by
 have:=(netB_more hn).2.2.2.1 S hS
 unfold hmN
 exact ⟨by omega,by omega⟩
theorem mates_mem (hn : netB (N : Int) cs hs vs = true) (hF : F < hs.length) (o : Int) : o ∈ matesX (N : Int) cs hs vs F ↔ ∃ S : Nat,o = (S : Int) ∧ S < hs.length ∧ S ≠ F ∧ rd vs S = rd vs F ∧ gD (rootsL N cs) (hmN hs S) = gD (rootsL N cs) (hmN hs F):=by
 unfold matesX
 rw [if_pos ⟨hn,by omega,by omega⟩,filM_mem0]
 unfold mateB
 simp only [Bool.and_eq_true,decide_eq_true_eq,Int.toNat_natCast]
 constructor
 ·rintro ⟨h0,h1,h2,h3,h4⟩
  obtain ⟨S,rfl⟩:=Int.eq_ofNat_of_zero_le h0
  rw [(hm_rd hn (show S < hs.length by omega)).1,(hm_rd hn hF).1,rd_gD,rd_gD] at h4
  exact ⟨S,rfl,by omega,by omega,h3,h4⟩
 ·rintro ⟨S,rfl,h1,h2,h3,h4⟩
  refine ⟨by omega,by omega,by omega,h3,?_⟩
  rw [(hm_rd hn h1).1,(hm_rd hn hF).1,rd_gD,rd_gD]
  exact h4
theorem flood_mem (hn : netB (N : Int) cs hs vs = true) (hF : F < hs.length) (j : Int) : j ∈ floodX (N : Int) cs hs vs F ↔ ∃ e o,TJ N cs j e o ∧ gD (rootsL N cs) e = gD (rootsL N cs) (hmN hs F):=by
 have hv:=(netB_facts hn).1
 obtain ⟨f1,f2,f3,f4⟩:=cabsB_facts hv
 unfold floodX
 rw [if_pos ⟨hn,by omega,by omega⟩,List.mem_filter]
 unfold floodB
 rw [decide_eq_true_eq,Int.toNat_natCast,(hm_rd hn hF).1,rd_gD]
 constructor
 ·rintro ⟨h1,h2⟩
  obtain ⟨h3,h4⟩:=treeX_in h1
  obtain ⟨K,rfl⟩:=Int.eq_ofNat_of_zero_le h3
  have hK : K < cs.length:=by omega
  have hc:=f4 _ (List.getElem_mem hK)
  rw [← rdCab_get cs K hK] at hc
  obtain ⟨b,hb⟩:=Int.eq_ofNat_of_zero_le hc.1
  rw [hb,rd_gD] at h2
  rcases oth_tj hv h1 b with ⟨o,h5,h6⟩ | ⟨h5,_⟩
  ·exact ⟨b,o,h6,h2⟩
  ·unfold othX at h5
   rw [if_pos hb.symm] at h5
   cases h5
 ·rintro ⟨e,o,h1,h2⟩
  refine ⟨tj_tree hv h1,?_⟩
  rcases oth_ends (tj_oth hv h1) with ⟨h3,h4⟩ | ⟨h3,h4⟩
  ·rw [← h3,rd_gD];exact h2
  ·rw [← h4,rd_gD,← h1.root hv];exact h2
theorem flood_asc (hn : netB (N : Int) cs hs vs = true) : (floodX (N : Int) cs hs vs F).Pairwise (· < ·):=by
 unfold floodX
 split
 ·exact (tree_asc (netB_facts hn).1).filter _
 ·exact List.Pairwise.nil
theorem way_sep {a b : Nat} {j : Int} : wayB N cs a b j = true ↔ Sep N cs j a b:=by
 unfold wayB Sep
 rw [← hasL_iff,← hasL_iff]
 cases hasL (upsL N cs a) j <;> cases hasL (upsL N cs b) j <;> decide
theorem way_mem (hn : netB (N : Int) cs hs vs = true) (hF : F < hs.length) {R : Nat} (hR : R < hs.length) (hr : gD (rootsL N cs) (hmN hs R) = gD (rootsL N cs) (hmN hs F)) (j : Int) : j ∈ wayX (N : Int) cs hs vs F R ↔ 0 ≤ j ∧ j < cs.length ∧ Sep N cs j (hmN hs F) (hmN hs R):=by
 unfold wayX
 have e1:=(hm_rd hn hF).1
 have e2:=(hm_rd hn hR).1
 rw [if_pos ⟨hn,⟨by omega,by omega⟩,⟨by omega,by omega⟩,by rw [e1,e2,Int.toNat_natCast,rd_gD,rd_gD];exact hr.symm⟩,filM_mem0,e1,e2,Int.toNat_natCast,Int.toNat_natCast,Int.toNat_natCast,way_sep]
theorem way_asc (a b : Int) : (wayX (N : Int) cs hs vs a b).Pairwise (· < ·):=by
 unfold wayX
 split
 ·exact filM_asc _ _ _
 ·exact List.Pairwise.nil
theorem mates_asc (a : Int) : (matesX (N : Int) cs hs vs a).Pairwise (· < ·):=by
 unfold matesX
 split
 ·exact filM_asc _ _ _
 ·exact List.Pairwise.nil
end
theorem asc_len (l : List Int) : ∀ lo hi : Int,l.Pairwise (· < ·) → (∀ x ∈ l,lo ≤ x ∧ x < hi) → (l.length : Int) ≤ hi - lo ∨ l = []:=by
 induction l with
 | nil => exact fun _ _ _ _ => Or.inr rfl
 | cons x t ih =>
  intro lo hi hp hm
  rw [List.pairwise_cons] at hp
  have hx:=hm x List.mem_cons_self
  left
  rw [List.length_cons]
  rcases ih (x + 1) hi hp.2 (fun y hy => ⟨by have:=hp.1 y hy;omega,(hm y (List.mem_cons_of_mem _ hy)).2⟩) with h | h
  ·omega
  ·subst h
   simp only [List.length_nil]
   omega
structure MeetOK (n : Int) (cs : List S83) (hs vs : List Int) (a c : Int) (tk ov : List Int) : Prop where
 t_len : tk.length ≤ 20
 o_len : ov.length ≤ 20
 t_all : c = 15 → tk = matesX n cs hs vs a
 t_one : c ∈ matesX n cs hs vs a → tk = [c]
 t_no : c ≠ 15 → c ∉ matesX n cs hs vs a → tk = []
 o_sub : ∀ j ∈ ov,j ∈ floodX n cs hs vs a
 o_all : c = 15 → ov = floodX n cs hs vs a
 o_way : c ∈ matesX n cs hs vs a → ∀ j ∈ wayX n cs hs vs a c,j ∈ ov
theorem meet_ok {N : Nat} {cs : List S83} {hs vs : List Int} (hn : netB (N : Int) cs hs vs = true) {h : S37} {F : Nat} (hFl : F < hs.length) {T : TabN} {tk ov : List Int} (f : FrameOK N cs hs vs h F T tk ov) : MeetOK (N : Int) cs hs vs (F : Int) h.f1 tk ov:=by
 have hv:=(netB_facts hn).1
 have hh:=(netB_more hn).2.1
 have hc:=(netB_more hn).1
 constructor
 ·rcases asc_len tk 0 hs.length f.tka (fun x hx => by obtain ⟨S,rfl,h1,_⟩:=(f.tk x).1 hx;omega) with h | h
  ·omega
  ·rw [h];simp
 ·rcases asc_len ov 0 cs.length f.ova (fun x hx => by obtain ⟨e,o,h1,_⟩:=f.ov x hx;exact tj_pos h1) with h | h
  ·omega
  ·rw [h];simp
 ·intro h15
  refine asc_uniq f.tka (mates_asc _) (fun s => (f.tk s).trans (Iff.trans ?_ (mates_mem hn hFl s).symm))
  exact ⟨fun ⟨S,a1,a2,a3,_,a5,a6⟩ => ⟨S,a1,a2,a3,a5,a6⟩,fun ⟨S,a1,a2,a3,a5,a6⟩ => ⟨S,a1,a2,a3,Or.inr h15,a5,a6⟩⟩
 ·intro hm
  obtain ⟨R,a1,a2,a3,a5,a6⟩:=(mates_mem hn hFl _).1 hm
  refine asc_uniq f.tka (List.pairwise_singleton _ _) (fun s => (f.tk s).trans ?_)
  rw [List.mem_singleton]
  constructor
  ·rintro ⟨S,rfl,b2,b3,b4,b5,b6⟩
   rcases b4 with b4 | b4
   ·exact b4.symm
   ·omega
  ·rintro rfl
   exact ⟨R,a1,a2,a3,Or.inl a1,a5,a6⟩
 ·intro h15 hm
  refine List.eq_nil_iff_forall_not_mem.2 (fun s hs' => ?_)
  obtain ⟨S,rfl,b2,b3,b4,b5,b6⟩:=(f.tk s).1 hs'
  exact hm ((mates_mem hn hFl _).2 ⟨S,b4.resolve_right h15,b2,b3,b5,b6⟩)
 ·exact fun j hj => (flood_mem hn hFl j).2 (f.ov j hj)
 ·intro h15
  refine asc_uniq f.ova (flood_asc hn) (fun j => ⟨fun hj => (flood_mem hn hFl j).2 (f.ov j hj),fun hj => ?_⟩)
  obtain ⟨e,o,h1,h2⟩:=(flood_mem hn hFl j).1 hj
  have hl:=h1.lt hv
  by_cases c : Sep N cs j e (hmN hs F)
  ·exact f.all h15 j e hl.1 h2 (sep_symm c)
  ·refine f.all h15 j o hl.2 (by rw [← h1.root hv];exact h2) (sep_symm ?_)
   exact Classical.not_not.1 (fun h3 => c ((sep_flip hv h1 _).2 h3))
 ·intro hm j hj
  obtain ⟨R,a1,a2,a3,a5,a6⟩:=(mates_mem hn hFl _).1 hm
  rw [a1] at hj
  exact f.way R a1 a2 a5 a6 j ((way_mem hn hFl a2 a6 j).1 hj).2.2
theorem meet_slim {N : Nat} {cs : List S83} {hs vs : List Int} (hn : netB (N : Int) cs hs vs = true) {h : S37} {F : Nat} (hF : h.f0 = (F : Int)) (hFl : F < hs.length) {T : TabN} {tk ov : List Int} (f : FrameOK N cs hs vs h F T tk ov) {g : S37} (hg : LrnOK N cs hs vs g T) (h0 : g.f0 = h.f1) (h1 : g.f1 = 15 ∨ g.f1 = h.f0) (hm : h.f1 ∈ matesX (N : Int) cs hs vs h.f0) :
  ov = wayX (N : Int) cs hs vs h.f0 h.f1:=by
 rw [hF] at hm h1 ⊢
 obtain ⟨R,a1,a2,a3,a5,a6⟩:=(mates_mem hn hFl _).1 hm
 rw [a1]
 have hsl:=f.slim R a1 a2 a3 a5 a6 (fun c hc hrt hP => by
  have:=hg R (h0.trans a1) c hc (hrt.trans a6.symm) (h1.imp id (fun e => ⟨F,e,hFl,a5.symm,a6.symm,fun j ⟨x1,x2⟩ => hP j ⟨sep_symm x2,sep_symm x1⟩⟩))
  rw [a5] at this
  exact this)
 refine asc_uniq f.ova (way_asc _ _) (fun j => ⟨fun hj => ?_,fun hj => f.way R a1 a2 a5 a6 j ((way_mem hn hFl a2 a6 j).1 hj).2.2⟩)
 obtain ⟨e,o,h3,_⟩:=f.ov j hj
 have:=tj_pos h3
 exact (way_mem hn hFl a2 a6 j).2 ⟨this.1,this.2,hsl j hj⟩
theorem getD_row (l : List (List Int)) (i : Nat) (h : i < l.length) : l.getD i [] = l[i]:=by simp [List.getD,h]
theorem run_meet {n : Int} {cs : List S83} {hs vs : List Int} {l : List S37} (h : runB n cs hs vs l = true) : ∃ tk ov : List (List Int), impl_RunNet.f n cs hs vs l = some (tk, ov, true) ∧ spec_RunNet.f n cs hs vs l = some (tk, ov, true) ∧ tk.length = l.length ∧ ov.length = l.length ∧ l.length ≤ 60 ∧ netB n cs hs vs = true ∧ (∀ r ∈ tk, r.length ≤ 20) ∧ (∀ r ∈ ov, r.length ≤ 20) ∧
  ∀ i (hi : i < l.length),(l[i].f1 < 15 ∨ l[i].f1 = 15) ∧ MeetOK n cs hs vs l[i].f0 l[i].f1 (tk.getD i []) (ov.getD i []) ∧ ∀ g ∈ l.take i,g.f0 = l[i].f1 → (g.f1 = 15 ∨ g.f1 = l[i].f0) → l[i].f1 ∈ matesX n cs hs vs l[i].f0 → ov.getD i [] = wayX n cs hs vs l[i].f0 l[i].f1:=by
 have h':=h
 unfold runB at h'
 rw [Bool.and_eq_true,Bool.and_eq_true,decide_eq_true_eq] at h'
 obtain ⟨hn,hl,hall⟩:=h'
 have hv:=cabsB_facts (netB_facts hn).1
 obtain ⟨N,rfl⟩ : ∃ N : Nat,n = (N : Int):=⟨n.toNat,by omega⟩
 obtain ⟨fin,e1,e2,e3,e4,e5⟩:=frames_start N cs hs vs l h
 refine ⟨fin.1,fin.2,?_,?_,e3,e4,hl,hn,fun r hr => ?_,fun r hr => ?_,fun i hi => ?_⟩
 ·unfold impl_RunNet.f;rw [if_pos h,e1];rfl
 ·unfold spec_RunNet.f;rw [if_pos h,e2];rfl
 ·obtain ⟨i,hi,rfl⟩:=List.mem_iff_getElem.1 hr
  obtain ⟨F,T,r1,r2,r3,r4⟩:=e5 i (by omega)
  have:=(meet_ok hn r2 r3).t_len
  rw [getD_row _ i hi] at this
  exact this
 ·obtain ⟨i,hi,rfl⟩:=List.mem_iff_getElem.1 hr
  obtain ⟨F,T,r1,r2,r3,r4⟩:=e5 i (by omega)
  have:=(meet_ok hn r2 r3).o_len
  rw [getD_row _ i hi] at this
  exact this
 ·obtain ⟨F,T,r1,r2,r3,r4⟩:=e5 i hi
  refine ⟨?_,by rw [r1];exact meet_ok hn r2 r3,fun g hg h0 h1 hm => meet_slim hn r1 r2 r3 (r4 g hg) h0 h1 hm⟩
  have hx:=List.all_eq_true.1 hall _ (List.getElem_mem hi)
  have hh:=(netB_more hn).2.1
  unfold hopB stB at hx
  rw [Bool.and_eq_true,Bool.or_eq_true,decide_eq_true_eq,decide_eq_true_eq,beq_iff_eq] at hx
  omega
theorem run_none {n : Int} {cs : List S83} {hs vs : List Int} {l : List S37} (h : runB n cs hs vs l = false) : impl_RunNet.f n cs hs vs l = some ([],[],false) ∧ spec_RunNet.f n cs hs vs l = some ([],[],false):=by
 unfold impl_RunNet.f spec_RunNet.f
 rw [h]
 exact ⟨if_neg (by decide),if_neg (by decide)⟩

-- LIB pwnints
theorem wnInts_at (a b : List Int) (hl : a.length = b.length) (hm : a.length ≤ 9223372036854775807) (d : Nat) : ∀ (k i : Nat),i + d = a.length → d < k → laws_wnInts.l0 k b a a.length (i : Int) = some (decide (a.drop i = b.drop i)):=by
 induction d with
 | zero =>
  intro k i h1 hk
  obtain ⟨k,rfl⟩ : ∃ m,k = m + 1:=⟨k - 1,by omega⟩
  simp only [laws_wnInts.l0]
  rw [if_neg (by omega),List.drop_of_length_le (by omega),List.drop_of_length_le (by omega)]
  simp
 | succ d ih =>
  intro k i h1 hk
  obtain ⟨k,rfl⟩ : ∃ m,k = m + 1:=⟨k - 1,by omega⟩
  simp only [laws_wnInts.l0]
  rw [if_pos (by omega),if_pos (by omega),if_pos (by omega),if_pos (by omega),rd_get a i (by omega),rd_get b i (by omega),List.drop_eq_getElem_cons (show i < a.length by omega),List.drop_eq_getElem_cons (show i < b.length by omega),wrap_succ (show i < a.length by omega) (by omega),ih k (i + 1) (by omega) (by omega)]
  by_cases c : b[i] = a[i]
  ·rw [if_pos c,c];congr 1;rw [decide_eq_decide];exact ⟨fun h => by rw [h],fun h => (List.cons.inj h).2⟩
  ·rw [if_neg c,decide_eq_false (fun h => c (List.cons.inj h).1.symm)]

-- LIB pwnints
theorem wnInts_eq (a b : List Int) (hm : a.length ≤ 9223372036854775807) (k : Nat) (hk : a.length < k) : laws_wnInts.f k a b = some (decide (a = b)):=by
 unfold laws_wnInts.f
 by_cases c : a.length = b.length
 ·rw [if_pos (by omega)]
  exact wnInts_at a b c hm a.length k 0 (by omega) hk
 ·rw [if_neg (by omega),decide_eq_false (fun h => c (by rw [h]))]

-- LIB pwnpairs
theorem rdL_get (l : List (List Int)) (i : Nat) : rd_L4 l (i : Int) = l.getD i []:=by unfold rd_L4;rw [Int.toNat_natCast]

-- LIB pwnpairs
theorem wnPairs_at (l : List (List Int)) (hl : l.length ≤ 100) (hr : ∀ r ∈ l,r.length ≤ 20) (d : Nat) : ∀ (k i : Nat),i + d = l.length → d + 100 < k → laws_wnPairs.l0 k l l l.length (i : Int) = some true:=by
 induction d with
 | zero =>
  intro k i h1 hk
  obtain ⟨k,rfl⟩ : ∃ m,k = m + 1:=⟨k - 1,by omega⟩
  simp only [laws_wnPairs.l0]
  rw [if_neg (by omega)]
 | succ d ih =>
  intro k i h1 hk
  obtain ⟨k,rfl⟩ : ∃ m,k = m + 1:=⟨k - 1,by omega⟩
  have hi : i < l.length:=by omega
  have h20 : (l.getD i []).length ≤ 20:=by rw [show l.getD i [] = l[i] by simp [List.getD,hi]];exact hr _ (List.getElem_mem hi)
  simp only [laws_wnPairs.l0]
  rw [if_pos (by omega),if_pos (by omega),if_pos (by omega),if_pos (by omega),rdL_get,wnInts_eq _ _ (by omega) k (by omega),Option.bind_some,if_pos (by simp),wrap_succ hi (by omega)]
  exact ih k (i + 1) (by omega) (by omega)

end Go.Proofs.Ytblcnbnphjnhdaa.PAll
