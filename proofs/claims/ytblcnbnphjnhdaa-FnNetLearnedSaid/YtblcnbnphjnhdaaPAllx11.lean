/- Proved here: contracts of functions of the given program, or lemmas on them, for the laws of this seat. Written by xprint.py, a program of this session, on the ground of the kit's print; parts by hand: wip/x/ext. -/
import Derived.Test.YtblcnbnphjnhdaaPAllx0
import Derived.Test.YtblcnbnphjnhdaaPAllx1
import Derived.Test.YtblcnbnphjnhdaaPAllx2
import Derived.Test.YtblcnbnphjnhdaaPAllx5
import Derived.Test.YtblcnbnphjnhdaaPAllx6
import Derived.Test.YtblcnbnphjnhdaaPAllx7
import Derived.Test.YtblcnbnphjnhdaaPAllx8
import Derived.Test.YtblcnbnphjnhdaaPAllx9
import Derived.Test.YtblcnbnphjnhdaaPAllx10
import Derived.Test.YtblcnbnphjnhdaaPAllx12
import Derived.Test.YtblcnbnphjnhdaaPAllx13
namespace Go.Proofs.Ytblcnbnphjnhdaa.PAll
open Go.RowKit Go.Proofs.YtblcnbnphjnhdaaW.PrintWords Go.Proofs.YtblcnbnphjnhdaaW.PrintLast Go.Proofs.YtblcnbnphjnhdaaW.PrintMore
attribute [local go_sem] max2_int min2_int max_two min_two max_three min_three max_four min_four   -- for this text's walks alone
set_option linter.unusedVariables false
set_option linter.unusedSimpArgs false

-- LIB way3
theorem iindex_at (l : List Int) (x : Int) (hl : l.length ≤ 1000000) (d : Nat) : ∀ (k i : Nat),i + d = l.length → d < k → ∃ z,slices_Index_int_int.l0 k l x l.length (i : Int) = some z ∧ decide (z ≥ 0) = hasL (l.drop i) x:=by
 induction d with
 | zero =>
  intro k i h1 hk
  obtain ⟨k,rfl⟩ : ∃ m,k = m + 1:=⟨k - 1,by omega⟩
  simp only [slices_Index_int_int.l0]
  rw [if_neg (by omega),List.drop_of_length_le (by omega)]
  exact ⟨-1,rfl,rfl⟩
 | succ d ih =>
  intro k i h1 hk
  obtain ⟨k,rfl⟩ : ∃ m,k = m + 1:=⟨k - 1,by omega⟩
  have hi : i < l.length:=by omega
  simp only [slices_Index_int_int.l0]
  rw [if_pos (by omega),if_pos (by omega),if_pos (by omega),rd_get l i hi,wrap_succ hi (by omega),List.drop_eq_getElem_cons hi,hasL_cons]
  by_cases c : x = l[i]
  ·rw [if_pos c,decide_eq_true c.symm,Bool.true_or]
   exact ⟨(i : Int),rfl,decide_eq_true (by omega)⟩
  ·rw [if_neg c,decide_eq_false (fun h => c h.symm),Bool.false_or]
   exact ih k (i + 1) (by omega) (by omega)

-- LIB way3
theorem icontains_eq (l : List Int) (x : Int) (hl : l.length ≤ 1000000) (k : Nat) (hk : l.length < k) : slices_Contains_int_int.f k l x = some (hasL l x):=by
 obtain ⟨z,h1,h2⟩:=iindex_at l x hl l.length k 0 (by omega) hk
 unfold slices_Contains_int_int.f slices_Index_int_int.f
 rw [show (slices_Index_int_int.l0 k l x (l.length : Int) 0) = some z from h1,Option.bind_some,h2,List.drop_zero]

-- LIB way3
theorem iway_l1 (x y : List Int) (hx : x.length ≤ 100) (hy : y.length ≤ 100) (d : Nat) : ∀ (k i : Nat) (acc : List Int), i + d = y.length → acc.length + d ≤ 1000 → d + 200 < k →
  impl_TreeWay.l1 k x acc y y.length (i : Int) = (slices_Sort_int_int.f (k - d - 1) (acc ++ (y.drop i).filter (fun c => !hasL x c))).bind fun t => some t:=by
 induction d with
 | zero =>
  intro k i acc h1 h2 hk
  obtain ⟨k,rfl⟩ : ∃ m,k = m + 1:=⟨k - 1,by omega⟩
  simp only [impl_TreeWay.l1]
  rw [if_neg (by omega),List.drop_of_length_le (by omega),List.filter_nil,List.append_nil]
  rfl
 | succ d ih =>
  intro k i acc h1 h2 hk
  obtain ⟨k,rfl⟩ : ∃ m,k = m + 1:=⟨k - 1,by omega⟩
  have hi : i < y.length:=by omega
  simp only [impl_TreeWay.l1]
  rw [if_pos (by omega),if_pos (by omega),if_pos (by omega),rd_get y i hi,icontains_eq x _ (by omega) k (by omega),Option.bind_some,wrap_succ hi (by omega),List.drop_eq_getElem_cons hi,show k + 1 - (d + 1) - 1 = k - d - 1 by omega]
  cases c : hasL x y[i] with
  | true => rw [if_pos rfl,List.filter_cons_of_neg (by simp [c])];exact ih k (i + 1) acc (by omega) (by omega) (by omega)
  | false => rw [if_neg (by decide),if_pos (by omega),List.filter_cons_of_pos (by simp [c]),ih k (i + 1) _ (by omega) (by simp;omega) (by omega),List.append_assoc];rfl

-- LIB way3
theorem iway_l0 (x y : List Int) (hx : x.length ≤ 100) (hy : y.length ≤ 100) (d : Nat) : ∀ (k i : Nat) (acc : List Int), i + d = x.length → acc.length + d ≤ 1000 → d + 200 < k →
  impl_TreeWay.l0 k x y acc x x.length (i : Int) = impl_TreeWay.l1 (k - d - 1) x (acc ++ (x.drop i).filter (fun c => !hasL y c)) y y.length 0:=by
 induction d with
 | zero =>
  intro k i acc h1 h2 hk
  obtain ⟨k,rfl⟩ : ∃ m,k = m + 1:=⟨k - 1,by omega⟩
  simp only [impl_TreeWay.l0]
  rw [if_neg (by omega),List.drop_of_length_le (by omega),List.filter_nil,List.append_nil]
  rfl
 | succ d ih =>
  intro k i acc h1 h2 hk
  obtain ⟨k,rfl⟩ : ∃ m,k = m + 1:=⟨k - 1,by omega⟩
  have hi : i < x.length:=by omega
  simp only [impl_TreeWay.l0]
  rw [if_pos (by omega),if_pos (by omega),if_pos (by omega),rd_get x i hi,icontains_eq y _ (by omega) k (by omega),Option.bind_some,wrap_succ hi (by omega),List.drop_eq_getElem_cons hi,show k + 1 - (d + 1) - 1 = k - d - 1 by omega]
  cases c : hasL y x[i] with
  | true => rw [if_pos rfl,List.filter_cons_of_neg (by simp [c])];exact ih k (i + 1) acc (by omega) (by omega) (by omega)
  | false => rw [if_neg (by decide),if_pos (by omega),List.filter_cons_of_pos (by simp [c]),ih k (i + 1) _ (by omega) (by simp;omega) (by omega),List.append_assoc];rfl

-- LIB way3
theorem map_filter_not {u : Nat → Int} {p t v : List Nat} (hu : ∀ x ∈ p ++ t,∀ y ∈ v,u x = u y → x = y) (hp : ∀ x ∈ p,x ∉ v) (ht : ∀ x ∈ t,x ∈ v) : ((p ++ t).map u).filter (fun c => !hasL (v.map u) c) = p.map u:=by
 rw [List.map_append,List.filter_append]
 have h1 : (p.map u).filter (fun c => !hasL (v.map u) c) = p.map u:=by
  rw [List.filter_eq_self]
  intro c hc
  obtain ⟨x,hx,rfl⟩:=List.mem_map.1 hc
  cases e : hasL (v.map u) (u x) with
  | false => rfl
  | true =>
   obtain ⟨y,hy,hxy⟩:=List.mem_map.1 ((hasL_iff _ _).1 e)
   have:=hu x (List.mem_append_left _ hx) y hy hxy.symm
   exact absurd (this ▸ hy) (hp x hx)
 have h2 : (t.map u).filter (fun c => !hasL (v.map u) c) = []:=by
  rw [List.filter_eq_nil_iff]
  intro c hc
  obtain ⟨x,hx,rfl⟩:=List.mem_map.1 hc
  rw [(hasL_iff _ _).2 (List.mem_map.2 ⟨x,ht x hx,rfl⟩)]
  decide
 rw [h1,h2,List.append_nil]

-- LIB way3
theorem nodup_map {u : Nat → Int} {l : List Nat} (h : l.Nodup) (hu : ∀ x ∈ l,∀ y ∈ l,u x = u y → x = y) : (l.map u).Nodup:=by
 induction l with
 | nil => exact List.Pairwise.nil
 | cons x l ih =>
  obtain ⟨h1,h2⟩:=List.nodup_cons.1 h
  rw [List.map_cons,List.nodup_cons]
  refine ⟨fun hm => ?_,ih h2 (fun y hy z hz => hu y (List.mem_cons_of_mem _ hy) z (List.mem_cons_of_mem _ hz))⟩
  obtain ⟨y,hy,e⟩:=List.mem_map.1 hm
  exact h1 ((hu x List.mem_cons_self y (List.mem_cons_of_mem _ hy) e.symm) ▸ hy)

-- LIB way3
theorem way_parts {N : Nat} {cs : List S83} (hv : cabsB (N : Int) cs = true) {a b : Nat} (ha : a < N) (hb : b < N) (hr : gD (rootsL N cs) a = gD (rootsL N cs) b) : ∃ p q m, (upsL N cs a).filter (fun c => !hasL (upsL N cs b) c) = p.map (upN N cs) ∧ (upsL N cs b).filter (fun c => !hasL (upsL N cs a) c) = q.map (upN N cs) ∧
  Ch (upN N cs) (nxN N cs) a p m ∧ Ch (upN N cs) (nxN N cs) b q m ∧ p.length + q.length < N ∧ (∀ x ∈ p ++ q,x < N ∧ 0 ≤ upN N cs x ∧ gD (rootsL N cs) x = gD (rootsL N cs) a) ∧ ((p ++ q).map (upN N cs)).Nodup ∧ (∀ i,wayB N cs a b i = hasL ((p ++ q).map (upN N cs)) i):=by
 have hs:=sound_of hv
 obtain ⟨f1,f2,f3,f4⟩:=cabsB_facts hv
 obtain ⟨w,r,q1,q2,q3,q4,q5,q6,q7,q8⟩:=way_up hv ha
 obtain ⟨v,r2,g1,g2,g3,g4,g5,g6,g7,g8⟩:=way_up hv hb
 obtain rfl : r = r2:=by omega
 obtain ⟨p,q,t,m,rfl,rfl,m3,m4,m5,m6⟩:=ch_meet (upOk_of hv) hb g1 g2 q1 ha
 have eu : upsL N cs a = (p ++ t).map (upN N cs):=by unfold upsL;rw [chL_eq q1 q2 50 (by omega)]
 have ev : upsL N cs b = (q ++ t).map (upN N cs):=by unfold upsL;rw [chL_eq g1 g2 50 (by omega)]
 have h1:=map_filter_not (u:=upN N cs) (p:=p) (t:=t) (v:=q ++ t) (fun x hx y _ e => up_once2 hs x y (q7 x hx).2.1 e) m5 (fun x hx => List.mem_append_right _ hx)
 have h2:=map_filter_not (u:=upN N cs) (p:=q) (t:=t) (v:=p ++ t) (fun x hx y _ e => up_once2 hs x y (g7 x hx).2.1 e) m6 (fun x hx => List.mem_append_right _ hx)
 have hmem : ∀ x ∈ p ++ q,x < N ∧ 0 ≤ upN N cs x ∧ gD (rootsL N cs) x = gD (rootsL N cs) a ∧ x ≠ r:=by
  intro x hx
  rcases List.mem_append.1 hx with hx | hx
  ·have hx2:=List.mem_append_left t hx
   have:=q7 x hx2
   exact ⟨this.1,this.2.1,by omega,fun e => q8 (e ▸ hx2)⟩
  ·have hx2:=List.mem_append_left t hx
   have:=g7 x hx2
   exact ⟨this.1,this.2.1,by omega,fun e => g8 (e ▸ hx2)⟩
 have hnd : (p ++ q).Nodup:=by
  rw [List.nodup_append]
  refine ⟨(List.nodup_append.1 q5).1,(List.nodup_append.1 g5).1,fun x hx y hy e => ?_⟩
  subst e
  exact m5 x hx (List.mem_append_left _ hy)
 have hlen:=nodup_len N (r :: (p ++ q)) (List.Pairwise.cons (fun x hx e => (hmem x hx).2.2.2 e.symm) hnd) (fun x hx => by
  rcases List.mem_cons.1 hx with rfl | hx
  ·exact q3
  ·exact (hmem x hx).1)
 rw [List.length_cons,List.length_append] at hlen
 refine ⟨p,q,m,by rw [eu,ev];exact h1,by rw [eu,ev];exact h2,m3,m4,by omega,fun x hx => ⟨(hmem x hx).1,(hmem x hx).2.1,(hmem x hx).2.2.1⟩,nodup_map hnd (fun x hx y _ e => up_once2 hs x y (hmem x hx).2.1 e),fun i => ?_⟩
 unfold wayB
 rw [eu,ev]
 rw [Bool.eq_iff_iff,hasL_iff,bne_iff_ne]
 have key : ∀ x ∈ p ++ q,∀ y ∈ p ++ t ++ q,upN N cs x = upN N cs y → x = y:=fun x hx y _ e => up_once2 hs x y (hmem x hx).2.1 e
 constructor
 ·intro hne
  by_cases c1 : i ∈ (p ++ t).map (upN N cs)
  ·by_cases c2 : i ∈ (q ++ t).map (upN N cs)
   ·exact absurd (by rw [(hasL_iff _ _).2 c1,(hasL_iff _ _).2 c2]) hne
   ·obtain ⟨x,hx,rfl⟩:=List.mem_map.1 c1
    rcases List.mem_append.1 hx with hx | hx
    ·exact List.mem_map.2 ⟨x,List.mem_append_left _ hx,rfl⟩
    ·exact absurd (List.mem_map.2 ⟨x,List.mem_append_right _ hx,rfl⟩) c2
  ·by_cases c2 : i ∈ (q ++ t).map (upN N cs)
   ·obtain ⟨x,hx,rfl⟩:=List.mem_map.1 c2
    rcases List.mem_append.1 hx with hx | hx
    ·exact List.mem_map.2 ⟨x,List.mem_append_right _ hx,rfl⟩
    ·exact absurd (List.mem_map.2 ⟨x,List.mem_append_right _ hx,rfl⟩) c1
   ·refine absurd ?_ hne
    have e1 : hasL ((p ++ t).map (upN N cs)) i = false:=Bool.eq_false_iff.2 (fun h => c1 ((hasL_iff _ _).1 h))
    have e2 : hasL ((q ++ t).map (upN N cs)) i = false:=Bool.eq_false_iff.2 (fun h => c2 ((hasL_iff _ _).1 h))
    rw [e1,e2]
 ·intro hm
  obtain ⟨x,hx,rfl⟩:=List.mem_map.1 hm
  rcases List.mem_append.1 hx with hx | hx
  ·have e1:=(hasL_iff ((p ++ t).map (upN N cs)) _).2 (List.mem_map.2 ⟨x,List.mem_append_left _ hx,rfl⟩)
   have e2 : hasL ((q ++ t).map (upN N cs)) (upN N cs x) = false:=Bool.eq_false_iff.2 (fun h => by
    obtain ⟨y,hy,e⟩:=List.mem_map.1 ((hasL_iff _ _).1 h)
    have:=up_once2 hs x y (hmem x (List.mem_append_left _ hx)).2.1 e.symm
    exact m5 x hx (this ▸ hy))
   rw [e1,e2];decide
  ·have e2:=(hasL_iff ((q ++ t).map (upN N cs)) _).2 (List.mem_map.2 ⟨x,List.mem_append_left _ hx,rfl⟩)
   have e1 : hasL ((p ++ t).map (upN N cs)) (upN N cs x) = false:=Bool.eq_false_iff.2 (fun h => by
    obtain ⟨y,hy,e⟩:=List.mem_map.1 ((hasL_iff _ _).1 h)
    have:=up_once2 hs x y (hmem x (List.mem_append_right _ hx)).2.1 e.symm
    exact m6 x hx (this ▸ hy))
   rw [e1,e2];decide

-- LIB way3
theorem way_facts {n : Int} {cs : List S83} {hs vs : List Int} {a b : Int} (h : netB n cs hs vs = true) (ha : 0 ≤ a ∧ a < hs.length) (hb : 0 ≤ b ∧ b < hs.length) : ∃ (N A B : Nat),n = (N : Int) ∧ N ≤ 8 ∧ cs.length ≤ 20 ∧ hs.length ≤ 15 ∧ cabsB (N : Int) cs = true ∧ A < N ∧ B < N ∧ rd hs a = (A : Int) ∧ rd hs b = (B : Int):=by
 obtain ⟨q1,q2,q3,q4⟩:=netB_facts h
 obtain ⟨p1,p2,p3,p4⟩:=cabsB_facts q1
 obtain ⟨N,rfl⟩ : ∃ N : Nat,n = (N : Int):=⟨n.toNat,by omega⟩
 obtain ⟨x,hx⟩:=Int.eq_ofNat_of_zero_le ha.1
 obtain ⟨y,hy⟩:=Int.eq_ofNat_of_zero_le hb.1
 have hx2 : x < hs.length:=by omega
 have hy2 : y < hs.length:=by omega
 have g1:=q4 _ (List.getElem_mem hx2)
 have g2:=q4 _ (List.getElem_mem hy2)
 exact ⟨N,(hs[x]).toNat,(hs[y]).toNat,rfl,by omega,p3,q2,q1,by omega,by omega,by rw [hx,rd_get hs x hx2];omega,by rw [hy,rd_get hs y hy2];omega⟩

-- LIB way3
theorem way_perm {N : Nat} {cs : List S83} (hv : cabsB (N : Int) cs = true) {a b : Nat} {l : List Nat} (h1 : ∀ x ∈ l,0 ≤ upN N cs x) (h2 : (l.map (upN N cs)).Nodup) (h3 : ∀ i,wayB N cs a b i = hasL (l.map (upN N cs)) i) : (l.map (upN N cs)).Perm (filM (wayB N cs a b) cs.length 0):=by
 refine (List.perm_ext_iff_of_nodup h2 ((filM_asc _ _ _).imp (fun h e => by omega))).2 (fun i => ?_)
 rw [filM_mem0,h3,hasL_iff]
 constructor
 ·intro hm
  refine ⟨?_,?_,hm⟩
  ·obtain ⟨x,hx,rfl⟩:=List.mem_map.1 hm;exact h1 x hx
  ·obtain ⟨x,hx,rfl⟩:=List.mem_map.1 hm;exact (upX_lt cs _ _).2
 ·exact fun h => h.2.2

-- LIB way3
theorem iway_eq (n : Int) (cs : List S83) (hs vs : List Int) (a b : Int) (k : Nat) (hk : 1000 < k) : impl_TreeWay.f k n cs hs vs a b = some (wayX n cs hs vs a b):=by
 unfold impl_TreeWay.f wayX
 rw [istation_eq,Option.bind_some]
 obtain ⟨k,rfl⟩ : ∃ m,k = m + 1:=⟨k - 1,by omega⟩
 by_cases c1 : netB n cs hs vs = true ∧ 0 ≤ a ∧ a < hs.length
 ·rw [decide_eq_true c1,if_pos rfl,istation_eq,Option.bind_some]
  simp only [impl_TreeWay.j0]
  by_cases c2 : netB n cs hs vs = true ∧ 0 ≤ b ∧ b < hs.length
  ·obtain ⟨N,A,B,rfl,g1,g2,g3,g4,g5,g6,g7,g8⟩:=way_facts c1.1 c1.2 c2.2
   have hrl:=rootsL_len N cs
   have e : impl_rootsOf.f (N : Int) cs = some (rootsL N cs):=by unfold impl_rootsOf.f;rw [if_pos g4,Int.toNat_natCast]
   rw [decide_eq_true c2,if_neg (by decide),e,Option.bind_some,if_pos c1.2.1,if_pos c1.2.2,g7,if_pos (by omega),if_pos (by omega),if_pos c2.2.1,if_pos c2.2.2,g8,if_pos (by omega),if_pos (by omega),Int.toNat_natCast]
   by_cases c3 : rd (rootsL N cs) (A : Int) = rd (rootsL N cs) (B : Int)
   ·have c3':=c3
    rw [rd_gD,rd_gD] at c3'
    obtain ⟨p,q,m,p1,p2,p3,p4,p5,p6,p7,p8⟩:=way_parts g4 g5 g6 c3'
    obtain ⟨w,r,q1,q2,q3,q4,q5,q6,q7,q8⟩:=way_up g4 g5
    obtain ⟨v,r2,w1,w2,w3,w4,w5,w6,w7,w8⟩:=way_up g4 g6
    have lu : (upsL N cs A).length ≤ 100:=by unfold upsL;rw [chL_eq q1 q2 50 (by omega),List.length_map];omega
    have lv : (upsL N cs B).length ≤ 100:=by unfold upsL;rw [chL_eq w1 w2 50 (by omega),List.length_map];omega
    have hx:=iway_l0 (upsL N cs A) (upsL N cs B) lu lv (upsL N cs A).length k 0 [] (by omega) (by simp;omega) (by omega)
    rw [List.drop_zero,List.nil_append,p1] at hx
    have hpl : (p.map (upN N cs)).length ≤ 8:=by rw [List.length_map];omega
    have hy:=iway_l1 (upsL N cs A) (upsL N cs B) lu lv (upsL N cs B).length (k - (upsL N cs A).length - 1) 0 (p.map (upN N cs)) (by omega) (by omega) (by omega)
    rw [List.drop_zero,p2,← List.map_append] at hy
    obtain ⟨s,s1,s2,s3⟩:=sort_ok ((p ++ q).map (upN N cs)) (by rw [List.length_map,List.length_append];omega)
    rw [if_pos c3,iups_eq g4 hs vs g5 k (by omega),Option.bind_some,iups_eq g4 hs vs g6 k (by omega),Option.bind_some,if_pos ⟨c1.1,c1.2,c2.2,c3⟩,Int.toNat_natCast,Int.toNat_natCast]
    refine hx.trans (hy.trans ?_)
    rw [s3 _ (by omega),Option.bind_some]
    congr 1
    exact sort_uniq s2 ((filM_asc _ _ _).imp (fun h => by omega)) (s1.trans (way_perm g4 (fun x hx => (p6 x hx).2.1) p7 p8))
   ·rw [if_neg c3,if_neg (fun h => c3 h.2.2.2)]
  ·rw [decide_eq_false c2,if_pos (by decide),if_neg (fun h => c2 ⟨h.1,h.2.2.1⟩)]
 ·rw [decide_eq_false c1,if_neg (by decide)]
  simp only [impl_TreeWay.j0]
  rw [if_pos trivial,if_neg (fun h => c1 ⟨h.1,h.2.1⟩)]

-- LIB netask
def askAt (k : Nat) (n : Int) (cs : List S83) (hs vs : List Int) (x0 x1 : Int) (row : List Int) (told : Bool) : Option Bool :=
 if told = true then (impl_MatesOf.f k n cs hs vs x0).bind fun m => (laws_wnHas.f k m x1).bind fun b => if b = true then (impl_TreeWay.f k n cs hs vs x0 x1).bind fun y => laws_wnInts.f k row y else some true else some true

-- LIB netask
theorem ask_cases {k : Nat} {n : Int} {cs : List S83} {hs vs : List Int} {x0 x1 : Int} {row : List Int} {told : Bool} (h : askAt k n cs hs vs x0 x1 row told = some true) (ht : told = true) :
  ∃ m,impl_MatesOf.f k n cs hs vs x0 = some m ∧ (laws_wnHas.f k m x1 = some false ∨ (laws_wnHas.f k m x1 = some true ∧ ∃ y,impl_TreeWay.f k n cs hs vs x0 x1 = some y ∧ laws_wnInts.f k row y = some true)):=by
 unfold askAt at h
 rw [if_pos ht] at h
 obtain ⟨m,hm,h⟩:=Option.bind_eq_some_iff.mp h
 obtain ⟨b,hb,h⟩:=Option.bind_eq_some_iff.mp h
 refine ⟨m,hm,?_⟩
 cases b with
 | false => exact Or.inl hb
 | true =>
  rw [if_pos rfl] at h
  obtain ⟨y,hy,h⟩:=Option.bind_eq_some_iff.mp h
  exact Or.inr ⟨hb,y,hy,h⟩

-- LIB netask
def toldB (l : List S37) (x : Int) : Bool:=l.any fun g => decide (g.f0 = x) && decide (g.f1 = 15)

-- LIB netask
theorem told_snoc (l : List S37) (i : Nat) (h : i < l.length) (x : Int) : toldB (l.take (i + 1)) x = (toldB (l.take i) x || (decide (l[i].f0 = x) && decide (l[i].f1 = 15))):=by
 unfold toldB
 rw [List.take_succ_eq_append_getElem h,List.any_append,List.any_cons,List.any_nil,Bool.or_false]

-- LIB pask
theorem ask_ok {n : Int} {cs : List S83} {hs vs : List Int} {x0 x1 : Int} {row : List Int} {told : Bool} (hr : row.length ≤ 20) (h : told = true → x1 ∈ matesX n cs hs vs x0 → row = wayX n cs hs vs x0 x1) (k : Nat) (hk : 2000 < k) : askAt k n cs hs vs x0 x1 row told = some true:=by
 unfold askAt
 cases told with
 | false => simp
 | true =>
  have hx:=matesX_len n cs hs vs x0
  rw [if_pos rfl,imates_eq n cs hs vs _ k (by omega),Option.bind_some,wnHas_eq _ _ (by omega) k (by omega),Option.bind_some]
  by_cases c : x1 ∈ matesX n cs hs vs x0
  ·rw [if_pos (has_mates.2 c),iway_eq n cs hs vs _ _ k (by omega),Option.bind_some,wnInts_eq _ _ (by omega) k (by omega),decide_eq_true (h rfl c)]
  ·rw [if_neg (fun hh => c (has_mates.1 hh))]

-- LIB lawlrn
theorem run_learned (n : Int) (cs : List S83) (hs vs : List Int) (l : List S37) : ∃ (tk ov : List (List Int)) (g : Bool), impl_RunNet.f n cs hs vs l = some (tk, ov, g) ∧ spec_RunNet.f n cs hs vs l = some (tk, ov, g) ∧ laws_wnPairs.f 4001 tk tk = some true ∧ laws_wnPairs.f 4001 ov ov = some true ∧
  (g = true → tk.length = l.length ∧ ov.length = l.length ∧ l.length ≤ 1000 ∧ ∀ i (hi : i < l.length),askAt 4001 n cs hs vs l[i].f0 l[i].f1 (ov.getD i []) (toldB (l.take i) l[i].f1) = some true):=by
 obtain ⟨tk,ov,g,h1,h2,h3,h4,h5⟩:=run_both n cs hs vs l
 refine ⟨tk,ov,g,h1,h2,h3,h4,fun hg => ?_⟩
 obtain ⟨a1,a2,a3,a4⟩:=h5 hg
 refine ⟨a1,a2,a3,fun i hi => ask_ok (a4 i hi).1 (fun ht hx => ?_) _ (by omega)⟩
 unfold toldB at ht
 obtain ⟨g,hg,hq⟩:=List.any_eq_true.1 ht
 simp only [Bool.and_eq_true,decide_eq_true_eq] at hq
 exact (a4 i hi).2.2 g hg hq.1 (Or.inl hq.2) hx

/-! ### laws_FnNetLearned: function 5 (by hand) -/
def laws_FnNetLearned.f (k : Nat) (l0 : List Int) : Option (Bool) :=
 if l0.all (fun x => (Lit.int .u8 x).wf) = true then some true else none
set_option maxHeartbeats 4000000 in
set_option maxRecDepth 100000 in
theorem laws_FnNetLearned.calls (k : Nat) (A0 : Option Addr) (c0 : Nat) (l0 : List Int) (r : Bool) (w : World) (hr0 : Kd.C (Kd.int .u8) w A0 l0.length l0) (hc0 : l0.length ≤ c0) (h : laws_FnNetLearned.f k l0 = some r) :
  Calls Try.prog 5 #[.slice A0 l0.length c0] w fun e w' => e = .returned (.bool r) ∧ Below w.heap.size w w':=by
 unfold laws_FnNetLearned.f at h
 by_cases hw : l0.all (fun x => (Lit.int .u8 x).wf) = true
 ·rw [if_pos hw] at h
  obtain rfl:=Option.some.inj h
  have hu1:=Try.underlying26
  have hu2:=Try.underlying32
  have hu3:=Try.underlying37
  have hlen:=Kd.C_max hr0
  have HD:=mk_ (x_draw A0 c0 l0 w hr0 hc0 (List.all_eq_true.1 hw))
  by_cases cg : (l0.length : Int) > 1048576
  ·have p1 : (1048576 < (l0.length : Int)) = True:=eq_true cg
   clear h hr0 hc0 cg HD hw
   go_enter Try.func5,Try.ntmps5
   go_wp2
   go_ret
   exact ⟨rfl,Below.refl _ _⟩
  have p1 : (1048576 < (l0.length : Int)) = False:=eq_false cg
  clear h hr0 hc0 cg hw
  go_enter Try.func5,Try.ntmps5
  go_wp2_with fail
  refine HD.out.mono ?_
  rintro e w1 ⟨n,cs,hs,vs,l,v1,v2,v3,v4,rfl,h1,h2,h3,h4,hb1⟩
  obtain ⟨tk,ov,g,hA,hS,hP1,hP2,hL⟩:=run_learned n cs hs vs l
  have HI:=mk_ (fun B1 d1 B2 d2 B3 d3 B4 d4 W g1 q1 g2 q2 g3_ q3 g4 q4 => impl_RunNet.calls n B1 d1 cs B2 d2 hs B3 d3 vs B4 d4 l tk ov g W g1 q1 g2 q2 g3_ q3 g4 q4 hA)
  have HS:=mk_ (fun B1 d1 B2 d2 B3 d3 B4 d4 W g1 q1 g2 q2 g3_ q3 g4 q4 => spec_RunNet.calls n B1 d1 cs B2 d2 hs B3 d3 vs B4 d4 l tk ov g W g1 q1 g2 q2 g3_ q3 g4 q4 hS)
  have HP1:=mk_ (fun B1 d1 B2 d2 W g1 q1 g2 q2 => laws_wnPairs.calls 4001 B1 d1 tk B2 d2 tk true W g1 q1 g2 q2 hP1)
  have HP2:=mk_ (fun B1 d1 B2 d2 W g1 q1 g2 q2 => laws_wnPairs.calls 4001 B1 d1 ov B2 d2 ov true W g1 q1 g2 q2 hP2)
  have HL:=mk_ hL
  clear hA hS hP1 hP2 hL
  obtain ⟨X1,x1,rfl⟩:=Kd.R_slice h1
  obtain ⟨X2,x2,rfl⟩:=Kd.R_slice h2
  obtain ⟨X3,x3,rfl⟩ : ∃ A c,v3 = .slice A vs.length c:=by
   obtain ⟨_,_,ho,_⟩:=h3
   obtain ⟨A',c',he,_⟩:=q_slice ho
   exact ⟨A',c',he⟩
  obtain ⟨X4,x4,rfl⟩:=Kd.R_slice h4
  have hba:=ba_ (Below.refl _ w1) (.cells #[.int .i64 n,.slice X1 cs.length x1,.slice X2 hs.length x2,.slice X3 vs.length x3] 26)
  have HN:=mk_ (blk_new w1 (.cells #[.int .i64 n,.slice X1 cs.length x1,.slice X2 hs.length x2,.slice X3 vs.length x3] 26))
  have HB:=mk_ (st_ hb1 hba)
  have H1:=mk_ (And.intro (rr_ h1).2.1 (cb_ (rr_ h1).2.2 hba))
  have H2:=mk_ (And.intro (rr_ h2).2.1 (cb_ (rr_ h2).2.2 hba))
  have H3:=mk_ (And.intro (Kd.Q_reads' h3).2.1 (cb_ (Kd.Q_reads' h3).2.2 hba))
  have H4:=mk_ (And.intro (rr_ h4).2.1 (cb_ (rr_ h4).2.2 hba))
  clear h1 h2 h3 h4 hb1 hba HD
  obtain ⟨n0,n1,n2,n3⟩:=nbox4 HN.out
  go_wp2_with fail
  refine (HI.out _ _ _ _ _ _ _ _ _ H1.out.2 H1.out.1 H2.out.2 H2.out.1 H3.out.2 H3.out.1 H4.out.2 H4.out.1).mono ?_
  generalize w1.heap.size = b3 at HN n0 n1 n2 n3 ⊢
  rintro e w2 ⟨v1,v2,rfl,h5,h6,hb2⟩
  obtain ⟨T1,t1,rfl⟩:=Kd.S_slice h5
  obtain ⟨O1,o1,rfl⟩:=Kd.S_slice h6
  have hba:=ba_ (Below.refl _ w2) (.cells #[.slice T1 tk.length t1,.slice O1 ov.length o1] 32)
  have HS5:=mk_ (blk_new w2 (.cells #[.slice T1 tk.length t1,.slice O1 ov.length o1] 32))
  have H5:=mk_ (And.intro (Kd.S_reads' h5).2.1 (cb_ (Kd.S_reads' h5).2.2 hba))
  have H6:=mk_ (And.intro (Kd.S_reads' h6).2.1 (cb_ (Kd.S_reads' h6).2.2 hba))
  have hb:=st_ hb2 hba
  replace HN:=mk_ (blk_below HN.out hb)
  replace HB:=mk_ (st_ HB.out hb)
  replace H1:=mk_ (And.intro H1.out.1 (cb_ H1.out.2 hb))
  replace H2:=mk_ (And.intro H2.out.1 (cb_ H2.out.2 hb))
  replace H3:=mk_ (And.intro H3.out.1 (cb_ H3.out.2 hb))
  replace H4:=mk_ (And.intro H4.out.1 (cb_ H4.out.2 hb))
  clear h5 h6 hb hb2 hba HI n0 n1 n2 n3
  obtain ⟨n0,n1,n2,n3⟩:=nbox4 HN.out
  go_wp2_with fail
  refine (HS.out _ _ _ _ _ _ _ _ _ H1.out.2 H1.out.1 H2.out.2 H2.out.1 H3.out.2 H3.out.1 H4.out.2 H4.out.1).mono ?_
  generalize w2.heap.size = b5 at HS5 ⊢
  rintro e w3 ⟨v1,v2,rfl,h5,h6,hb2⟩
  obtain ⟨T2,t2,rfl⟩:=Kd.S_slice h5
  obtain ⟨O2,o2,rfl⟩:=Kd.S_slice h6
  have hba:=ba_ (Below.refl _ w3) (.cells #[.slice T2 tk.length t2,.slice O2 ov.length o2] 32)
  have HS7:=mk_ (blk_new w3 (.cells #[.slice T2 tk.length t2,.slice O2 ov.length o2] 32))
  have H7:=mk_ (And.intro (Kd.S_reads' h5).2.1 (cb_ (Kd.S_reads' h5).2.2 hba))
  have H8:=mk_ (And.intro (Kd.S_reads' h6).2.1 (cb_ (Kd.S_reads' h6).2.2 hba))
  have hb:=st_ hb2 hba
  replace HN:=mk_ (blk_below HN.out hb)
  replace HS5:=mk_ (blk_below HS5.out hb)
  replace HB:=mk_ (st_ HB.out hb)
  replace H1:=mk_ (And.intro H1.out.1 (cb_ H1.out.2 hb))
  replace H2:=mk_ (And.intro H2.out.1 (cb_ H2.out.2 hb))
  replace H3:=mk_ (And.intro H3.out.1 (cb_ H3.out.2 hb))
  replace H4:=mk_ (And.intro H4.out.1 (cb_ H4.out.2 hb))
  replace H5:=mk_ (And.intro H5.out.1 (cb_ H5.out.2 hb))
  replace H6:=mk_ (And.intro H6.out.1 (cb_ H6.out.2 hb))
  clear h5 h6 hb hb2 hba HS n0 n1 n2 n3
  obtain ⟨s0,s1⟩:=nbox2 HS5.out
  obtain ⟨z0,z1⟩:=nbox2 HS7.out
  have HV:=mk_ (Below.refl (w3.alloc (.cells #[.slice T2 tk.length t2,.slice O2 ov.length o2] 32)).heap.size (w3.alloc (.cells #[.slice T2 tk.length t2,.slice O2 ov.length o2] 32)))
  cases g with
  | false =>
   go_wp2_with fail
   refine (HP2.out _ _ _ _ _ (cb_ H6.out.2 HV.out) H6.out.1 (cb_ H8.out.2 HV.out) H8.out.1).mono ?_
   rintro e wf0 ⟨rfl,hdf0⟩
   replace HV:=mk_ (st_ HV.out hdf0.below)
   generalize w3.alloc (.cells #[.slice T2 tk.length t2,.slice O2 ov.length o2] 32) = V at HN HS5 HS7 HB H1 H2 H3 H4 H5 H6 H7 H8 HV hdf0
   generalize w3.heap.size = b7 at HS7 ⊢
   clear hdf0 s0 s1 z0 z1
   obtain ⟨s0,s1⟩:=nbox2 (blk_below HS5.out HV.out)
   obtain ⟨z0,z1⟩:=nbox2 (blk_below HS7.out HV.out)
   go_wp2_with fail
   refine (HP2.out _ _ _ _ _ (cb_ H6.out.2 HV.out) H6.out.1 (cb_ H8.out.2 HV.out) H8.out.1).mono ?_
   rintro e wh0 ⟨rfl,hdh0⟩
   replace HV:=mk_ (st_ HV.out hdh0.below)
   clear hdh0 s0 s1 z0 z1
   obtain ⟨s0,s1⟩:=nbox2 (blk_below HS5.out HV.out)
   obtain ⟨z0,z1⟩:=nbox2 (blk_below HS7.out HV.out)
   go_wp2
   go_ret
   exact ⟨by first|rfl|simp,st_ HB.out HV.out⟩
  | true =>
   obtain ⟨hl1,hl2,hl3,hL⟩:=HL.out rfl
   have HLL:=mk_ (And.intro hl1 hl2)
   replace HL:=mk_ hL
   clear hl1 hl2 hL
   go_wp2_with fail
   refine (HP2.out _ _ _ _ _ (cb_ H6.out.2 HV.out) H6.out.1 (cb_ H8.out.2 HV.out) H8.out.1).mono ?_
   rintro e wt0 ⟨rfl,hdt0⟩
   replace HV:=mk_ (st_ HV.out hdt0.below)
   generalize w3.alloc (.cells #[.slice T2 tk.length t2,.slice O2 ov.length o2] 32) = V at HN HS5 HS7 HB H1 H2 H3 H4 H5 H6 H7 H8 HV hdt0
   generalize w3.heap.size = b7 at HS7 ⊢
   clear hdt0 s0 s1 z0 z1
   obtain ⟨s0,s1⟩:=nbox2 (blk_below HS5.out HV.out)
   obtain ⟨z0,z1⟩:=nbox2 (blk_below HS7.out HV.out)
   clear s0 s1 z0 z1 HS7 H7 H8 HP1 HP2
   go_wp2_with fail
   go_loopg [61] l.length (fun gg sx_ wr => ∃ (kk : Nat),kk ≤ l.length ∧ l.length - kk ≤ gg ∧ sx_ = .int .i64 (kk : Int) ∧ Aside0 (Below V.heap.size V wr))
   case atStart => exact ⟨0,Nat.zero_le _,by omega,rfl,HV⟩
   case round =>
    clear HV
    obtain ⟨kk,hkk,hgg,rfl,HV⟩:=hrel
    by_cases hlt : kk < l.length
    ·obtain ⟨ad,ea,hx0,hx1,hx2⟩:=at_T37 (cb_ H4.out.2 HV.out) (kk : Int) (by omega) (by omega)
     rw [Int.toNat_natCast,hop_at l kk hlt] at hx0 hx1 hx2
     subst ea
     have hask:=HL.out kk hlt
     obtain ⟨y0,hy0⟩ : ∃ x,l[kk].f0 = x:=⟨_,rfl⟩
     obtain ⟨y1,hy1⟩ : ∃ x,l[kk].f1 = x:=⟨_,rfl⟩
     obtain ⟨y2,hy2⟩ : ∃ x,l[kk].f2 = x:=⟨_,rfl⟩
     rw [hy0] at hx0 hask
     rw [hy1] at hx1 hask
     rw [hy2] at hx2
     clear hy0 hy1 hy2
     have p2 : ((kk : Int) < (l.length : Int)) = True:=eq_true (by omega)
     have p3 : (kk < l.length) = True:=eq_true hlt
     have hcut : ∀ W : World,(Instr.slice 27 (.slice (some ad) l.length x4) none (some (.int .i64 (kk : Int))) none).run Try.prog W = .ok (.slice (some ad) kk x4) W:=by
      obtain ⟨i_,hi_,_⟩:=info_parts (P:=Try.prog) (e:=37) (size:=3) (bytes:=24) (z:=.agg #[.int .i64 0,.int .i64 0,.int .i64 0]) (by kernel_rfl)
      have:=cut_to (P:=Try.prog) 27 37 .i64 (by kernel_rfl) hi_ (some ad) l.length x4 (kk : Int) (by omega) (by omega) H4.out.1
      rw [Int.toNat_natCast] at this
      exact this
     have HASK:=mk_ hask
     have hba:=ba_ (Below.refl _ wr) (.cells #[.int .i64 y0,.int .i64 y1,.int .i64 y2] 37)
     have HH:=mk_ (blk_new wr (.cells #[.int .i64 y0,.int .i64 y1,.int .i64 y2] 37))
     have HVU:=mk_ (st_ HV.out hba)
     clear hask hba HV
     go_wp2_with fail
     generalize wr.alloc (.cells #[.int .i64 y0,.int .i64 y1,.int .i64 y2] 37) = U at HH HVU ⊢
     generalize wr.heap.size = bh at HH ⊢
     clear hx0 hx1 hx2 hcut p2 p3
     go_loopg [11,70] kk (fun gg s11 s70 wr => ∃ (jj : Nat),jj ≤ kk ∧ kk - jj ≤ gg ∧ s70 = .int .i64 (jj : Int) ∧ s11 = .bool (toldB (l.take jj) y1) ∧ Aside0 (Below U.heap.size U wr))
     case atStart => exact ⟨0,Nat.zero_le _,by omega,rfl,rfl,⟨Below.refl _ _⟩⟩
     case round =>
      obtain ⟨jj,hjj,hgg2,rfl,rfl,HWz⟩:=hrel
      by_cases hlt2 : jj < kk
      ·obtain ⟨ad',ea',hz0,hz1,hz2⟩:=at_T37 (cb_ H4.out.2 (st_ HVU.out HWz.out)) (jj : Int) (by omega) (by omega)
       obtain rfl : ad = ad':=Option.some.inj ea'
       rw [Int.toNat_natCast,hop_at l jj (by omega)] at hz0 hz1 hz2
       have hst:=told_snoc l jj (by omega) y1
       obtain ⟨z0,hy0⟩ : ∃ x,l[jj].f0 = x:=⟨_,rfl⟩
       obtain ⟨z1,hy1⟩ : ∃ x,l[jj].f1 = x:=⟨_,rfl⟩
       obtain ⟨z2,hy2⟩ : ∃ x,l[jj].f2 = x:=⟨_,rfl⟩
       rw [hy0] at hz0 hst
       rw [hy1] at hz1 hst
       rw [hy2] at hz2
       have HST:=mk_ hst
       clear hy0 hy1 hy2 hst ea'
       have hba:=ba_ (Below.refl _ wr) (.cells #[.int .i64 z0,.int .i64 z1,.int .i64 z2] 37)
       obtain ⟨g0,g1,_⟩:=nbox3 (blk_new wr (.cells #[.int .i64 z0,.int .i64 z1,.int .i64 z2] 37))
       obtain ⟨h0,h1,_⟩:=nbox3 (blk_below (blk_below HH.out HWz.out) hba)
       have HW2:=mk_ (st_ HWz.out hba)
       have q1 : ((jj : Int) < (kk : Int)) = True:=eq_true (by omega)
       have q2 : (jj < kk) = True:=eq_true hlt2
       clear hba HWz
       generalize toldB (l.take jj) y1 = tb at HST ⊢
       have hfin : ∀ x,toldB (l.take (jj + 1)) y1 = x → ∃ jj' : Nat,jj' ≤ kk ∧ kk - jj' ≤ kk - (jj + 1) ∧ (Value.int .i64 ((jj : Int) + 1)) = .int .i64 (jj' : Int) ∧ (Value.bool x) = .bool (toldB (l.take jj') y1) ∧ Aside0 (Below U.heap.size U (wr.alloc (.cells #[.int .i64 z0,.int .i64 z1,.int .i64 z2] 37))):=fun x hx => ⟨jj + 1,by omega,by omega,rfl,by rw [hx],HW2⟩
       have HFIN:=mk_ hfin
       clear hfin
       cases tb with
       | true =>
        go_wp2
        go_roundg (kk - (jj + 1))
        case measure => omega
        case rel => exact HFIN.out true (by rw [HST.out];rfl)
       | false =>
        by_cases e1 : z0 = y1
        ·have r1 : (z0 = y1) = True:=eq_true e1
         have HE1:=mk_ e1
         clear e1
         go_wp2
         go_roundg (kk - (jj + 1))
         case measure => omega
         case rel => first|exact HFIN.out (z0 == y1 && z1 == 15) (by rw [HST.out];rfl)|exact HFIN.out false (by rw [HST.out];simp [HE1.out])
        ·have r1 : (z0 = y1) = False:=eq_false e1
         have HE1:=mk_ e1
         clear e1
         go_wp2
         go_roundg (kk - (jj + 1))
         case measure => omega
         case rel => first|exact HFIN.out (z0 == y1 && z1 == 15) (by rw [HST.out];rfl)|exact HFIN.out false (by rw [HST.out];simp [HE1.out])
      ·obtain rfl : kk = jj:=by omega
       have hask:=HASK.out
       have HVz:=mk_ (st_ HVU.out HWz.out)
       have q1 : ((kk : Int) < (kk : Int)) = False:=eq_false (by omega)
       generalize toldB (l.take kk) y1 = tb at hask ⊢
       cases tb with
       | false =>
        clear hask
        go_wp2
        go_quiet (fail)
        go_wp2
        go_roundg (l.length - (kk + 1))
        case measure => omega
        case rel => exact ⟨kk + 1,by omega,by omega,by first|rfl|simp [wrap_eq (x:=(kk : Int) + 1) (by omega) (by omega)]|(rw [wrap_eq (by omega) (by omega)];rfl),⟨bn_ HVz.out _⟩⟩
       | true =>
        go_upto_region 17 with (fail)
        obtain ⟨m,hm,hcase⟩:=ask_cases hask rfl
        have HM:=mk_ (fun B1 d1 B2 d2 B3 d3 W g1 q1 g2 q2 g3_ q3 => impl_MatesOf.calls 4001 n B1 d1 cs B2 d2 hs B3 d3 vs y0 m W g1 q1 g2 q2 g3_ q3 hm)
        clear hask hm
        obtain ⟨n0z,n1z,n2z,n3z⟩:=nbox4 (blk_below HN.out HVz.out)
        obtain ⟨h0z,h1z,_⟩:=nbox3 (blk_below HH.out HWz.out)
        rcases hcase with hh|⟨hh,yy,hy,hj⟩
        ·have HH1:=mk_ (fun B d W h1 h2 => laws_wnHas.calls 4001 B d m y1 false W h1 h2 hh)
         clear hh

         refine start_ (n:=25) (S:=fun w' => w'.cell? ⟨b3,0,none⟩ = some (.int .i64 n) ∧ w'.cell? ⟨b3,1,none⟩ = some (.slice X1 cs.length x1) ∧ w'.cell? ⟨b3,2,none⟩ = some (.slice X2 hs.length x2) ∧ w'.cell? ⟨b3,3,none⟩ = some (.slice X3 vs.length x3) ∧ w'.cell? ⟨bh,0,none⟩ = some (.int .i64 y0) ∧ w'.cell? ⟨bh,1,none⟩ = some (.int .i64 y1)) (ds:=[]) #[false,false,false,false,false,false,false,false,false,false,false,false,false,false,false,false,false,false,false,false,false,false,false,false,false] (by kernel_rfl) rfl rfl ⟨n0z,n1z,n2z,n3z,h0z,h1z⟩ (fun hHeld => ?_)
         refine pu_ (i:=0) (N:=some 88) 25 1 ?_
         refine pu_ (i:=1) (N:=some 89) 25 3 ?_
         refine pu_ (i:=3) (N:=some 91) 25 11 ?_
         refine pu_ (i:=6) (N:=some 94) 25 75 ?_
         refine ta6_ (i:=2) (N:=some 90) 25 79 hHeld ?_
         refine ta6_ (i:=4) (N:=some 92) 25 95 hHeld ?_
         refine ta6_ (i:=7) (N:=some 95) 25 223 hHeld ?_
         refine on_ (i:=5) (N:=some 93) 25 255 (fun K hK => ?_)
         refine goes_ Try.func12 (by kernel_rfl) rfl #[.agg #[.int .i64 n,.slice X1 cs.length x1,.slice X2 hs.length x2,.slice X3 vs.length x3],.int .i64 y0] (by rfl) rfl rfl (by simp only [List.map_toArray,List.map_cons,List.map_nil];rfl) ?_
         with_reducible refine (HM.out _ _ _ _ _ _ _ (cd_ (cb_ H1.out.2 HVz.out)) H1.out.1 (cd_ (cb_ H2.out.2 HVz.out)) H2.out.1 (cd_ (cb_ H3.out.2 HVz.out)) H3.out.1).mono ?_
         rintro e wa ⟨va,rfl,ha,hba⟩
         refine ⟨_,rfl,?_⟩
         obtain ⟨M,mc,rfl⟩:=Kd.R_slice ha
         have hda:=st_ (below_drew (Below.refl wr.heap.size wr)) hba
         have HVa:=mk_ (st_ HVz.out hda)
         have HWa:=mk_ (st_ HWz.out hda)
         have HMA:=mk_ (rr_ ha).2
         clear ha hba hda
         obtain ⟨n0a,n1a,n2a,n3a⟩:=nbox4 (blk_below HN.out HVa.out)
         obtain ⟨h0a,h1a,_⟩:=nbox3 (blk_below HH.out HWa.out)
         refine hK.out _ _ ⟨n0a,n1a,n2a,n3a,h0a,h1a⟩ (fun hHeld => ?_)
         clear hK K
         refine norm_ (a':=?_) ?_ ?_
         rotate_left
         ·show Act.put _ (some 93) _ = _
          simp only [Act.put,sx_,sy_,sz_,i64_w,i32_w]
          rfl
         refine on_ (i:=8) (N:=some 96) 25 511 (fun K hK => ?_)
         refine goes_ Try.func14 (by kernel_rfl) rfl #[.slice M m.length mc,.int .i64 y1] (by rfl) rfl rfl (by simp only [List.map_toArray,List.map_cons,List.map_nil];rfl) ?_
         with_reducible refine (HH1.out _ _ wa HMA.out.2 HMA.out.1).mono ?_
         rintro e wb ⟨rfl,hb⟩
         refine ⟨_,rfl,?_⟩
         have hdb:=hb.below
         have HVb:=mk_ (st_ HVa.out hdb)
         have HWb:=mk_ (st_ HWa.out hdb)
         clear hb hdb HMA
         obtain ⟨n0b,n1b,n2b,n3b⟩:=nbox4 (blk_below HN.out HVb.out)
         obtain ⟨h0b,h1b,_⟩:=nbox3 (blk_below HH.out HWb.out)
         refine hK.out _ _ ⟨n0b,n1b,n2b,n3b,h0b,h1b⟩ (fun hHeld => ?_)
         clear hK K
         refine norm_ (a':=?_) ?_ ?_
         rotate_left
         ·show Act.put _ (some 96) _ = _
          simp only [Act.put,sx_,sy_,sz_,i64_w,i32_w]
          rfl
         refine pu_ (i:=9) (N:=some 97) 25 1023 ?_
         refine pu_ (i:=10) (N:=some 98) 25 2047 ?_
         refine pz_ (i:=11) (N:=some 99) 25 4095 ?_
         refine pz_ (i:=12) (N:=some 100) 25 8191 ?_
         refine pz_ (i:=13) (N:=some 101) 25 16383 ?_
         refine pz_ (i:=14) (N:=some 102) 25 32767 ?_
         refine pz_ (i:=15) (N:=some 103) 25 65535 ?_
         refine pz_ (i:=16) (N:=some 104) 25 131071 ?_
         refine pz_ (i:=17) (N:=some 105) 25 262143 ?_
         refine pz_ (i:=18) (N:=some 106) 25 524287 ?_
         refine pz_ (i:=19) (N:=some 107) 25 1048575 ?_
         refine pz_ (i:=20) (N:=some 108) 25 2097151 ?_
         refine pz_ (i:=21) (N:=some 109) 25 4194303 ?_
         refine pz_ (i:=22) (N:=some 110) 25 8388607 ?_
         refine pz_ (i:=23) (N:=some 111) 25 16777215 ?_
         refine pu_ (i:=24) (N:=some 112) 25 33554431 ?_
         refine done_ (by kernel_rfl) ?_

         go_wp2
         go_roundg (l.length - (kk + 1))
         case measure => omega
         case rel => exact ⟨kk + 1,by omega,by omega,by first|rfl|simp [wrap_eq (x:=(kk : Int) + 1) (by omega) (by omega)]|(rw [wrap_eq (by omega) (by omega)];rfl),HVb⟩
        ·have HH1:=mk_ (fun B d W h1 h2 => laws_wnHas.calls 4001 B d m y1 true W h1 h2 hh)
         have HT:=mk_ (fun B1 d1 B2 d2 B3 d3 W g1 q1 g2 q2 g3_ q3 => impl_TreeWay.calls 4001 n B1 d1 cs B2 d2 hs B3 d3 vs y0 y1 yy W g1 q1 g2 q2 g3_ q3 hy)
         clear hh hy
         obtain ⟨ar,Ar,cr,ea2,hrow,hrl,hrc⟩:=at_L4 H6.out.2 (kk : Int) (by omega) (by have:=HLL.out.2;omega)
         rw [Int.toNat_natCast,row_at] at hrow
         rw [row_at] at hrl hrc
         subst ea2
         generalize ov.getD kk [] = rw_ at hrow hrl hrc hj
         have HROW:=mk_ hrow
         have HRW:=mk_ (And.intro hrl hrc)
         have p4 : ((kk : Int) < (ov.length : Int)) = True:=eq_true (by have:=HLL.out.2;omega)
         have p5 : (kk < ov.length) = True:=eq_true (by have:=HLL.out.2;omega)
         clear hrow hrl hrc
         have g0z:=(nbox2 (blk_below HS5.out HVz.out)).2
         have g1z:=(HVz.out.cell (p:=ar.add kk) (wl_ V (ar.add kk) HROW.out)).trans HROW.out
         have HJ:=mk_ (fun B d B' d' W h1 h2 h3 h4 => laws_wnInts.calls 4001 B d rw_ B' d' yy true W h1 h2 h3 h4 hj)
         clear hj
         refine start_ (n:=25) (S:=fun w' => w'.cell? ⟨b3,0,none⟩ = some (.int .i64 n) ∧ w'.cell? ⟨b3,1,none⟩ = some (.slice X1 cs.length x1) ∧ w'.cell? ⟨b3,2,none⟩ = some (.slice X2 hs.length x2) ∧ w'.cell? ⟨b3,3,none⟩ = some (.slice X3 vs.length x3) ∧ w'.cell? ⟨bh,0,none⟩ = some (.int .i64 y0) ∧ w'.cell? ⟨bh,1,none⟩ = some (.int .i64 y1) ∧ w'.cell? ⟨b5,1,none⟩ = some (.slice (some ar) ov.length o1) ∧ w'.cell? (ar.add kk) = some (.slice Ar rw_.length cr)) (ds:=[]) #[false,false,false,false,false,false,false,false,false,false,false,false,false,false,false,false,false,false,false,false,false,false,false,false,false] (by kernel_rfl) rfl rfl ⟨n0z,n1z,n2z,n3z,h0z,h1z,g0z,g1z⟩ (fun hHeld => ?_)
         refine pu_ (i:=0) (N:=some 88) 25 1 ?_
         refine pu_ (i:=1) (N:=some 89) 25 3 ?_
         refine pu_ (i:=3) (N:=some 91) 25 11 ?_
         refine pu_ (i:=6) (N:=some 94) 25 75 ?_
         refine ta8_ (i:=2) (N:=some 90) 25 79 hHeld ?_
         refine ta8_ (i:=4) (N:=some 92) 25 95 hHeld ?_
         refine ta8_ (i:=7) (N:=some 95) 25 223 hHeld ?_
         refine on_ (i:=5) (N:=some 93) 25 255 (fun K hK => ?_)
         refine goes_ Try.func12 (by kernel_rfl) rfl #[.agg #[.int .i64 n,.slice X1 cs.length x1,.slice X2 hs.length x2,.slice X3 vs.length x3],.int .i64 y0] (by rfl) rfl rfl (by simp only [List.map_toArray,List.map_cons,List.map_nil];rfl) ?_
         with_reducible refine (HM.out _ _ _ _ _ _ _ (cd_ (cb_ H1.out.2 HVz.out)) H1.out.1 (cd_ (cb_ H2.out.2 HVz.out)) H2.out.1 (cd_ (cb_ H3.out.2 HVz.out)) H3.out.1).mono ?_
         rintro e wa ⟨va,rfl,ha,hba⟩
         refine ⟨_,rfl,?_⟩
         obtain ⟨M,mc,rfl⟩:=Kd.R_slice ha
         have hda:=st_ (below_drew (Below.refl wr.heap.size wr)) hba
         have HVa:=mk_ (st_ HVz.out hda)
         have HWa:=mk_ (st_ HWz.out hda)
         have HMA:=mk_ (rr_ ha).2
         clear ha hba hda
         obtain ⟨n0a,n1a,n2a,n3a⟩:=nbox4 (blk_below HN.out HVa.out)
         obtain ⟨h0a,h1a,_⟩:=nbox3 (blk_below HH.out HWa.out)
         have g0a:=(nbox2 (blk_below HS5.out HVa.out)).2
         have g1a:=(HVa.out.cell (p:=ar.add kk) (wl_ V (ar.add kk) HROW.out)).trans HROW.out
         refine hK.out _ _ ⟨n0a,n1a,n2a,n3a,h0a,h1a,g0a,g1a⟩ (fun hHeld => ?_)
         clear hK K
         refine norm_ (a':=?_) ?_ ?_
         rotate_left
         ·show Act.put _ (some 93) _ = _
          simp only [Act.put,sx_,sy_,sz_,i64_w,i32_w]
          rfl
         refine on_ (i:=8) (N:=some 96) 25 511 (fun K hK => ?_)
         refine goes_ Try.func14 (by kernel_rfl) rfl #[.slice M m.length mc,.int .i64 y1] (by rfl) rfl rfl (by simp only [List.map_toArray,List.map_cons,List.map_nil];rfl) ?_
         with_reducible refine (HH1.out _ _ wa HMA.out.2 HMA.out.1).mono ?_
         rintro e wb ⟨rfl,hb⟩
         refine ⟨_,rfl,?_⟩
         have hdb:=hb.below
         have HVb:=mk_ (st_ HVa.out hdb)
         have HWb:=mk_ (st_ HWa.out hdb)
         clear hb hdb HMA
         obtain ⟨n0b,n1b,n2b,n3b⟩:=nbox4 (blk_below HN.out HVb.out)
         obtain ⟨h0b,h1b,_⟩:=nbox3 (blk_below HH.out HWb.out)
         have g0b:=(nbox2 (blk_below HS5.out HVb.out)).2
         have g1b:=(HVb.out.cell (p:=ar.add kk) (wl_ V (ar.add kk) HROW.out)).trans HROW.out
         refine hK.out _ _ ⟨n0b,n1b,n2b,n3b,h0b,h1b,g0b,g1b⟩ (fun hHeld => ?_)
         clear hK K
         refine norm_ (a':=?_) ?_ ?_
         rotate_left
         ·show Act.put _ (some 96) _ = _
          simp only [Act.put,sx_,sy_,sz_,i64_w,i32_w]
          rfl
         refine pu_ (i:=9) (N:=some 97) 25 1023 ?_
         refine pu_ (i:=10) (N:=some 98) 25 2047 ?_
         refine pu_ (i:=11) (N:=some 99) 25 4095 ?_
         refine pu_ (i:=13) (N:=some 101) 25 12287 ?_
         refine pu_ (i:=17) (N:=some 105) 25 143359 ?_
         refine pu_ (i:=19) (N:=some 107) 25 667647 ?_
         refine ta8_ (i:=12) (N:=some 100) 25 671743 hHeld ?_
         refine pu_ (i:=14) (N:=some 102) 25 688127 ?_
         refine ta8_ (i:=15) (N:=some 103) 25 720895 hHeld ?_
         refine ta8_ (i:=16) (N:=some 104) 25 786431 hHeld ?_
         refine ta8_ (i:=18) (N:=some 106) 25 1048575 hHeld ?_
         refine ta8_ (i:=20) (N:=some 108) 25 2097151 hHeld ?_
         refine on_ (i:=21) (N:=some 109) 25 4194303 (fun K hK => ?_)
         refine goes_ Try.func15 (by kernel_rfl) rfl #[.agg #[.int .i64 n,.slice X1 cs.length x1,.slice X2 hs.length x2,.slice X3 vs.length x3],.int .i64 y0,.int .i64 y1] (by rfl) rfl rfl (by simp only [List.map_toArray,List.map_cons,List.map_nil];rfl) ?_
         with_reducible refine (HT.out _ _ _ _ _ _ wb (cb_ H1.out.2 HVb.out) H1.out.1 (cb_ H2.out.2 HVb.out) H2.out.1 (cb_ H3.out.2 HVb.out) H3.out.1).mono ?_
         rintro e wc ⟨vc,rfl,hcc,hbc⟩
         refine ⟨_,rfl,?_⟩
         obtain ⟨Y,yc,rfl⟩:=Kd.R_slice hcc
         have hdc:=hbc
         have HVc:=mk_ (st_ HVb.out hdc)
         have HWc:=mk_ (st_ HWb.out hdc)
         have HYA:=mk_ (rr_ hcc).2
         clear hcc hbc hdc
         obtain ⟨n0c,n1c,n2c,n3c⟩:=nbox4 (blk_below HN.out HVc.out)
         obtain ⟨h0c,h1c,_⟩:=nbox3 (blk_below HH.out HWc.out)
         have g0c:=(nbox2 (blk_below HS5.out HVc.out)).2
         have g1c:=(HVc.out.cell (p:=ar.add kk) (wl_ V (ar.add kk) HROW.out)).trans HROW.out
         refine hK.out _ _ ⟨n0c,n1c,n2c,n3c,h0c,h1c,g0c,g1c⟩ (fun hHeld => ?_)
         clear hK K
         refine norm_ (a':=?_) ?_ ?_
         rotate_left
         ·show Act.put _ (some 109) _ = _
          simp only [Act.put,sx_,sy_,sz_,i64_w,i32_w]
          rfl
         refine on_ (i:=22) (N:=some 110) 25 8388607 (fun K hK => ?_)
         refine goes_ Try.func13 (by kernel_rfl) rfl #[.slice Ar rw_.length cr,.slice Y yy.length yc] (by rfl) rfl rfl (by simp only [List.map_toArray,List.map_cons,List.map_nil];rfl) ?_
         with_reducible refine (HJ.out _ _ _ _ wc (cb_ HRW.out.2 HVc.out) HRW.out.1 HYA.out.2 HYA.out.1).mono ?_
         rintro e wd ⟨rfl,hd⟩
         refine ⟨_,rfl,?_⟩
         have hdd:=hd.below
         have HVd:=mk_ (st_ HVc.out hdd)
         have HWd:=mk_ (st_ HWc.out hdd)
         clear hd hdd HYA
         obtain ⟨n0d,n1d,n2d,n3d⟩:=nbox4 (blk_below HN.out HVd.out)
         obtain ⟨h0d,h1d,_⟩:=nbox3 (blk_below HH.out HWd.out)
         have g0d:=(nbox2 (blk_below HS5.out HVd.out)).2
         have g1d:=(HVd.out.cell (p:=ar.add kk) (wl_ V (ar.add kk) HROW.out)).trans HROW.out
         refine hK.out _ _ ⟨n0d,n1d,n2d,n3d,h0d,h1d,g0d,g1d⟩ (fun hHeld => ?_)
         clear hK K
         refine norm_ (a':=?_) ?_ ?_
         rotate_left
         ·show Act.put _ (some 110) _ = _
          simp only [Act.put,sx_,sy_,sz_,i64_w,i32_w]
          rfl
         refine pu_ (i:=23) (N:=some 111) 25 16777215 ?_
         refine pu_ (i:=24) (N:=some 112) 25 33554431 ?_
         refine done_ (by kernel_rfl) ?_

         go_wp2
         go_roundg (l.length - (kk + 1))
         case measure => omega
         case rel => exact ⟨kk + 1,by omega,by omega,by first|rfl|simp [wrap_eq (x:=(kk : Int) + 1) (by omega) (by omega)]|(rw [wrap_eq (by omega) (by omega)];rfl),HVd⟩
    ·have hkl : kk = l.length:=by omega
     subst hkl
     have p2 : ((l.length : Int) < (l.length : Int)) = False:=eq_false (by omega)
     go_wp2
     go_ret
     exact ⟨by first|rfl|simp,st_ HB.out HV.out⟩
 ·rw [if_neg hw] at h
  cases h

/-- The pure statement of laws_FnNetLearned. -/
def laws_FnNetLearned.Pure : Prop:=∀ (l0 : List Int),l0.length ≤ maxLen → l0.length * 1 ≤ 140737488351232 → (∀ x ∈ l0,(Lit.int .u8 x).wf = true) → ∃ k,laws_FnNetLearned.f k l0 = some true
theorem laws_FnNetLearned.walk (P : laws_FnNetLearned.Pure) (a0 : Option Addr) (len0 cap0 : Nat) (z0 : List Int) (w : World) (w0 : (a0 = none ∧ len0 = 0 ∧ cap0 = 0 ∧ z0 = []) ∨ ∃ x,a0 = some x ∧ len0 ≤ cap0 ∧ cap0 ≤ maxLen ∧ z0.length = cap0 ∧ (∀ i,i < z0.length → w.cell? (x.add i) = some (.int .u8 (z0.getD i 0))) ∧ ∀ n ∈ z0,(Lit.int .u8 n).wf = true) (y0 : len0 * 1 ≤ 140737488351232) :
  Calls Try.prog 5 #[.slice a0 len0 cap0] w fun e w' => e = .returned (.bool true) ∧ Below w.heap.size w w':=by
 obtain ⟨l0,rfl,hr0,hm0,hw0,hc0⟩:=ReadsInt.ofRowC w0
 obtain ⟨k,h⟩:=P l0 hm0 y0 hw0
 refine (laws_FnNetLearned.calls k _ _ l0 true _ (Kd.C_of_reads (d:=(0 : Int)) (h1:=fun _ => rfl) hr0) hc0 h).mono ?_
 rintro e w' ⟨rfl,hd⟩
 exact ⟨rfl,hd⟩

end Go.Proofs.Ytblcnbnphjnhdaa.PAll
