/- Proved here: contracts of functions of the given program, or lemmas on them, for the laws of this seat. Written by xprint.py, a program of this session, on the ground of the kit's print; parts by hand: wip/x/ext. -/
import Derived.Test.YtblcnbnphjnhdaaPAllx0
import Derived.Test.YtblcnbnphjnhdaaPAllx1
import Derived.Test.YtblcnbnphjnhdaaPAllx2
import Derived.Test.YtblcnbnphjnhdaaPAllx3
import Derived.Test.YtblcnbnphjnhdaaPAllx4
namespace Go.Proofs.Ytblcnbnphjnhdaa.PAll
open Go.RowKit Go.Proofs.YtblcnbnphjnhdaaW.PrintWords Go.Proofs.YtblcnbnphjnhdaaW.PrintLast Go.Proofs.YtblcnbnphjnhdaaW.PrintMore
attribute [local go_sem] max2_int min2_int max_two min_two max_three min_three max_four min_four   -- for this text's walks alone
set_option linter.unusedVariables false
set_option linter.unusedSimpArgs false
def memB (s : List Bool) (i : Nat) : Prop:=s[i]? = some true
def relB (s : List Bool) (c : S83) : List Bool:=if rdOf false s c.f0 = true ∨ rdOf false s c.f1 = true then (s.set c.f0.toNat true).set c.f1.toNat true else s
def passB (cs : List S83) : Nat → List Bool → List Bool
 | 0,s => s
 | k + 1,s => cs.foldl relB (passB cs k s)
def jnB (cs : List S83) (N x : Nat) : List Bool:=passB cs N ((List.replicate N false).set x true)
def CabOk (cs : List S83) (N : Nat) : Prop:=∀ c ∈ cs,0 ≤ c.f0 ∧ c.f0 < N ∧ 0 ≤ c.f1 ∧ c.f1 < N
def ClosedP (cs : List S83) (P : Nat → Prop) : Prop:=∀ c ∈ cs,P c.f0.toNat ↔ P c.f1.toNat
theorem rdB_mem (s : List Bool) (x : Int) : rdOf false s x = true ↔ memB s x.toNat:=by
 unfold rdOf memB
 rw [List.getD_eq_getElem?_getD]
 cases s[x.toNat]? with
 | none => simp
 | some b => simp
theorem relB_len (s : List Bool) (c : S83) : (relB s c).length = s.length:=by unfold relB;split <;> simp
theorem foldB_len (cs : List S83) : ∀ s,(cs.foldl relB s).length = s.length:=by
 induction cs with
 | nil => exact fun _ => rfl
 | cons c cs ih => intro s;rw [List.foldl_cons,ih,relB_len]
theorem passB_len (cs : List S83) (k : Nat) (s : List Bool) : (passB cs k s).length = s.length:=by
 induction k with
 | zero => rfl
 | succ k ih => rw [passB,foldB_len,ih]
theorem memB_set (s : List Bool) (j i : Nat) (hj : j < s.length) : memB (s.set j true) i ↔ memB s i ∨ i = j:=by
 unfold memB
 rw [List.getElem?_set]
 by_cases e : j = i
 ·subst e
  rw [if_pos rfl,if_pos hj];simp
 ·rw [if_neg e]
  exact ⟨Or.inl,fun h => h.resolve_right (fun x => e x.symm)⟩
theorem relB_mem (s : List Bool) (c : S83) (h0 : c.f0.toNat < s.length) (h1 : c.f1.toNat < s.length) (i : Nat) : memB (relB s c) i ↔ memB s i ∨ ((i = c.f0.toNat ∨ i = c.f1.toNat) ∧ (memB s c.f0.toNat ∨ memB s c.f1.toNat)):=by
 unfold relB
 split
 ·rename_i h
  rw [rdB_mem,rdB_mem] at h
  rw [memB_set _ _ _ (by rw [List.length_set];exact h1),memB_set _ _ _ h0]
  simp only [h,and_true]
  exact or_assoc
 ·rename_i h
  rw [rdB_mem,rdB_mem] at h
  simp only [h,and_false,or_false]
theorem setB_count (s : List Bool) (j : Nat) (hj : j < s.length) : s.count true ≤ (s.set j true).count true ∧ ((s.set j true).count true = s.count true → s.set j true = s):=by
  have e:=List.count_set (a:=true) (b:=true) hj
  by_cases h : s[j] = true
  · have e2 : s.set j true = s := by
      apply List.ext_getElem (by simp)
      intro n _ h2
      rw [List.getElem_set]
      split
      · rename_i q;subst q;exact h.symm
      · rfl
    rw [e2];exact ⟨Nat.le_refl _,fun _ => rfl⟩
  · have h' : (s[j] == true) = false:=by simpa using h
    rw [h'] at e
    simp at e
    rw [e]
    exact ⟨by omega,fun x => by omega⟩
theorem relB_count (s : List Bool) (c : S83) (h0 : c.f0.toNat < s.length) (h1 : c.f1.toNat < s.length) : s.count true ≤ (relB s c).count true ∧ ((relB s c).count true = s.count true → relB s c = s):=by
 unfold relB
 split
 ·obtain ⟨a1,a2⟩:=setB_count s _ h0
  obtain ⟨b1,b2⟩:=setB_count (s.set c.f0.toNat true) c.f1.toNat (by rw [List.length_set];exact h1)
  refine ⟨by omega,fun e => ?_⟩
  rw [b2 (by omega),a2 (by omega)]
 ·exact ⟨Nat.le_refl _,fun _ => rfl⟩
theorem foldB_count {N : Nat} (cs : List S83) (hc : CabOk cs N) : ∀ s : List Bool,s.length = N → s.count true ≤ (cs.foldl relB s).count true ∧ ((cs.foldl relB s).count true = s.count true → ∀ c ∈ cs,relB s c = s):=by
 induction cs with
 | nil => exact fun s _ => ⟨Nat.le_refl _,fun _ c hc => by cases hc⟩
 | cons c cs ih =>
  intro s hs
  obtain ⟨g1,g2,g3,g4⟩:=hc c (List.mem_cons_self)
  obtain ⟨r1,r2⟩:=relB_count s c (by omega) (by omega)
  obtain ⟨i1,i2⟩:=ih (fun x hx => hc x (List.mem_cons_of_mem _ hx)) (relB s c) (by rw [relB_len];exact hs)
  rw [List.foldl_cons]
  refine ⟨by omega,fun e x hx => ?_⟩
  have e1:=r2 (by omega)
  rw [e1] at i2
  rcases List.mem_cons.1 hx with rfl|hx
  ·exact e1
  ·exact i2 (by rw [e1] at e;exact e) x hx
theorem foldB_fix (cs : List S83) (s : List Bool) (h : ∀ c ∈ cs,relB s c = s) : cs.foldl relB s = s:=by
 induction cs with
 | nil => rfl
 | cons c cs ih => rw [List.foldl_cons,h c List.mem_cons_self];exact ih (fun x hx => h x (List.mem_cons_of_mem _ hx))
theorem passB_grow {N : Nat} (cs : List S83) (hc : CabOk cs N) (s : List Bool) (hs : s.length = N) (k : Nat) : (∀ c ∈ cs,relB (passB cs k s) c = passB cs k s) ∨ s.count true + k ≤ (passB cs k s).count true:=by
 induction k with
 | zero => right;exact Nat.le_refl _
 | succ k ih =>
  rcases ih with h|h
  ·left
   have e : passB cs (k + 1) s = passB cs k s:=foldB_fix cs _ h
   rw [e];exact h
  ·obtain ⟨i1,i2⟩:=foldB_count cs hc (passB cs k s) (by rw [passB_len];exact hs)
   by_cases e : (cs.foldl relB (passB cs k s)).count true = (passB cs k s).count true
   ·left
    have e' : passB cs (k + 1) s = passB cs k s:=foldB_fix cs _ (i2 e)
    rw [e'];exact i2 e
   ·right
    show _ ≤ (cs.foldl relB (passB cs k s)).count true
    omega
theorem memB_lt {s : List Bool} {i : Nat} (h : memB s i) : i < s.length:=(List.getElem?_eq_some_iff.1 h).1
theorem passB_closed {N : Nat} (cs : List S83) (hc : CabOk cs N) (s : List Bool) (hs : s.length = N) (x : Nat) (hx : memB s x) : ClosedP cs (memB (passB cs N s)):=by
 have hl:=passB_len cs N s
 have h1 : 1 ≤ s.count true:=List.count_pos_iff.2 (List.mem_of_getElem? hx)
 have hfix : ∀ c ∈ cs,relB (passB cs N s) c = passB cs N s:=by
  rcases passB_grow cs hc s hs N with h|h
  ·exact h
  ·have:=List.count_le_length (a:=true) (l:=passB cs N s)
   omega
 intro c hm
 obtain ⟨g1,g2,g3,g4⟩:=hc c hm
 have e:=fun i => relB_mem (passB cs N s) c (by omega) (by omega) i
 rw [hfix c hm] at e
 constructor
 ·intro h;exact (e _).2 (Or.inr ⟨Or.inr rfl,Or.inl h⟩)
 ·intro h;exact (e _).2 (Or.inr ⟨Or.inl rfl,Or.inr h⟩)
theorem foldB_mem {N : Nat} (cs : List S83) (hc : CabOk cs N) : ∀ s : List Bool,s.length = N → (∀ i,memB s i → memB (cs.foldl relB s) i) ∧ ∀ P : Nat → Prop,ClosedP cs P → (∀ i,memB s i → P i) → ∀ i,memB (cs.foldl relB s) i → P i:=by
  induction cs with
  | nil => exact fun s _ => ⟨fun _ h => h,fun P _ h => h⟩
  | cons c cs ih =>
    intro s hs
    obtain ⟨g1,g2,g3,g4⟩:=hc c (List.mem_cons_self)
    obtain ⟨i1,i2⟩:=ih (fun x hx => hc x (List.mem_cons_of_mem _ hx)) (relB s c) (by rw [relB_len];exact hs)
    have e:=fun i => relB_mem s c (by omega) (by omega) i
    rw [List.foldl_cons]
    refine ⟨fun i h => i1 i ((e i).2 (Or.inl h)),fun P hP h => i2 P (fun x hx => hP x (List.mem_cons_of_mem _ hx)) (fun i hi => ?_)⟩
    have hc':=hP c List.mem_cons_self
    rcases (e i).1 hi with q | ⟨q,w⟩
    · exact h i q
    · have hb : P c.f0.toNat := by
        rcases w with w | w
        · exact h _ w
        · exact hc'.2 (h _ w)
      rcases q with rfl | rfl
      · exact hb
      · exact hc'.1 hb
theorem passB_mem {N : Nat} (cs : List S83) (hc : CabOk cs N) (s : List Bool) (hs : s.length = N) (k : Nat) : (∀ i,memB s i → memB (passB cs k s) i) ∧ ∀ P : Nat → Prop,ClosedP cs P → (∀ i,memB s i → P i) → ∀ i,memB (passB cs k s) i → P i:=by
 induction k with
 | zero => exact ⟨fun _ h => h,fun P _ h => h⟩
 | succ k ih =>
  obtain ⟨i1,i2⟩:=ih
  obtain ⟨j1,j2⟩:=foldB_mem cs hc (passB cs k s) (by rw [passB_len];exact hs)
  exact ⟨fun i h => j1 i (i1 i h),fun P hP h => j2 P hP (i2 P hP h)⟩
theorem oneB_mem {N x : Nat} (hx : x < N) (i : Nat) : memB ((List.replicate N false).set x true) i ↔ i = x:=by
 rw [memB_set _ _ _ (by simp;exact hx)]
 constructor
 ·rintro (h|h)
  ·unfold memB at h
   rw [List.getElem?_replicate] at h
   split at h <;> simp at h
  ·exact h
 ·exact Or.inr
theorem jnB_len (cs : List S83) (N x : Nat) : (jnB cs N x).length = N:=by unfold jnB;rw [passB_len];simp
theorem jnB_self {N x : Nat} {cs : List S83} (hc : CabOk cs N) (hx : x < N) : memB (jnB cs N x) x:=(passB_mem cs hc _ (by simp) N).1 x ((oneB_mem hx x).2 rfl)
theorem jnB_closed {N x : Nat} {cs : List S83} (hc : CabOk cs N) (hx : x < N) : ClosedP cs (memB (jnB cs N x)):=passB_closed cs hc _ (by simp) x ((oneB_mem hx x).2 rfl)
theorem jnB_least {N x : Nat} {cs : List S83} (hc : CabOk cs N) (hx : x < N) {P : Nat → Prop} (hP : ClosedP cs P) (h : P x) {i : Nat} (hi : memB (jnB cs N x) i) : P i :=
 (passB_mem cs hc _ (by simp) N).2 P hP (fun j hj => by rw [(oneB_mem hx j).1 hj];exact h) i hi
theorem jnB_symm {N x y : Nat} {cs : List S83} (hc : CabOk cs N) (hx : x < N) (hy : y < N) (h : memB (jnB cs N x) y) : memB (jnB cs N y) x:=by
 by_cases c : memB (jnB cs N y) x
 ·exact c
 ·have hP : ClosedP cs (fun i => ¬ memB (jnB cs N y) i):=fun k hk => not_congr (jnB_closed hc hy k hk)
  exact absurd (jnB_self hc hy) (jnB_least hc hx hP c h)
theorem jnB_trans {N x y z : Nat} {cs : List S83} (hc : CabOk cs N) (hx : x < N) (hy : y < N) (h : memB (jnB cs N x) y) (h2 : memB (jnB cs N y) z) : memB (jnB cs N x) z :=
 jnB_least hc hy (jnB_closed hc hx) h h2
-- the roots
def thrB (m : Int) (o : List Int) : List Bool:=o.map fun v => decide (v ≤ m)
theorem thrB_mem (m : Int) (o : List Int) (i : Nat) (hi : i < o.length) : memB (thrB m o) i ↔ o[i] ≤ m:=by
 unfold memB thrB
 rw [List.getElem?_map,List.getElem?_eq_getElem hi]
 simp
theorem thrB_rel (m : Int) (o : List Int) (c : S83) (g1 : 0 ≤ c.f0) (g2 : c.f0 < o.length) (g3 : 0 ≤ c.f1) (g4 : c.f1 < o.length) : thrB m (relaxR o c) = relB (thrB m o) c:=by
 obtain ⟨a,ha⟩:=Int.eq_ofNat_of_zero_le g1
 obtain ⟨b,hb⟩:=Int.eq_ofNat_of_zero_le g3
 have la : a < o.length:=by omega
 have lb : b < o.length:=by omega
 have e1 : rdOf false (thrB m o) c.f0 = decide (o[a] ≤ m):=by rw [ha];simp [rdOf,thrB,List.getD_eq_getElem?_getD,la]
 have e2 : rdOf false (thrB m o) c.f1 = decide (o[b] ≤ m):=by rw [hb];simp [rdOf,thrB,List.getD_eq_getElem?_getD,lb]
 have d1 : rd o c.f0 = o[a]:=by rw [ha];exact rd_get o a la
 have d2 : rd o c.f1 = o[b]:=by rw [hb];exact rd_get o b lb
 have hmin : decide (mn (o[a]) (o[b]) ≤ m) = (decide (o[a] ≤ m) || decide (o[b] ≤ m)):=by
  rw [← Bool.decide_or,decide_eq_decide]
  show (if o[b] < o[a] then o[b] else o[a]) ≤ m ↔ _
  split <;> omega
 unfold relaxR relB
 rw [e1,e2,d1,d2]
 unfold thrB
 rw [List.map_set,List.map_set,hmin]
 by_cases h : decide (o[a] ≤ m) = true ∨ decide (o[b] ≤ m) = true
 ·rw [if_pos h,show (decide (o[a] ≤ m) || decide (o[b] ≤ m)) = true by simpa using h]
 ·rw [if_neg h]
  have h1 : decide (o[a] ≤ m) = false:=by cases q : decide (o[a] ≤ m) <;> simp_all
  have h2 : decide (o[b] ≤ m) = false:=by cases q : decide (o[b] ≤ m) <;> simp_all
  rw [h1,h2,Bool.or_self]
  apply List.ext_getElem (by simp)
  intro n _ h2'
  rw [List.getElem_set,List.getElem_set]
  simp only [hb,ha,Int.toNat_natCast]
  have hn : n < o.length:=by simpa using h2'
  split
  ·rename_i q;subst q;simp [h2]
  ·split
   ·rename_i q;subst q;simp [h1]
   ·rfl
theorem thrB_fold (m : Int) {N : Nat} (cs : List S83) (hc : CabOk cs N) : ∀ o : List Int,o.length = N → thrB m (cs.foldl relaxR o) = cs.foldl relB (thrB m o):=by
 induction cs with
 | nil => exact fun _ _ => rfl
 | cons c cs ih =>
  intro o ho
  obtain ⟨g1,g2,g3,g4⟩:=hc c (List.mem_cons_self)
  rw [List.foldl_cons,List.foldl_cons,ih (fun x hx => hc x (List.mem_cons_of_mem _ hx)) _ (by unfold relaxR;simp;exact ho),thrB_rel m o c g1 (by omega) g3 (by omega)]
theorem thrB_pass (m : Int) {N : Nat} (cs : List S83) (hc : CabOk cs N) (o : List Int) (ho : o.length = N) (k : Nat) : thrB m (passR cs k o) = passB cs k (thrB m o):=by
 induction k with
 | zero => rfl
 | succ k ih => rw [passR,passB,thrB_fold m cs hc _ (by rw [passR_len];exact ho),ih]
theorem fillL_get (k : Nat) (l : List Int) (i : Nat) (hi : i < (fillL k l).length) (hk : i < k) : (fillL k l)[i] = (i : Int):=by
 induction k with
 | zero => omega
 | succ k ih =>
  simp only [fillL] at hi ⊢
  rw [List.getElem_set]
  split
  ·rename_i q;subst q;rfl
  ·exact ih (by rw [List.length_set] at hi;exact hi) (by omega)
theorem rootsL_len (N : Nat) (cs : List S83) : (rootsL N cs).length = N:=by unfold rootsL;rw [passR_len,fillL_len];simp
theorem roots_le {N i : Nat} {cs : List S83} (hc : CabOk cs N) (hi : i < N) (m : Int) : (rootsL N cs)[i]'(by rw [rootsL_len];exact hi) ≤ m ↔ ∃ b : Nat,b < N ∧ (b : Int) ≤ m ∧ memB (jnB cs N b) i:=by
 have hfl : (fillL N (List.replicate N 0)).length = N:=by rw [fillL_len];simp
 rw [← thrB_mem m (rootsL N cs) i (by rw [rootsL_len];exact hi)]
 unfold rootsL
 rw [thrB_pass m cs hc _ hfl]
 have hst : ∀ j,memB (thrB m (fillL N (List.replicate N 0))) j ↔ j < N ∧ (j : Int) ≤ m:=by
  intro j
  constructor
  ·intro h
   have hj : j < N:=by have:=memB_lt h;unfold thrB at this;rw [List.length_map,hfl] at this;exact this
   rw [thrB_mem _ _ _ (by omega),fillL_get _ _ _ (by omega) hj] at h
   exact ⟨hj,h⟩
  ·rintro ⟨h1,h2⟩
   rw [thrB_mem _ _ _ (by omega),fillL_get _ _ _ (by omega) h1]
   exact h2
 have hlen : (thrB m (fillL N (List.replicate N 0))).length = N:=by unfold thrB;rw [List.length_map,hfl]
 obtain ⟨p1,p2⟩:=passB_mem cs hc (thrB m (fillL N (List.replicate N 0))) hlen N
 constructor
 ·intro h
  refine p2 (fun i => ∃ b : Nat,b < N ∧ (b : Int) ≤ m ∧ memB (jnB cs N b) i) ?_ ?_ i h
  ·intro c hcm
   exact ⟨fun ⟨b,h1,h2,h3⟩ => ⟨b,h1,h2,(jnB_closed hc h1 c hcm).1 h3⟩,fun ⟨b,h1,h2,h3⟩ => ⟨b,h1,h2,(jnB_closed hc h1 c hcm).2 h3⟩⟩
  ·intro j hj
   obtain ⟨h1,h2⟩:=(hst j).1 hj
   exact ⟨j,h1,h2,jnB_self hc h1⟩
 ·rintro ⟨b,h1,h2,h3⟩
  have hb:=(hst b).2 ⟨h1,h2⟩
  exact jnB_least hc h1 (passB_closed cs hc _ hlen b hb) (p1 b hb) h3
theorem roots_join {N i j : Nat} {cs : List S83} (hc : CabOk cs N) (hi : i < N) (hj : j < N) : (rootsL N cs)[i]'(by rw [rootsL_len];exact hi) = (rootsL N cs)[j]'(by rw [rootsL_len];exact hj) ↔ memB (jnB cs N i) j:=by
 constructor
 ·intro e
  obtain ⟨b,b1,b2,b3⟩:=(roots_le hc hi _).1 (Int.le_refl _)
  obtain ⟨d,d1,d2,d3⟩:=(roots_le hc hj _).1 (Int.le_refl _)
  have q1:=(roots_le hc hi (d : Int))
  have x1:=jnB_symm hc b1 hi b3
  have x2:=jnB_symm hc d1 hj d3
  have y1 : (rootsL N cs)[i]'(by rw [rootsL_len];exact hi) ≤ b:=(roots_le hc hi _).2 ⟨b,b1,Int.le_refl _,b3⟩
  have y2 : (rootsL N cs)[j]'(by rw [rootsL_len];exact hj) ≤ d:=(roots_le hc hj _).2 ⟨d,d1,Int.le_refl _,d3⟩
  have : b = d:=by omega
  subst this
  exact jnB_trans hc hi b1 x1 d3
 ·intro h
  have h':=jnB_symm hc hi hj h
  apply Int.le_antisymm
  ·obtain ⟨d,d1,d2,d3⟩:=(roots_le hc hj _).1 (Int.le_refl _)
   exact (roots_le hc hi _).2 ⟨d,d1,d2,jnB_trans hc d1 hj d3 h'⟩
  ·obtain ⟨d,d1,d2,d3⟩:=(roots_le hc hi _).1 (Int.le_refl _)
   exact (roots_le hc hj _).2 ⟨d,d1,d2,jnB_trans hc d1 hi d3 h⟩
theorem l1In_is (n a b : Int) : spec_l1In.f n a b = some (decide (a ≤ n) && decide (n ≤ b)):=by
 unfold spec_l1In.f
 by_cases h : n ≥ a
 ·rw [if_pos h,decide_eq_true (show a ≤ n from h),Bool.true_and]
 ·rw [if_neg h,decide_eq_false (show ¬ a ≤ n from h),Bool.false_and]
theorem scabs_at (n : Int) (l : List S83) (hl : l.length ≤ 9223372036854775807) (d : Nat) : ∀ (k i : Nat),i + d = l.length → d < k → spec_CablesValid.l0 k n l (i : Int) = some ((l.drop i).all (cabB n)):=by
 induction d with
 | zero =>
  intro k i h1 hk
  obtain ⟨k,rfl⟩ : ∃ m,k = m + 1:=⟨k - 1,by omega⟩
  simp only [spec_CablesValid.l0]
  rw [if_neg (by omega),List.drop_of_length_le (by omega)]
  rfl
 | succ d ih =>
  intro k i h1 hk
  obtain ⟨k,rfl⟩ : ∃ m,k = m + 1:=⟨k - 1,by omega⟩
  simp only [spec_CablesValid.l0]
  rw [if_pos (by omega),if_pos (by omega),rdCab_get l i (by omega),l1In_is,l1In_is,l1In_is,wrap_succ (show i < l.length by omega) (by omega),ih k (i + 1) (by omega) (by omega),List.drop_eq_getElem_cons (show i < l.length by omega),List.all_cons]
  simp only [Option.bind_some]
  unfold cabB
  cases (decide (0 ≤ l[i].f0) && decide (l[i].f0 ≤ wrap64 (n - 1))) with
  | false => rw [if_neg (by decide)];simp
  | true =>
   rw [if_pos rfl]
   cases (decide (0 ≤ l[i].f1) && decide (l[i].f1 ≤ wrap64 (n - 1))) with
   | false => rw [if_neg (by decide)];simp
   | true =>
    rw [if_pos rfl]
    by_cases e : l[i].f0 = l[i].f1
    ·rw [if_pos e,bne_eq_false_iff_eq.mpr e];simp
    ·rw [if_neg e,bne_iff_ne.mpr e]
     cases (decide (1 ≤ l[i].f2) && decide (l[i].f2 ≤ 99)) with
     | false => rw [if_neg (by decide)];simp
     | true => rw [if_pos rfl];simp
theorem scabs_eq (n : Int) (l : List S83) (hl : l.length ≤ 9223372036854775807) (k : Nat) (hk : l.length + 1 < k) : spec_CablesValid.f k n l = some (cabsB n l):=by
 obtain ⟨k,rfl⟩ : ∃ m,k = m + 1:=⟨k - 1,by omega⟩
 unfold spec_CablesValid.f cabsB
 rw [l1In_is,Option.bind_some]
 simp only [spec_CablesValid.j0]
 cases (decide (1 ≤ n) && decide (n ≤ 8)) with
 | false => rw [if_neg (by decide),if_pos trivial];rfl
 | true =>
  rw [if_pos rfl]
  by_cases c : l.length ≤ 20
  ·rw [decide_eq_false (show ¬ (l.length : Int) > 20 by omega),if_neg (by decide),decide_eq_true c]
   exact (scabs_at n l hl l.length k 0 (by omega) (by omega)).trans (by rw [List.drop_zero];rfl)
  ·rw [decide_eq_true (show (l.length : Int) > 20 by omega),if_pos rfl,decide_eq_false c]
   rfl
theorem snet_l1 (n : Int) (cs : List S83) (hs vs : List Int) (hc : cs.length ≤ 9223372036854775807) (hl : hs.length ≤ 9223372036854775807) (hv : vs.length ≤ 9223372036854775807) (d : Nat) : ∀ (k i : Nat),i + d = vs.length → d + cs.length + 2 < k → spec_NetValid.l1 k (i : Int) n cs hs vs = some ((vs.drop i).all vlB && (cabsB n cs && (decide (vs.length = hs.length) && decide (hs.length ≤ 15)))):=by
 induction d with
 | zero =>
  intro k i h1 hk
  obtain ⟨k,rfl⟩ : ∃ m,k = m + 1:=⟨k - 1,by omega⟩
  simp only [spec_NetValid.l1]
  rw [if_neg (by omega),List.drop_of_length_le (by omega),scabs_eq n cs hc k (by omega),Option.bind_some]
  have e15 : decide ((hs.length : Int) ≤ 15) = decide (hs.length ≤ 15):=by rw [decide_eq_decide];omega
  rw [e15]
  cases cabsB n cs with
  | false => rw [if_neg (by decide)];simp
  | true =>
   rw [if_pos rfl]
   by_cases e : hs.length = vs.length
   ·rw [if_pos (by omega),decide_eq_true e.symm];simp
   ·rw [if_neg (by omega),decide_eq_false (fun h => e h.symm)];simp
 | succ d ih =>
  intro k i h1 hk
  obtain ⟨k,rfl⟩ : ∃ m,k = m + 1:=⟨k - 1,by omega⟩
  have e : spec_l10Vlan.f vs[i] = some (vlB vs[i]):=by unfold spec_l10Vlan.f;rw [l1In_is];rfl
  simp only [spec_NetValid.l1]
  rw [if_pos (by omega),if_pos (by omega),rd_get vs i (by omega),e,Option.bind_some,wrap_succ (show i < vs.length by omega) (by omega),ih k (i + 1) (by omega) (by omega),List.drop_eq_getElem_cons (show i < vs.length by omega),List.all_cons]
  cases vlB vs[i] with
  | false => rw [if_neg (by decide)];simp
  | true => rw [if_pos rfl];simp
theorem snet_l0 (n : Int) (cs : List S83) (hs vs : List Int) (hc : cs.length ≤ 9223372036854775807) (hl : hs.length ≤ 9223372036854775807) (hv : vs.length ≤ 9223372036854775807) (d : Nat) : ∀ (k i : Nat),i + d = hs.length → d + vs.length + cs.length + 3 < k → spec_NetValid.l0 k (i : Int) n cs hs vs = some ((hs.drop i).all (brB n) && (vs.all vlB && (cabsB n cs && (decide (vs.length = hs.length) && decide (hs.length ≤ 15))))):=by
 induction d with
 | zero =>
  intro k i h1 hk
  obtain ⟨k,rfl⟩ : ∃ m,k = m + 1:=⟨k - 1,by omega⟩
  have e:=snet_l1 n cs hs vs hc hl hv vs.length k 0 (by omega) (by omega)
  simp only [spec_NetValid.l0]
  rw [if_neg (by omega),List.drop_of_length_le (by omega)]
  exact e.trans (by rw [List.drop_zero];simp)
 | succ d ih =>
  intro k i h1 hk
  obtain ⟨k,rfl⟩ : ∃ m,k = m + 1:=⟨k - 1,by omega⟩
  simp only [spec_NetValid.l0]
  rw [if_pos (by omega),if_pos (by omega),rd_get hs i (by omega),l1In_is,Option.bind_some,wrap_succ (show i < hs.length by omega) (by omega),ih k (i + 1) (by omega) (by omega),List.drop_eq_getElem_cons (show i < hs.length by omega),List.all_cons]
  have e : brB n hs[i] = (decide (0 ≤ hs[i]) && decide (hs[i] ≤ wrap64 (n - 1))):=rfl
  rw [← e]
  cases brB n hs[i] with
  | false => rw [if_neg (by decide)];simp
  | true => rw [if_pos rfl];simp
theorem snet_eq (n : Int) (cs : List S83) (hs vs : List Int) (hc : cs.length ≤ 9223372036854775807) (hl : hs.length ≤ 9223372036854775807) (hv : vs.length ≤ 9223372036854775807) (k : Nat) (hk : hs.length + vs.length + cs.length + 3 < k) : spec_NetValid.f k n cs hs vs = some (netB n cs hs vs):=by
 unfold spec_NetValid.f
 refine (snet_l0 n cs hs vs hc hl hv hs.length k 0 (by omega) (by omega)).trans ?_
 rw [List.drop_zero]
 unfold netB
 cases hs.all (brB n) <;> cases vs.all vlB <;> cases cabsB n cs <;> cases decide (vs.length = hs.length) <;> cases decide (hs.length ≤ 15) <;> rfl
theorem inet_eq (n : Int) (cs : List S83) (hs vs : List Int) : impl_NetValid.f n cs hs vs = some (netB n cs hs vs):=rfl
theorem sjoin_l1 (N : Nat) (cs : List S83) (hc : CabOk cs N) (hl : cs.length ≤ 9223372036854775807) (j : Int) (d : Nat) :
  ∀ (k i : Nat) (s : List Bool),i + d = cs.length → s.length = N → d < k → spec_l7Joined.l1 k cs s (i : Int) (N : Int) j = spec_l7Joined.l0 (k - d - 1) cs ((cs.drop i).foldl relB s) (N : Int) (wrap64 (j + 1)):=by
 induction d with
 | zero =>
  intro k i s h1 h2 hk
  obtain ⟨k,rfl⟩ : ∃ m,k = m + 1:=⟨k - 1,by omega⟩
  simp only [spec_l7Joined.l1]
  rw [if_neg (by omega),List.drop_of_length_le (by omega)]
  rfl
 | succ d ih =>
  intro k i s h1 h2 hk
  obtain ⟨k,rfl⟩ : ∃ m,k = m + 1:=⟨k - 1,by omega⟩
  have hi : i < cs.length:=by omega
  obtain ⟨g1,g2,g3,g4⟩:=hc _ (List.getElem_mem hi)
  simp only [spec_l7Joined.l1]
  rw [if_pos (by omega),if_pos (by omega),rdCab_get cs i hi,if_pos g1,if_pos (by omega),wrap_succ hi (by omega),List.drop_eq_getElem_cons hi,List.foldl_cons,show k + 1 - (d + 1) - 1 = k - d - 1 by omega]
  have hr : (relB s cs[i]).length = N:=by rw [relB_len];exact h2
  rw [← ih k (i + 1) _ (by omega) hr (by omega)]
  unfold relB
  by_cases c0 : rdOf false s cs[i].f0 = true
  ·rw [if_pos c0,if_pos g3,if_pos (by omega),if_pos (Or.inl c0)]
  ·rw [if_neg c0,if_pos g3,if_pos (by omega)]
   by_cases c1 : rdOf false s cs[i].f1 = true
   ·rw [if_pos c1,if_pos (Or.inr c1)]
   ·rw [if_neg c1,if_neg (fun h => h.elim c0 c1)]
theorem sjoin_l0 (N : Nat) (hN : N ≤ 1000000) (cs : List S83) (hc : CabOk cs N) (hl : cs.length ≤ 1000000) (s0 : List Bool) (hs : s0.length = N) (d : Nat) :
  ∀ (k j : Nat),j + d = N → (cs.length + 2) * d < k → spec_l7Joined.l0 k cs (passB cs j s0) (N : Int) (j : Int) = some (passB cs N s0):=by
 induction d with
 | zero =>
  intro k j h1 hk
  obtain ⟨k,rfl⟩ : ∃ m,k = m + 1:=⟨k - 1,by omega⟩
  obtain rfl : j = N:=by omega
  simp only [spec_l7Joined.l0]
  rw [if_neg (by omega)]
 | succ d ih =>
  intro k j h1 hk
  rw [Nat.mul_add,Nat.mul_one] at hk
  obtain ⟨k,rfl⟩ : ∃ m,k = m + 1:=⟨k - 1,by omega⟩
  simp only [spec_l7Joined.l0]
  have e:=sjoin_l1 N cs hc (by omega) (j : Int) cs.length k 0 (passB cs j s0) (by omega) (by rw [passB_len];exact hs) (by omega)
  rw [if_pos (by omega)]
  refine e.trans ?_
  rw [List.drop_zero,wrap_succ (show j < N by omega) (by omega)]
  exact ih _ (j + 1) (by omega) (by omega)
theorem sjoin_eq (N x : Nat) (hx : x < N) (hN : N ≤ 1000000) (cs : List S83) (hc : CabOk cs N) (hl : cs.length ≤ 1000000) (k : Nat) (hk : (cs.length + 2) * N < k) : spec_l7Joined.f k (N : Int) cs (x : Int) = some (jnB cs N x):=by
 unfold spec_l7Joined.f
 rw [if_pos (by omega),if_pos (by omega),Option.bind_some,if_pos (by omega),if_pos (by rw [List.length_replicate];omega),Int.toNat_natCast,Int.toNat_natCast]
 exact sjoin_l0 N hN cs hc hl _ (by simp) N k 0 (by omega) hk
def filM (p : Int → Bool) : Nat → Int → List Int
 | 0,_ => []
 | d + 1,i => if p i = true then i :: filM p d (i + 1) else filM p d (i + 1)
theorem filM_len (p : Int → Bool) (d : Nat) : ∀ i,(filM p d i).length ≤ d:=by
  induction d with
  | zero => exact fun _ => Nat.le_refl _
  | succ d ih => intro i; have := ih (i + 1); rw [filM]; split
                 · rw [List.length_cons];omega
                 · omega
theorem filM_mem (p : Int → Bool) (d : Nat) : ∀ i x,x ∈ filM p d i ↔ i ≤ x ∧ x < i + d ∧ p x = true:=by
  induction d with
  | zero => intro i x; rw [filM]; constructor
            · intro h;cases h
            · intro h;omega
  | succ d ih =>
    intro i x
    rw [filM]
    by_cases c : p i = true
    · rw [if_pos c,List.mem_cons,ih]
      constructor
      · rintro (h | h)
        · subst h;exact ⟨by omega,by omega,c⟩
        · exact ⟨by omega,by omega,h.2.2⟩
      · rintro ⟨h1,h2,h3⟩
        by_cases e : x = i
        · exact Or.inl e
        · exact Or.inr ⟨by omega,by omega,h3⟩
    · rw [if_neg c,ih]
      constructor
      · rintro ⟨h1,h2,h3⟩;exact ⟨by omega,by omega,h3⟩
      · rintro ⟨h1,h2,h3⟩
        refine ⟨?_,by omega,h3⟩
        by_cases e : x = i
        · subst e;exact absurd h3 c
        · omega
theorem netB_facts {n : Int} {cs : List S83} {hs vs : List Int} (h : netB n cs hs vs = true) : cabsB n cs = true ∧ hs.length ≤ 15 ∧ vs.length = hs.length ∧ (∀ x ∈ hs,0 ≤ x ∧ x < n):=by
 unfold netB at h
 simp only [Bool.and_eq_true,decide_eq_true_eq,List.all_eq_true] at h
 obtain ⟨h1,h2,h3,h4,h5⟩:=h
 obtain ⟨f1,f2,_,_⟩:=cabsB_facts h1
 refine ⟨h1,h2,h3,fun x hx => ?_⟩
 have:=h4 x hx
 unfold brB at this
 have e : wrap64 (n - 1) = n - 1:=by unfold wrap64;omega
 rw [e] at this
 simp only [Bool.and_eq_true,decide_eq_true_eq] at this
 omega
theorem cabOk_of {N : Nat} {cs : List S83} (h : cabsB (N : Int) cs = true) : CabOk cs N:=fun c hc => by
 obtain ⟨_,_,_,f⟩:=cabsB_facts h
 have:=f c hc
 omega
theorem istation_eq (n : Int) (cs : List S83) (hs vs : List Int) (s : Int) : impl_Net_station.f n cs hs vs s = some (decide (netB n cs hs vs = true ∧ 0 ≤ s ∧ s < hs.length)):=by
 unfold impl_Net_station.f
 rw [inet_eq,Option.bind_some]
 cases hv : netB n cs hs vs with
 | false => rw [if_neg (by decide)];simp
 | true =>
  obtain ⟨q1,q2,q3,q4⟩:=netB_facts hv
  rw [if_pos rfl,win_is,Option.bind_some,wrap_eq (by omega) (by omega),← Bool.decide_and]
  congr 1
  rw [decide_eq_decide]
  simp only [true_and]
  omega
theorem sstation_eq (n : Int) (cs : List S83) (hs vs : List Int) (s : Int) (h : hs.length ≤ 1048576) : spec_l19Station.f n cs hs vs s = some (decide (0 ≤ s ∧ s < hs.length)):=by
 unfold spec_l19Station.f
 rw [l1In_is,Option.bind_some,wrap_eq (by omega) (by omega),← Bool.decide_and]
 congr 1
 rw [decide_eq_decide]
 omega
def relC (o : List Int) (c : S83) : List Int:=(o.set c.f0.toNat (mn (rd o c.f0) (rd o c.f1 + c.f2))).set c.f1.toNat (mn (rd (o.set c.f0.toNat (mn (rd o c.f0) (rd o c.f1 + c.f2))) c.f1) (rd (o.set c.f0.toNat (mn (rd o c.f0) (rd o c.f1 + c.f2))) c.f0 + c.f2))
def passC (cs : List S83) : Nat → List Int → List Int
 | 0,o => o
 | k + 1,o => cs.foldl relC (passC cs k o)
theorem relC_len (o : List Int) (c : S83) : (relC o c).length = o.length:=by unfold relC;simp
theorem foldC_len (cs : List S83) : ∀ o,(cs.foldl relC o).length = o.length:=by
 induction cs with
 | nil => exact fun _ => rfl
 | cons c cs ih => intro o;rw [List.foldl_cons,ih,relC_len]
theorem passC_len (cs : List S83) (k : Nat) (o : List Int) : (passC cs k o).length = o.length:=by
 induction k with
 | zero => rfl
 | succ k ih => rw [passC,foldC_len,ih]
def gD (o : List Int) (b : Nat) : Int:=o.getD b 0
theorem rd_gD (o : List Int) (b : Nat) : rd o (b : Int) = gD o b:=by simp [rd,rdOf,gD]
theorem gD_set (o : List Int) (a p : Nat) (v : Int) (h : a < o.length) : gD (o.set a v) p = if p = a then v else gD o p:=by
 unfold gD
 rw [List.getD_eq_getElem?_getD,List.getD_eq_getElem?_getD,List.getElem?_set]
 by_cases e : a = p
 ·subst e;rw [if_pos rfl,if_pos h,if_pos rfl];rfl
 ·rw [if_neg e,if_neg (fun h => e h.symm)]
theorem relC_get (o : List Int) (a b : Nat) (p : Int) (ha : a < o.length) (hb : b < o.length) (hab : a ≠ b) (x : Nat) :
  gD (relC o ⟨(a : Int),(b : Int),p⟩) x = if x = b then mn (gD o b) (mn (gD o a) (gD o b + p) + p) else if x = a then mn (gD o a) (gD o b + p) else gD o x:=by
 unfold relC
 simp only [Int.toNat_natCast,rd_gD]
 have hba : (b = a) = False:=eq_false (fun e => hab e.symm)
 rw [gD_set _ _ _ _ (by rw [List.length_set];exact hb)]
 simp only [gD_set o a _ _ ha,hba,if_false,if_true]
structure SameC (N : Nat) (F : List Bool) (x y : List Int) : Prop where
 fl : F.length = N
 xl : x.length = N
 yl : y.length = N
 yes : ∀ b,b < N → memB F b → gD x b = gD y b ∧ 0 ≤ gD x b ∧ gD x b ≤ 99 * (F.count true : Int)
 no : ∀ b,b < N → ¬ memB F b → gD x b = 1073741824 ∧ gD y b = 10000
theorem mn_def (a b : Int) : mn a b = if b < a then b else a:=rfl
theorem mn_cases (a b : Int) : (mn a b = b ∧ b < a) ∨ (mn a b = a ∧ a ≤ b):=by
 rw [mn_def]
 split
 ·exact Or.inl ⟨rfl,by assumption⟩
 ·exact Or.inr ⟨rfl,by omega⟩
theorem sameC_step {N : Nat} {F : List Bool} {x y : List Int} (h : SameC N F x y) (hN : N ≤ 8) (c : S83) (h0 : 0 ≤ c.f0) (h1 : c.f0 < N) (h2 : 0 ≤ c.f1) (h3 : c.f1 < N) (hne : c.f0 ≠ c.f1) (hc1 : 1 ≤ c.f2) (hc2 : c.f2 ≤ 99) : SameC N (relB F c) (relC x c) (relC y c):=by
 obtain ⟨fl,xl,yl,yes,no⟩:=h
 obtain ⟨cA,cB,p⟩:=c
 simp only [] at h0 h1 h2 h3 hne hc1 hc2
 obtain ⟨a,rfl⟩:=Int.eq_ofNat_of_zero_le h0
 obtain ⟨b,rfl⟩:=Int.eq_ofNat_of_zero_le h2
 have ha : a < N:=by omega
 have hb : b < N:=by omega
 have hab : a ≠ b:=by omega
 have hF:=fun i => relB_mem F ⟨(a : Int),(b : Int),p⟩ (by simp;omega) (by simp;omega) i
 simp only [Int.toNat_natCast] at hF
 have hcnt:=relB_count F ⟨(a : Int),(b : Int),p⟩ (by simp;omega) (by simp;omega)
 have hct : F.count true ≤ N:=by have:=List.count_le_length (a:=true) (l:=F);omega
 have gx:=relC_get x a b p (by omega) (by omega) hab
 have gy:=relC_get y a b p (by omega) (by omega) hab
 have hgrow : (memB F a ∨ memB F b) → ¬ (memB F a ∧ memB F b) → F.count true + 1 ≤ (relB F ⟨(a : Int),(b : Int),p⟩).count true:=by
  intro e1 e2
  by_cases e : (relB F ⟨(a : Int),(b : Int),p⟩).count true = F.count true
  ·exfalso
   have hq:=hcnt.2 e
   apply e2
   constructor
   ·have:=(hF a).2 (Or.inr ⟨Or.inl rfl,e1⟩);rw [hq] at this;exact this
   ·have:=(hF b).2 (Or.inr ⟨Or.inr rfl,e1⟩);rw [hq] at this;exact this
  ·have:=hcnt.1;omega
 refine ⟨by rw [relB_len];exact fl,by rw [relC_len];exact xl,by rw [relC_len];exact yl,?_,?_⟩
 ·intro i hi hm
  have hm':=(hF i).1 hm
  rw [gx,gy]
  have hle:=hcnt.1
  by_cases fa : memB F a
  ·obtain ⟨a1,a2,a3⟩:=yes a ha fa
   by_cases fb : memB F b
   ·obtain ⟨b1,b2,b3⟩:=yes b hb fb
    rw [← a1,← b1]
    have m1:=mn_cases (gD x a) (gD x b + p)
    have m2:=mn_cases (gD x b) (mn (gD x a) (gD x b + p) + p)
    generalize mn (gD x b) (mn (gD x a) (gD x b + p) + p) = w2 at m2 ⊢
    generalize mn (gD x a) (gD x b + p) = w1 at m1 m2 ⊢
    by_cases eb : i = b
    ·rw [if_pos eb,if_pos eb];exact ⟨rfl,by omega,by omega⟩
    ·rw [if_neg eb,if_neg eb]
     by_cases ea : i = a
     ·rw [if_pos ea,if_pos ea];exact ⟨rfl,by omega,by omega⟩
     ·rw [if_neg ea,if_neg ea]
      have fi : memB F i:=by
       rcases hm' with q|⟨q,_⟩
       ·exact q
       ·omega
      obtain ⟨i1,i2,i3⟩:=yes i hi fi
      omega
   ·obtain ⟨b1,b2⟩:=no b hb fb
    have hg:=hgrow (Or.inl fa) (fun e => fb e.2)
    rw [← a1,b1,b2]
    by_cases eb : i = b
    ·rw [if_pos eb,if_pos eb];simp only [mn_def];repeat' split
     all_goals omega
    ·rw [if_neg eb,if_neg eb]
     by_cases ea : i = a
     ·rw [if_pos ea,if_pos ea];simp only [mn_def];repeat' split
      all_goals omega
     ·rw [if_neg ea,if_neg ea]
      have fi : memB F i:=by
       rcases hm' with q|⟨q,_⟩
       ·exact q
       ·omega
      obtain ⟨i1,i2,i3⟩:=yes i hi fi
      omega
  ·obtain ⟨a1,a2⟩:=no a ha fa
   by_cases fb : memB F b
   ·obtain ⟨b1,b2,b3⟩:=yes b hb fb
    have hg:=hgrow (Or.inr fb) (fun e => fa e.1)
    rw [← b1,a1,a2]
    by_cases eb : i = b
    ·rw [if_pos eb,if_pos eb];simp only [mn_def];repeat' split
     all_goals omega
    ·rw [if_neg eb,if_neg eb]
     by_cases ea : i = a
     ·rw [if_pos ea,if_pos ea];simp only [mn_def];repeat' split
      all_goals omega
     ·rw [if_neg ea,if_neg ea]
      have fi : memB F i:=by
       rcases hm' with q|⟨q,_⟩
       ·exact q
       ·omega
      obtain ⟨i1,i2,i3⟩:=yes i hi fi
      omega
   ·rcases hm' with q|⟨_,q|q⟩
    ·have n1 : i ≠ a:=fun e => fa (e ▸ q)
     have n2 : i ≠ b:=fun e => fb (e ▸ q)
     rw [if_neg n2,if_neg n2,if_neg n1,if_neg n1]
     obtain ⟨i1,i2,i3⟩:=yes i hi q
     omega
    ·exact absurd q fa
    ·exact absurd q fb
 ·intro i hi hm
  have hm' : ¬ memB F i:=fun q => hm ((hF i).2 (Or.inl q))
  rw [gx,gy]
  have hno : ∀ j,(j = a ∨ j = b) → i = j → ¬ memB F a ∧ ¬ memB F b:=by
   intro j hj e
   constructor <;> intro q
   ·exact hm ((hF i).2 (Or.inr ⟨by rw [e];exact hj,Or.inl q⟩))
   ·exact hm ((hF i).2 (Or.inr ⟨by rw [e];exact hj,Or.inr q⟩))
  by_cases eb : i = b
  ·obtain ⟨q1,q2⟩:=hno b (Or.inr rfl) eb
   obtain ⟨a1,a2⟩:=no a ha q1
   obtain ⟨b1,b2⟩:=no b hb q2
   rw [if_pos eb,if_pos eb,a1,a2,b1,b2]
   simp only [mn_def]
   constructor <;> repeat' split
   all_goals omega
  ·rw [if_neg eb,if_neg eb]
   by_cases ea : i = a
   ·obtain ⟨q1,q2⟩:=hno a (Or.inl rfl) ea
    obtain ⟨a1,a2⟩:=no a ha q1
    obtain ⟨b1,b2⟩:=no b hb q2
    rw [if_pos ea,if_pos ea,a1,a2,b1,b2]
    simp only [mn_def]
    constructor <;> repeat' split
    all_goals omega
   ·rw [if_neg ea,if_neg ea];exact no i hi hm'
theorem sameC_fold {N : Nat} (hN : N ≤ 8) (cs : List S83) (hc : ∀ x ∈ cs,0 ≤ x.f0 ∧ x.f0 < (N : Int) ∧ 0 ≤ x.f1 ∧ x.f1 < (N : Int) ∧ x.f0 ≠ x.f1 ∧ 1 ≤ x.f2 ∧ x.f2 ≤ 99) : ∀ (F : List Bool) (x y : List Int),SameC N F x y → SameC N (cs.foldl relB F) (cs.foldl relC x) (cs.foldl relC y):=by
 induction cs with
 | nil => exact fun _ _ _ h => h
 | cons c cs ih =>
  intro F x y h
  obtain ⟨g1,g2,g3,g4,g5,g6,g7⟩:=hc c List.mem_cons_self
  rw [List.foldl_cons,List.foldl_cons,List.foldl_cons]
  exact ih (fun z hz => hc z (List.mem_cons_of_mem _ hz)) _ _ _ (sameC_step h hN c g1 g2 g3 g4 g5 g6 g7)
theorem sameC_pass {N : Nat} (hN : N ≤ 8) (cs : List S83) (hc : ∀ x ∈ cs,0 ≤ x.f0 ∧ x.f0 < (N : Int) ∧ 0 ≤ x.f1 ∧ x.f1 < (N : Int) ∧ x.f0 ≠ x.f1 ∧ 1 ≤ x.f2 ∧ x.f2 ≤ 99) (F : List Bool) (x y : List Int) (h : SameC N F x y) (k : Nat) : SameC N (passB cs k F) (passC cs k x) (passC cs k y):=by
 induction k with
 | zero => exact h
 | succ k ih => exact sameC_fold hN cs hc _ _ _ ih
def startC (far : Int) (N : Nat) (cs : List S83) : List Int:=(List.range N).map fun b => if gD (rootsL N cs) b = (b : Int) then 0 else far
def costsX (far : Int) (N : Nat) (cs : List S83) : List Int:=passC cs N (startC far N cs)
def costsN (N : Nat) (cs : List S83) : List Int:=costsX 1073741824 N cs
def SoundC (cs : List S83) (N : Nat) : Prop:=∀ x ∈ cs,0 ≤ x.f0 ∧ x.f0 < (N : Int) ∧ 0 ≤ x.f1 ∧ x.f1 < (N : Int) ∧ x.f0 ≠ x.f1 ∧ 1 ≤ x.f2 ∧ x.f2 ≤ 99
theorem sound_of {N : Nat} {cs : List S83} (h : cabsB (N : Int) cs = true) : SoundC cs N:=fun x hx => (cabsB_facts h).2.2.2 x hx
theorem SoundC.ok {N : Nat} {cs : List S83} (h : SoundC cs N) : CabOk cs N:=fun c hc => by have:=h c hc;omega
theorem startC_len (far : Int) (N : Nat) (cs : List S83) : (startC far N cs).length = N:=by unfold startC;simp
theorem startC_get (far : Int) (N : Nat) (cs : List S83) (b : Nat) (hb : b < N) : gD (startC far N cs) b = if gD (rootsL N cs) b = (b : Int) then 0 else far:=by
 unfold startC gD
 simp [List.getD_eq_getElem?_getD,hb]
theorem gD_get (o : List Int) (b : Nat) (h : b < o.length) : gD o b = o[b]:=by simp [gD,List.getD_eq_getElem?_getD,h]
theorem root_of {N b : Nat} {cs : List S83} (hc : CabOk cs N) (hb : b < N) : ∃ r : Nat,r < N ∧ gD (rootsL N cs) b = (r : Int) ∧ gD (rootsL N cs) r = (r : Int) ∧ memB (jnB cs N r) b ∧ ∀ q,q < r → ¬ memB (jnB cs N b) q:=by
 have hl:=rootsL_len N cs
 obtain ⟨r,h1,h2,h3⟩:=(roots_le hc hb _).1 (Int.le_refl _)
 have h4 : (rootsL N cs)[b]'(by omega) ≤ r:=(roots_le hc hb _).2 ⟨r,h1,Int.le_refl _,h3⟩
 have h5:=(roots_join hc h1 hb).2 h3
 refine ⟨r,h1,by rw [gD_get _ _ (by omega)];omega,by rw [gD_get _ _ (by omega)];omega,h3,fun q hq hm => ?_⟩
 have hqN : q < N:=by omega
 have h6 : (rootsL N cs)[b]'(by omega) ≤ q:=(roots_le hc hb _).2 ⟨q,hqN,Int.le_refl _,jnB_symm hc hb hqN hm⟩
 omega
def startF (N : Nat) (cs : List S83) : List Bool:=(List.range N).map fun b => decide (gD (rootsL N cs) b = (b : Int))
theorem startF_mem (N : Nat) (cs : List S83) (b : Nat) (hb : b < N) : memB (startF N cs) b ↔ gD (rootsL N cs) b = (b : Int):=by
 unfold startF memB
 simp [hb]
theorem costs_same {N : Nat} (hN : N ≤ 8) {cs : List S83} (hs : SoundC cs N) : costsX 10000 N cs = costsN N cs ∧ ∀ b,b < N → 0 ≤ gD (costsN N cs) b ∧ gD (costsN N cs) b ≤ 792:=by
 have hc:=hs.ok
 have h0 : SameC N (startF N cs) (startC 1073741824 N cs) (startC 10000 N cs):=by
  refine ⟨by unfold startF;simp,startC_len _ _ _,startC_len _ _ _,fun b hb hm => ?_,fun b hb hm => ?_⟩
  ·rw [startF_mem N cs b hb] at hm
   rw [startC_get _ _ _ _ hb,startC_get _ _ _ _ hb,if_pos hm,if_pos hm]
   omega
  ·rw [startF_mem N cs b hb] at hm
   rw [startC_get _ _ _ _ hb,startC_get _ _ _ _ hb,if_neg hm,if_neg hm]
   omega
 have h1:=sameC_pass hN cs hs _ _ _ h0 N
 have hfl : (startF N cs).length = N:=by unfold startF;simp
 have hall : ∀ b,b < N → memB (passB cs N (startF N cs)) b:=by
  intro b hb
  obtain ⟨r,r1,r2,r3,r4,_⟩:=root_of hc hb
  have hm:=(startF_mem N cs r r1).2 r3
  exact jnB_least hc r1 (passB_closed cs hc _ hfl r hm) ((passB_mem cs hc _ hfl N).1 r hm) r4
 have hct : (passB cs N (startF N cs)).count true ≤ N:=by
  have:=List.count_le_length (a:=true) (l:=passB cs N (startF N cs))
  rw [passB_len,hfl] at this
  exact this
 constructor
 ·apply List.ext_getElem
  ·rw [costsX,passC_len,startC_len,costsN,costsX,passC_len,startC_len]
  ·intro i hi1 hi2
   have hi : i < N:=by rw [costsX,passC_len,startC_len] at hi1;exact hi1
   have e:=(h1.yes i hi (hall i hi)).1
   rw [← gD_get _ _ hi1,← gD_get _ _ hi2]
   exact e.symm
 ·intro b hb
  have e:=h1.yes b hb (hall b hb)
  exact ⟨e.2.1,by have:=e.2.2;show gD (passC cs N (startC 1073741824 N cs)) b ≤ 792;omega⟩
theorem costsX_len (far : Int) (N : Nat) (cs : List S83) : (costsX far N cs).length = N:=by unfold costsX;rw [passC_len,startC_len]
def Below30 (o : List Int) : Prop:=∀ b,0 ≤ gD o b ∧ gD o b ≤ 1073741824
theorem below30_rel {o : List Int} (h : Below30 o) {N : Nat} (ho : o.length = N) (c : S83) (h0 : 0 ≤ c.f0 ∧ c.f0 < (N : Int) ∧ 0 ≤ c.f1 ∧ c.f1 < (N : Int) ∧ c.f0 ≠ c.f1 ∧ 1 ≤ c.f2 ∧ c.f2 ≤ 99) : Below30 (relC o c):=by
 obtain ⟨cA,cB,p⟩:=c
 simp only [] at h0
 obtain ⟨g1,g2,g3,g4,g5,g6,g7⟩:=h0
 obtain ⟨a,rfl⟩:=Int.eq_ofNat_of_zero_le g1
 obtain ⟨b,rfl⟩:=Int.eq_ofNat_of_zero_le g3
 intro x
 rw [relC_get o a b p (by omega) (by omega) (by omega)]
 have ha:=h a
 have hb:=h b
 have hx:=h x
 have m1:=mn_cases (gD o a) (gD o b + p)
 have m2:=mn_cases (gD o b) (mn (gD o a) (gD o b + p) + p)
 split
 ·omega
 ·split <;> omega
theorem below30_fold (cs : List S83) {N : Nat} (hs : SoundC cs N) : ∀ o,o.length = N → Below30 o → Below30 (cs.foldl relC o):=by
 induction cs with
 | nil => exact fun _ _ h => h
 | cons c cs ih => exact fun o ho h => ih (fun x hx => hs x (List.mem_cons_of_mem _ hx)) _ (by rw [relC_len];exact ho) (below30_rel h ho c (hs c List.mem_cons_self))
theorem below30_pass (cs : List S83) {N : Nat} (hs : SoundC cs N) (o : List Int) (ho : o.length = N) (h : Below30 o) (k : Nat) : Below30 (passC cs k o):=by
 induction k with
 | zero => exact h
 | succ k ih => exact below30_fold cs hs _ (by rw [passC_len];exact ho) ih
theorem below30_start (far : Int) (h0 : 0 ≤ far) (h1 : far ≤ 1073741824) (N : Nat) (cs : List S83) : Below30 (startC far N cs):=by
 intro b
 by_cases hb : b < N
 ·rw [startC_get _ _ _ _ hb];split <;> omega
 ·have : gD (startC far N cs) b = 0:=by unfold gD;rw [List.getD_eq_getElem?_getD,List.getElem?_eq_none (by rw [startC_len];omega)];rfl
  omega
-- the program's
theorem icost_l2 (N : Nat) (cs : List S83) (hs : SoundC cs N) (hl : cs.length ≤ 1000) (n j : Int) (d : Nat) : ∀ (k i : Nat) (o : List Int), i + d = cs.length → o.length = N → Below30 o → d < k →
  impl_costsOf.l2 k cs o n j cs cs.length (i : Int) = impl_costsOf.l1 (k - d - 1) cs ((cs.drop i).foldl relC o) n (wrap64 (j + 1)):=by
 induction d with
 | zero =>
  intro k i o h1 h2 _ hk
  obtain ⟨k,rfl⟩ : ∃ m,k = m + 1:=⟨k - 1,by omega⟩
  simp only [impl_costsOf.l2]
  rw [if_neg (by omega),List.drop_of_length_le (by omega)]
  rfl
 | succ d ih =>
  intro k i o h1 h2 hb hk
  obtain ⟨k,rfl⟩ : ∃ m,k = m + 1:=⟨k - 1,by omega⟩
  have hi : i < cs.length:=by omega
  have g:=hs _ (List.getElem_mem hi)
  obtain ⟨g1,g2,g3,g4,g5,g6,g7⟩:=g
  have hb2:=below30_rel hb h2 cs[i] (hs _ (List.getElem_mem hi))
  obtain ⟨a,ha⟩:=Int.eq_ofNat_of_zero_le g1
  obtain ⟨b,hbb⟩:=Int.eq_ofNat_of_zero_le g3
  have ba:=hb a
  have bb:=hb b
  simp only [impl_costsOf.l2,Option.bind_some]
  rw [if_pos (by omega),if_pos (by omega),if_pos (by omega),rdCab_get cs i hi,if_pos g1,if_pos (by omega),if_pos g3,if_pos (by omega),wrap_succ hi (by omega),List.drop_eq_getElem_cons hi,List.foldl_cons,show k + 1 - (d + 1) - 1 = k - d - 1 by omega]
  rw [← ih k (i + 1) _ (by omega) (by rw [relC_len];exact h2) hb2 (by omega)]
  have w1 : wrap64 (rd o cs[i].f1 + cs[i].f2) = rd o cs[i].f1 + cs[i].f2:=by rw [hbb,rd_gD];exact wrap_eq (by omega) (by omega)
  have m1:=mn_cases (gD o a) (gD o b + cs[i].f2)
  have hlen : a < o.length:=by omega
  have w2 : wrap64 (rd (o.set cs[i].f0.toNat (mn (rd o cs[i].f0) (rd o cs[i].f1 + cs[i].f2))) cs[i].f0 + cs[i].f2) = rd (o.set cs[i].f0.toNat (mn (rd o cs[i].f0) (rd o cs[i].f1 + cs[i].f2))) cs[i].f0 + cs[i].f2:=by
   rw [ha,hbb,Int.toNat_natCast,rd_gD,rd_gD,rd_gD,gD_set _ _ _ _ hlen,if_pos rfl]
   exact wrap_eq (by omega) (by omega)
  rw [w1,w2]
  rfl
theorem icost_l1 (N : Nat) (hN : N ≤ 1000) (cs : List S83) (hs : SoundC cs N) (hl : cs.length ≤ 1000) (o : List Int) (ho : o.length = N) (hb : Below30 o) (d : Nat) : ∀ (k j : Nat), j + d = N → (cs.length + 2) * d < k →
  impl_costsOf.l1 k cs (passC cs j o) (N : Int) (j : Int) = some (passC cs N o):=by
 induction d with
 | zero =>
  intro k j h1 hk
  obtain ⟨k,rfl⟩ : ∃ m,k = m + 1:=⟨k - 1,by omega⟩
  obtain rfl : j = N:=by omega
  simp only [impl_costsOf.l1]
  rw [if_neg (by omega)]
 | succ d ih =>
  intro k j h1 hk
  rw [Nat.mul_add,Nat.mul_one] at hk
  obtain ⟨k,rfl⟩ : ∃ m,k = m + 1:=⟨k - 1,by omega⟩
  simp only [impl_costsOf.l1]
  rw [if_pos (by omega)]
  have e:=icost_l2 N cs hs hl (N : Int) (j : Int) cs.length k 0 (passC cs j o) (by omega) (by rw [passC_len];exact ho) (below30_pass cs hs o ho hb j) (by omega)
  refine e.trans ?_
  rw [List.drop_zero,wrap_succ (show j < N by omega) (by omega)]
  exact ih _ (j + 1) (by omega) (by omega)
def zrR (R : List Int) : Nat → Nat → List Int → List Int
 | 0,_,o => o
 | d + 1,i,o => zrR R d (i + 1) (if (i : Int) = gD R i then o.set i 0 else o)
theorem zrR_len (R : List Int) (d : Nat) : ∀ i o,(zrR R d i o).length = o.length:=by
 induction d with
 | zero => exact fun _ _ => rfl
 | succ d ih => intro i o;rw [zrR,ih];split <;> simp
theorem zrR_get (R : List Int) (d : Nat) : ∀ i o b,i + d ≤ o.length → gD (zrR R d i o) b = if i ≤ b ∧ b < i + d ∧ gD R b = (b : Int) then 0 else gD o b:=by
  induction d with
  | zero => intro i o b h;rw [zrR,if_neg (by omega)]
  | succ d ih =>
    intro i o b h
    have hl : (if (i : Int) = gD R i then o.set i 0 else o).length = o.length:=by split <;> simp
    rw [zrR,ih (i + 1) _ b (by rw [hl];omega)]
    by_cases e : (i : Int) = gD R i
    · rw [if_pos e,gD_set _ _ _ _ (by omega)]
      by_cases eb : b = i
      · subst eb
        rw [if_neg (by omega),if_pos rfl,if_pos ⟨by omega,by omega,e.symm⟩]
      · rw [if_neg eb]
        by_cases q : i + 1 ≤ b ∧ b < i + 1 + d ∧ gD R b = (b : Int)
        · rw [if_pos q,if_pos ⟨by omega,by omega,q.2.2⟩]
        · rw [if_neg q,if_neg (fun x => q ⟨by omega,by omega,x.2.2⟩)]
    · rw [if_neg e]
      by_cases q : i + 1 ≤ b ∧ b < i + 1 + d ∧ gD R b = (b : Int)
      · rw [if_pos q,if_pos ⟨by omega,by omega,q.2.2⟩]
      · rw [if_neg q, if_neg (fun x => q ⟨by
          by_cases eb : b = i
          · subst eb;exact absurd x.2.2.symm e
          · omega,by omega,x.2.2⟩)]
theorem icost_l0 (cs : List S83) (R : List Int) (n : Int) (N : Nat) (hR : R.length = N) (hN : N ≤ 1000) (d : Nat) : ∀ (k i : Nat) (o : List Int), i + d = N → o.length = N → d < k →
  impl_costsOf.l0 k n cs o R (N : Int) (i : Int) = impl_costsOf.l1 (k - d - 1) cs (zrR R d i o) n 0:=by
 induction d with
 | zero =>
  intro k i o h1 h2 hk
  obtain ⟨k,rfl⟩ : ∃ m,k = m + 1:=⟨k - 1,by omega⟩
  simp only [impl_costsOf.l0]
  rw [if_neg (by omega)]
  rfl
 | succ d ih =>
  intro k i o h1 h2 hk
  obtain ⟨k,rfl⟩ : ∃ m,k = m + 1:=⟨k - 1,by omega⟩
  simp only [impl_costsOf.l0]
  rw [if_pos (by omega),if_pos (by omega),if_pos (by omega),wrap_succ (show i < N by omega) (by omega),rd_gD,zrR,Int.toNat_natCast,show k + 1 - (d + 1) - 1 = k - d - 1 by omega]
  by_cases e : (i : Int) = gD R i
  ·rw [if_pos e,if_pos (by omega),if_pos e];exact ih k (i + 1) _ (by omega) (by rw [List.length_set];exact h2) (by omega)
  ·rw [if_neg e,if_neg e];exact ih k (i + 1) _ (by omega) h2 (by omega)
theorem zr_start (far : Int) (N : Nat) (cs : List S83) : zrR (rootsL N cs) N 0 (List.replicate N far) = startC far N cs:=by
 apply List.ext_getElem
 ·rw [zrR_len,startC_len,List.length_replicate]
 ·intro b h1 h2
  have hb : b < N:=by rw [startC_len] at h2;exact h2
  rw [← gD_get _ _ h1,← gD_get _ _ h2,zrR_get _ _ _ _ _ (by simp),startC_get _ _ _ _ hb]
  by_cases e : gD (rootsL N cs) b = (b : Int)
  ·rw [if_pos ⟨by omega,by omega,e⟩,if_pos e]
  ·rw [if_neg (fun x => e x.2.2),if_neg e,gD_get _ _ (by simp;exact hb)];simp
theorem icosts_eq (N : Nat) (cs : List S83) (hv : cabsB (N : Int) cs = true) (k : Nat) (hk : 300 < k) : impl_costsOf.f k (N : Int) cs = some (costsN N cs):=by
 obtain ⟨f1,f2,f3,_⟩:=cabsB_facts hv
 have hs:=sound_of hv
 have er : slices_Repeat_int_int.f ([1073741824] : List Int) (N : Int) = some (List.replicate N 1073741824):=by
  unfold slices_Repeat_int_int.f
  simp only []
  rw [if_pos ⟨by omega,by omega⟩,Int.toNat_natCast]
 have eo : impl_rootsOf.f (N : Int) cs = some (rootsL N cs):=by unfold impl_rootsOf.f;rw [if_pos hv,Int.toNat_natCast]
 unfold impl_costsOf.f
 rw [er,Option.bind_some,eo,Option.bind_some,rootsL_len]
 have e:=icost_l0 cs (rootsL N cs) (N : Int) N (rootsL_len N cs) (by omega) N k 0 (List.replicate N 1073741824) (by omega) (by simp) (by omega)
 refine e.trans ?_
 rw [zr_start]
 have hb : (cs.length + 2) * N ≤ 22 * 8:=Nat.mul_le_mul (by omega) (by omega)
 exact icost_l1 N (by omega) cs hs (by omega) _ (startC_len _ _ _) (below30_start _ (by omega) (by omega) _ _) N _ 0 (by omega) (by omega)
-- the reference's
theorem sroot_at (s : List Bool) (r : Nat) (hr : memB s r) (hlt : ∀ q,q < r → ¬ memB s q) (hl : s.length ≤ 1000) (d : Nat) : ∀ (k i : Nat),i + d = r → d < k → spec_l7Root.l0 k s (i : Int) = some (r : Int):=by
 have hrl:=memB_lt hr
 induction d with
 | zero =>
  intro k i h1 hk
  obtain ⟨k,rfl⟩ : ∃ m,k = m + 1:=⟨k - 1,by omega⟩
  obtain rfl : i = r:=by omega
  simp only [spec_l7Root.l0]
  rw [if_pos (by omega),if_pos (by omega),if_pos ((rdB_mem s (i : Int)).2 (by rw [Int.toNat_natCast];exact hr))]
 | succ d ih =>
  intro k i h1 hk
  obtain ⟨k,rfl⟩ : ∃ m,k = m + 1:=⟨k - 1,by omega⟩
  simp only [spec_l7Root.l0]
  rw [if_pos (by omega),if_pos (by omega),if_neg (fun x => hlt i (by omega) (by have:=(rdB_mem s (i : Int)).1 x;rw [Int.toNat_natCast] at this;exact this)),wrap_succ (show i < r by omega) (by omega)]
  exact ih k (i + 1) (by omega) (by omega)
theorem sroot_eq {N b : Nat} {cs : List S83} (hv : cabsB (N : Int) cs = true) (hb : b < N) (k : Nat) (hk : 300 < k) : spec_l7Root.f k (N : Int) cs (b : Int) = some (gD (rootsL N cs) b):=by
 obtain ⟨f1,f2,f3,_⟩:=cabsB_facts hv
 have hc:=(sound_of hv).ok
 obtain ⟨r,r1,r2,r3,r4,r5⟩:=root_of hc hb
 have hm:=Nat.mul_le_mul (show cs.length + 2 ≤ 22 by omega) (show N ≤ 8 by omega)
 unfold spec_l7Root.f
 rw [sjoin_eq N b hb (by omega) cs hc (by omega) k (by omega),Option.bind_some,r2]
 exact sroot_at (jnB cs N b) r (jnB_symm hc r1 hb r4) r5 (by rw [jnB_len];omega) r k 0 (by omega) (by omega)
theorem scost_l2 (N : Nat) (cs : List S83) (hs : SoundC cs N) (hl : cs.length ≤ 1000) (n j : Int) (d : Nat) : ∀ (k i : Nat) (o : List Int), i + d = cs.length → o.length = N → Below30 o → d < k →
  spec_l7Costs.l2 k cs o (i : Int) n j = spec_l7Costs.l1 (k - d - 1) cs ((cs.drop i).foldl relC o) n (wrap64 (j + 1)):=by
 induction d with
 | zero =>
  intro k i o h1 h2 _ hk
  obtain ⟨k,rfl⟩ : ∃ m,k = m + 1:=⟨k - 1,by omega⟩
  simp only [spec_l7Costs.l2]
  rw [if_neg (by omega),List.drop_of_length_le (by omega)]
  rfl
 | succ d ih =>
  intro k i o h1 h2 hb hk
  obtain ⟨k,rfl⟩ : ∃ m,k = m + 1:=⟨k - 1,by omega⟩
  have hi : i < cs.length:=by omega
  have g:=hs _ (List.getElem_mem hi)
  obtain ⟨g1,g2,g3,g4,g5,g6,g7⟩:=g
  have hb2:=below30_rel hb h2 cs[i] (hs _ (List.getElem_mem hi))
  obtain ⟨a,ha⟩:=Int.eq_ofNat_of_zero_le g1
  obtain ⟨b,hbb⟩:=Int.eq_ofNat_of_zero_le g3
  have ba:=hb a
  have bb:=hb b
  simp only [spec_l7Costs.l2,Option.bind_some]
  rw [if_pos (by omega),if_pos (by omega),rdCab_get cs i hi,if_pos g1,if_pos (by omega),if_pos g3,if_pos (by omega),wrap_succ hi (by omega),List.drop_eq_getElem_cons hi,List.foldl_cons,show k + 1 - (d + 1) - 1 = k - d - 1 by omega]
  rw [← ih k (i + 1) _ (by omega) (by rw [relC_len];exact h2) hb2 (by omega)]
  have w1 : wrap64 (rd o cs[i].f1 + cs[i].f2) = rd o cs[i].f1 + cs[i].f2:=by rw [hbb,rd_gD];exact wrap_eq (by omega) (by omega)
  have m1:=mn_cases (gD o a) (gD o b + cs[i].f2)
  have hlen : a < o.length:=by omega
  have w2 : wrap64 (rd (o.set cs[i].f0.toNat (mn (rd o cs[i].f0) (rd o cs[i].f1 + cs[i].f2))) cs[i].f0 + cs[i].f2) = rd (o.set cs[i].f0.toNat (mn (rd o cs[i].f0) (rd o cs[i].f1 + cs[i].f2))) cs[i].f0 + cs[i].f2:=by
   rw [ha,hbb,Int.toNat_natCast,rd_gD,rd_gD,rd_gD,gD_set _ _ _ _ hlen,if_pos rfl]
   exact wrap_eq (by omega) (by omega)
  rw [w1,w2]
  rfl
theorem scost_l1 (N : Nat) (hN : N ≤ 1000) (cs : List S83) (hs : SoundC cs N) (hl : cs.length ≤ 1000) (o : List Int) (ho : o.length = N) (hb : Below30 o) (d : Nat) : ∀ (k j : Nat), j + d = N → (cs.length + 2) * d < k →
  spec_l7Costs.l1 k cs (passC cs j o) (N : Int) (j : Int) = some (passC cs N o):=by
 induction d with
 | zero =>
  intro k j h1 hk
  obtain ⟨k,rfl⟩ : ∃ m,k = m + 1:=⟨k - 1,by omega⟩
  obtain rfl : j = N:=by omega
  simp only [spec_l7Costs.l1]
  rw [if_neg (by omega)]
 | succ d ih =>
  intro k j h1 hk
  rw [Nat.mul_add,Nat.mul_one] at hk
  obtain ⟨k,rfl⟩ : ∃ m,k = m + 1:=⟨k - 1,by omega⟩
  simp only [spec_l7Costs.l1]
  rw [if_pos (by omega)]
  have e:=scost_l2 N cs hs hl (N : Int) (j : Int) cs.length k 0 (passC cs j o) (by omega) (by rw [passC_len];exact ho) (below30_pass cs hs o ho hb j) (by omega)
  refine e.trans ?_
  rw [List.drop_zero,wrap_succ (show j < N by omega) (by omega)]
  exact ih _ (j + 1) (by omega) (by omega)
theorem scost_l0 (N : Nat) (cs : List S83) (hv : cabsB (N : Int) cs = true) (d : Nat) : ∀ (k i : Nat) (acc : List Int), i + d = N → acc = (startC 10000 N cs).take i → d + 400 < k →
  spec_l7Costs.l0 k (N : Int) cs acc (i : Int) = some (costsX 10000 N cs):=by
 obtain ⟨f1,f2,f3,_⟩:=cabsB_facts hv
 have hs:=sound_of hv
 have hsl:=startC_len 10000 N cs
 induction d with
 | zero =>
  intro k i acc h1 h2 hk
  obtain ⟨k,rfl⟩ : ∃ m,k = m + 1:=⟨k - 1,by omega⟩
  obtain rfl : i = N:=by omega
  rw [List.take_of_length_le (by omega)] at h2
  subst h2
  have hb : (cs.length + 2) * i ≤ 22 * 8:=Nat.mul_le_mul (by omega) (by omega)
  simp only [spec_l7Costs.l0]
  rw [if_neg (by omega)]
  exact scost_l1 i (by omega) cs hs (by omega) _ hsl (below30_start _ (by omega) (by omega) _ _) i _ 0 (by omega) (by omega)
 | succ d ih =>
  intro k i acc h1 h2 hk
  obtain ⟨k,rfl⟩ : ∃ m,k = m + 1:=⟨k - 1,by omega⟩
  have hi : i < N:=by omega
  have hal : acc.length ≤ N:=by rw [h2,List.length_take];omega
  have hg:=startC_get 10000 N cs i hi
  have hnext : ∀ v,v = gD (startC 10000 N cs) i → acc ++ [v] = (startC 10000 N cs).take (i + 1):=fun v hv' => by
   rw [List.take_succ_eq_append_getElem (by omega),← h2,hv',gD_get _ _ (by omega)]
  simp only [spec_l7Costs.l0]
  rw [if_pos (by omega),sroot_eq hv hi k (by omega),Option.bind_some,wrap_succ hi (by omega)]
  by_cases e : gD (rootsL N cs) i = (i : Int)
  ·rw [if_pos e,if_pos (by omega)]
   rw [if_pos e] at hg
   exact ih k (i + 1) _ (by omega) (hnext 0 hg.symm) (by omega)
  ·rw [if_neg e,if_pos (by omega)]
   rw [if_neg e] at hg
   exact ih k (i + 1) _ (by omega) (hnext 10000 hg.symm) (by omega)
theorem scosts_eq (N : Nat) (cs : List S83) (hv : cabsB (N : Int) cs = true) (k : Nat) (hk : 500 < k) : spec_l7Costs.f k (N : Int) cs = some (costsN N cs):=by
 obtain ⟨f1,f2,f3,_⟩:=cabsB_facts hv
 unfold spec_l7Costs.f
 have:=scost_l0 N cs hv N k 0 [] (by omega) (by simp) (by omega)
 rw [(costs_same (by omega) (sound_of hv)).1] at this
 exact this
theorem sort_ok (l : List Int) (hl : l.length ≤ 12) : ∃ r : List Int,r.Perm l ∧ r.Pairwise (· ≤ ·) ∧ ∀ k,200 < k → slices_Sort_int_int.f k l = some r:=by
 refine ⟨l.mergeSort fun x y => decide (x ≤ y),List.mergeSort_perm _ _,?_,fun k _ => ?_⟩
 ·have h:=List.pairwise_mergeSort (le:=fun x y : Int => decide (x ≤ y)) (fun a b c h1 h2 => by simp only [decide_eq_true_eq] at *;omega) (fun a b => by simp only [Bool.or_eq_true,decide_eq_true_eq];omega) l
  exact h.imp (fun h => od_ h)
 ·unfold slices_Sort_int_int.f
  rw [if_pos (by omega)]
theorem sort_uniq {r s : List Int} (hr : r.Pairwise (· ≤ ·)) (hs : s.Pairwise (· ≤ ·)) (hp : r.Perm s) : r = s :=
 List.Perm.eq_of_pairwise (fun a b _ _ h1 h2 => Int.le_antisymm h1 h2) hr hs hp
def othX (c : S83) (b : Int) : Option Int:=if b = c.f0 then some c.f1 else if b = c.f1 then some c.f0 else none
theorem iother_eq (c : S83) (b : Int) : impl_Cable_other.f c.f0 c.f1 c.f2 b = some ((othX c b).getD 0,(othX c b).isSome):=by
 unfold impl_Cable_other.f othX
 by_cases h : b = c.f0
 ·rw [if_pos h,if_pos h];rfl
 ·rw [if_neg h,if_neg h]
  by_cases h2 : b = c.f1
  ·rw [if_pos h2,if_pos h2];rfl
  ·rw [if_neg h2,if_neg h2];rfl
theorem sother_eq (c : S83) (b : Int) : spec_l7Other.f c.f0 c.f1 c.f2 b = some ((othX c b).getD (-1)):=by
 unfold spec_l7Other.f othX
 by_cases h : b = c.f0
 ·rw [if_pos h,if_pos h];rfl
 ·rw [if_neg h,if_neg h]
  by_cases h2 : b = c.f1
  ·rw [if_pos h2,if_pos h2];rfl
  ·rw [if_neg h2,if_neg h2];rfl
def upS (cs : List S83) (o : List Int) (b : Int) : Nat → Nat → Int → Int → Int × Int
 | 0,_,best,at_ => (best,at_)
 | d + 1,i,best,at_ => match othX (rd_T83 cs (i : Int)) b with
  | some q => if rd o q + (rd_T83 cs (i : Int)).f2 = rd o b ∧ (best < 0 ∨ q < at_) then upS cs o b d (i + 1) (i : Int) q else upS cs o b d (i + 1) best at_
  | none => upS cs o b d (i + 1) best at_
theorem oth_in {N : Nat} {c : S83} {b q : Int} (h : 0 ≤ c.f0 ∧ c.f0 < (N : Int) ∧ 0 ≤ c.f1 ∧ c.f1 < (N : Int) ∧ c.f0 ≠ c.f1 ∧ 1 ≤ c.f2 ∧ c.f2 ≤ 99) (e : othX c b = some q) : 0 ≤ q ∧ q < (N : Int) ∧ q ≠ b:=by
 unfold othX at e
 split at e
 ·rename_i hb
  injection e with e
  subst e
  exact ⟨h.2.2.1,h.2.2.2.1,fun x => h.2.2.2.2.1 (by rw [x,hb])⟩
 ·split at e
  ·rename_i hb
   injection e with e
   subst e
   exact ⟨h.1,h.2.1,fun x => h.2.2.2.2.1 (by rw [x,hb])⟩
  ·cases e
def CostOk (o : List Int) (N : Nat) : Prop:=o.length = N ∧ ∀ b,b < N → 0 ≤ gD o b ∧ gD o b ≤ 792
theorem iup_at {N : Nat} {cs : List S83} (hs : SoundC cs N) (hl : cs.length ≤ 1000) {o : List Int} (ho : CostOk o N) {b : Nat} (hb : b < N) (d : Nat) : ∀ (k i : Nat) (best at_ : Int), i + d = cs.length → d < k →
  impl_upOf.l0 k o (b : Int) best at_ cs cs.length (i : Int) = some (upS cs o (b : Int) d i best at_):=by
 obtain ⟨ol,og⟩:=ho
 induction d with
 | zero =>
  intro k i best at_ h1 hk
  obtain ⟨k,rfl⟩ : ∃ m,k = m + 1:=⟨k - 1,by omega⟩
  simp only [impl_upOf.l0]
  rw [if_neg (by omega)]
  rfl
 | succ d ih =>
  intro k i best at_ h1 hk
  obtain ⟨k,rfl⟩ : ∃ m,k = m + 1:=⟨k - 1,by omega⟩
  have hi : i < cs.length:=by omega
  have hc : rd_T83 cs (i : Int) = cs[i]:=rdCab_get cs i hi
  have hok:=hs _ (List.getElem_mem hi)
  rw [← hc] at hok
  simp only [impl_upOf.l0]
  rw [if_pos (by omega),if_pos (by omega),if_pos (by omega),iother_eq,Option.bind_some,wrap_succ hi (by omega),upS]
  simp only []
  cases e : othX (rd_T83 cs (i : Int)) (b : Int) with
  | none => rw [if_neg (by simp)];exact ih k (i + 1) best at_ (by omega) (by omega)
  | some q =>
   obtain ⟨q0,q1,q2⟩:=oth_in hok e
   obtain ⟨Q,rfl⟩:=Int.eq_ofNat_of_zero_le q0
   have g1:=og Q (by omega)
   have g2:=og b hb
   have w1 : wrap64 (rd o (Q : Int) + (rd_T83 cs (i : Int)).f2) = rd o (Q : Int) + (rd_T83 cs (i : Int)).f2:=by rw [rd_gD];exact wrap_eq (by omega) (by omega)
   simp only [Option.getD_some,Option.isSome_some]
   rw [if_pos trivial,if_pos (by omega),if_pos (by omega),if_pos (by omega),if_pos (by omega),w1]
   by_cases c1 : rd o (Q : Int) + (rd_T83 cs (i : Int)).f2 = rd o (b : Int)
   ·rw [if_pos c1]
    by_cases c2 : best < 0
    ·rw [if_pos c2,if_pos ⟨c1,Or.inl c2⟩];exact ih k (i + 1) _ _ (by omega) (by omega)
    ·rw [if_neg c2]
     by_cases c3 : (Q : Int) < at_
     ·rw [if_pos c3,if_pos ⟨c1,Or.inr c3⟩];exact ih k (i + 1) _ _ (by omega) (by omega)
     ·rw [if_neg c3,if_neg (fun x => x.2.elim c2 c3)];exact ih k (i + 1) _ _ (by omega) (by omega)
   ·rw [if_neg c1,if_neg (fun x => c1 x.1)];exact ih k (i + 1) _ _ (by omega) (by omega)
theorem sup_at {N : Nat} {cs : List S83} (hs : SoundC cs N) (hl : cs.length ≤ 1000) {o : List Int} (ho : CostOk o N) {b : Nat} (hb : b < N) (d : Nat) : ∀ (k i : Nat) (best at_ : Int), i + d = cs.length → 2 * d < k → (0 ≤ best → best < i ∧ othX (rd_T83 cs best) (b : Int) = some at_) →
  spec_l7Up.l0 k cs o (b : Int) best (i : Int) = some (upS cs o (b : Int) d i best at_).1:=by
 have ho':=ho
 obtain ⟨ol,og⟩:=ho
 induction d with
 | zero =>
  intro k i best at_ h1 hk _
  obtain ⟨k,rfl⟩ : ∃ m,k = m + 1:=⟨k - 1,by omega⟩
  simp only [spec_l7Up.l0]
  rw [if_neg (by omega)]
  rfl
 | succ d ih =>
  intro k i best at_ h1 hk hbest
  obtain ⟨k,rfl⟩ : ∃ m,k = m + 1 + 1:=⟨k - 2,by omega⟩
  have hi : i < cs.length:=by omega
  have hc : rd_T83 cs (i : Int) = cs[i]:=rdCab_get cs i hi
  have hok:=hs _ (List.getElem_mem hi)
  rw [← hc] at hok
  have hkeep : 0 ≤ best → best < ((i + 1 : Nat) : Int) ∧ othX (rd_T83 cs best) (b : Int) = some at_:=fun h => ⟨by have:=(hbest h).1;omega,(hbest h).2⟩
  simp only [spec_l7Up.l0]
  rw [if_pos (by omega),if_pos (by omega),sother_eq,Option.bind_some,upS]
  cases e : othX (rd_T83 cs (i : Int)) (b : Int) with
  | none =>
   simp only [Option.getD_none,spec_l7Up.j1]
   rw [if_pos (by omega),if_pos trivial,wrap_succ hi (by omega)]
   exact ih k (i + 1) best at_ (by omega) (by omega) hkeep
  | some q =>
   obtain ⟨q0,q1,q2⟩:=oth_in hok e
   obtain ⟨Q,rfl⟩:=Int.eq_ofNat_of_zero_le q0
   have g1:=og Q (by omega)
   have g2:=og b hb
   have w1 : wrap64 (rd o (Q : Int) + (rd_T83 cs (i : Int)).f2) = rd o (Q : Int) + (rd_T83 cs (i : Int)).f2:=by rw [rd_gD];exact wrap_eq (by omega) (by omega)
   have hnew : 0 ≤ (i : Int) → (i : Int) < ((i + 1 : Nat) : Int) ∧ othX (rd_T83 cs (i : Int)) (b : Int) = some (Q : Int):=fun _ => ⟨by omega,e⟩
   simp only [Option.getD_some,spec_l7Up.j1]
   rw [if_neg (by omega),if_pos (by omega),if_pos (by omega),if_pos (by omega),if_pos (by omega),w1,wrap_succ hi (by omega)]
   by_cases c1 : rd o (Q : Int) + (rd_T83 cs (i : Int)).f2 = rd o (b : Int)
   ·rw [if_neg (by simp [c1])]
    by_cases c2 : best < 0
    ·rw [if_pos c2,if_pos ⟨c1,Or.inl c2⟩];exact ih k (i + 1) _ _ (by omega) (by omega) hnew
    ·obtain ⟨b1,b2⟩:=hbest (by omega)
     rw [if_neg c2,if_pos (by omega),if_pos (by omega),sother_eq,Option.bind_some,b2,Option.getD_some]
     by_cases c3 : (Q : Int) < at_
     ·rw [if_pos c3,if_pos ⟨c1,Or.inr c3⟩];exact ih k (i + 1) _ _ (by omega) (by omega) hnew
     ·rw [if_neg c3,if_neg (fun x => x.2.elim c2 c3)];exact ih k (i + 1) _ _ (by omega) (by omega) hkeep
   ·rw [if_pos (by simp [c1]),if_neg (fun x => c1 x.1)];exact ih k (i + 1) _ _ (by omega) (by omega) hkeep
theorem upS_none {N : Nat} {cs : List S83} (hs : SoundC cs N) {o : List Int} (ho : CostOk o N) {b : Nat} (hz : gD o b = 0) (d : Nat) : ∀ (i : Nat),i + d = cs.length → upS cs o (b : Int) d i (-1) (-1) = (-1,-1):=by
 obtain ⟨ol,og⟩:=ho
 induction d with
 | zero => exact fun _ _ => rfl
 | succ d ih =>
  intro i h1
  have hi : i < cs.length:=by omega
  have hc : rd_T83 cs (i : Int) = cs[i]:=rdCab_get cs i hi
  have hok:=hs _ (List.getElem_mem hi)
  rw [← hc] at hok
  rw [upS]
  cases e : othX (rd_T83 cs (i : Int)) (b : Int) with
  | none => exact ih (i + 1) (by omega)
  | some q =>
   obtain ⟨q0,q1,q2⟩:=oth_in hok e
   obtain ⟨Q,rfl⟩:=Int.eq_ofNat_of_zero_le q0
   have g1:=og Q (by omega)
   simp only []
   rw [if_neg (fun x => by have:=x.1;rw [rd_gD,rd_gD,hz] at this;omega)]
   exact ih (i + 1) (by omega)
def upX (cs : List S83) (o : List Int) (b : Int) : Int × Int:=upS cs o b cs.length 0 (-1) (-1)
theorem iup_eq {N : Nat} {cs : List S83} (hs : SoundC cs N) (hl : cs.length ≤ 1000) {o : List Int} (ho : CostOk o N) {b : Nat} (hb : b < N) (k : Nat) (hk : cs.length < k) : impl_upOf.f k cs o (b : Int) = some (upX cs o (b : Int)) :=
 iup_at hs hl ho hb cs.length k 0 (-1) (-1) (by omega) hk
theorem sup_eq {N : Nat} {cs : List S83} (hs : SoundC cs N) (hl : cs.length ≤ 1000) {o : List Int} (ho : CostOk o N) {b : Nat} (hb : b < N) (k : Nat) (hk : 2 * cs.length < k) : spec_l7Up.f k cs o (b : Int) = some (upX cs o (b : Int)).1:=by
 have ol:=ho.1
 unfold spec_l7Up.f upX
 rw [if_pos (by omega),if_pos (by omega),rd_gD]
 by_cases c : gD o b = 0
 ·rw [if_pos c,upS_none hs ho c cs.length 0 (by omega)]
 ·rw [if_neg c]
  exact sup_at hs hl ho hb cs.length k 0 (-1) (-1) (by omega) hk (fun h => absurd h (by omega))
theorem costs_ok {N : Nat} {cs : List S83} (hv : cabsB (N : Int) cs = true) : CostOk (costsN N cs) N:=by
 obtain ⟨f1,f2,f3,_⟩:=cabsB_facts hv
 exact ⟨costsX_len _ _ _,(costs_same (by omega) (sound_of hv)).2⟩
abbrev TabN:=Int → Int → Int → Option Int
def putN (T : TabN) (b v s x : Int) : TabN:=fun b' v' s' => if b' = b ∧ v' = v ∧ s' = s then some x else T b' v' s'
structure RN where
 T : TabN
 took : List Int
 over : List Int
 n : Nat
def takeN (fr rc s : Int) (l : List Int) : List Int:=if s ≠ fr ∧ (rc = s ∨ rc = 15) then l ++ [s] else l
def stN (hs vs : List Int) (b v fr rc : Int) : Nat → Int → List Int → List Int
 | 0,_,l => l
 | d + 1,s,l => stN hs vs b v fr rc d (s + 1) (if rd hs s = b ∧ rd vs s = v then takeN fr rc s l else l)
def sendN (cs : List S83) (go : Int → Int → RN → Option RN) (b k : Int) (st : RN) : Option RN :=
 if st.over.length < 1000000000000 then go ((othX (rd_T83 cs k) b).getD 0) k { st with over:=st.over ++ [k] } else none
def floodN (cs : List S83) (go : Int → Int → RN → Option RN) (b by_ : Int) : List Int → RN → Option RN
 | [],st => some st
 | k :: l,st => if (othX (rd_T83 cs k) b).isSome = true ∧ k ≠ by_ then (sendN cs go b k st).bind (floodN cs go b by_ l) else floodN cs go b by_ l st
def leaveN (hs vs : List Int) (b v fr rc : Int) (st : RN) : Option RN:=if st.took.length < 1000000000000 then some { st with took:=stN hs vs b v fr rc hs.length 0 st.took } else none
def comeN (cs : List S83) (tr hs vs : List Int) (v fr rc : Int) : Nat → Int → Int → RN → Option RN
  | 0,_,_,_ => none
  | f + 1, b, by_, st => if st.n < 1000000000000 ∧ st.took.length < 1000000000000 ∧ 0 ≤ b ∧ b ≤ 1000 then
      (match (if rc = 15 then none else putN st.T b v fr by_ b v rc) with
      | some x => if x = -1 then some { st with T:=putN st.T b v fr by_,n:=st.n + 1,took:=takeN fr rc rc st.took }
        else if x = by_ then some { st with T:=putN st.T b v fr by_,n:=st.n + 1 }
        else if 0 ≤ x ∧ x < cs.length then sendN cs (comeN cs tr hs vs v fr rc f) b x { st with T:=putN st.T b v fr by_,n:=st.n + 1 } else none
      | none => (floodN cs (comeN cs tr hs vs v fr rc f) b by_ tr { st with T:=putN st.T b v fr by_,n:=st.n + 1 }).bind (leaveN hs vs b v fr rc))
    else none
open Go.Maps (Keyed)
def keyV (b v s : Int) : Value:=.agg #[.int .i64 b,.int .i64 v,.int .i64 s]
theorem known_laidOut : laidOutB Try.prog = true:=by kernel_rfl
theorem known_row : (105 : TypeId) < Try.prog.types.size:=of_decide_eq_true (by kernel_rfl)
theorem known_wide : (match Try.prog.underlying 105 with | some (.array _ _) | some (.struct _) => true | _ => false) = true:=by kernel_rfl
theorem known_cells : Try.prog.cellsOf 105 = 3:=by kernel_rfl
theorem int_cells : Try.prog.cellsOf 3 = 1:=by kernel_rfl
theorem known_size : ∃ m,Try.prog.types.size = m + 1 + 1:=⟨Try.prog.types.size - 2,by have h : (2 : Nat) ≤ Try.prog.types.size:=of_decide_eq_true (by kernel_rfl);omega⟩
theorem known_keyType : Try.prog.keyType 105 = true:=by kernel_rfl
set_option maxRecDepth 1000000 in
theorem known_law : Keyed Try.prog 105:=Keyed.of_law (deep_law_laid known_laidOut (m:=3) (by omega) known_row (by kernel_rfl) known_wide)
def IsI (x : Int) : Prop:=(Lit.int .i64 x).wf = true
theorem known_key {b v s : Int} (hb : IsI b) (hv : IsI v) (hs : IsI s) : keyOf Try.prog 105 (keyV b v s) = some (.string (keyBytes [.int .i64 b,.int .i64 v,.int .i64 s])):=by
 obtain ⟨m,hm⟩:=known_size
 have hu:=Try.underlying105
 have hi:=Try.underlying3
 unfold IsI at hb hv hs
 unfold keyOf keyV
 simp only [hu]
 rw [if_pos (by simp [known_keyType,Value.formed,hu,known_cells]),hm]
 unfold Program.keyLits
 simp only [hu,Value.cells]
 rw [if_pos ⟨by rw [known_cells];rfl,by kernel_rfl⟩]
 simp [int_cells,Program.keyLits,hi,hb,hv,hs]
theorem known_apart {b v s b2 v2 s2 : Int} (hb : IsI b) (hv : IsI v) (hs : IsI s) (hb2 : IsI b2) (hv2 : IsI v2) (hs2 : IsI s2) (h : ¬ (b2 = b ∧ v2 = v ∧ s2 = s)) : Lit.string (keyBytes [.int .i64 b2,.int .i64 v2,.int .i64 s2]) ≠ Lit.string (keyBytes [.int .i64 b,.int .i64 v,.int .i64 s]):=by
 intro e
 have h1:=known_key hb2 hv2 hs2
 rw [e] at h1
 have h2:=known_law.inj h1 (known_key hb hv hs)
 unfold keyV at h2
 injection h2 with h2
 injection h2 with h2
 simp only [List.cons.injEq,Value.int.injEq,true_and,and_true] at h2
 exact h h2
def tabW (w : World) (m n : Nat) (T : TabN) : Prop :=
 ∃ D : DataW Unit,w.ownsMap Try.prog 105 (plainElem Try.prog 3) m n D ∧ Maps.IsMap D ∧ ∀ b v s,IsI b → IsI v → IsI s →
  (T b v s = none → Maps.has D (.string (keyBytes [.int .i64 b,.int .i64 v,.int .i64 s])) = false) ∧
  ∀ x,T b v s = some x → Maps.has D (.string (keyBytes [.int .i64 b,.int .i64 v,.int .i64 s])) = true ∧ ∀ z,D.atKey (.string (keyBytes [.int .i64 b,.int .i64 v,.int .i64 s])) z = .lit (.int .i64 x)
theorem tabW_lt {w : World} {m n : Nat} {T : TabN} (h : tabW w m n T) : m < w.heap.size:=by
 obtain ⟨D,h1,_⟩:=h
 exact h1.lt
theorem tabW_stays {w w1 : World} {m n : Nat} {T : TabN} (h : tabW w m n T) (hb : w1.heap[m]? = w.heap[m]?) : tabW w1 m n T:=by
 obtain ⟨D,⟨es,clock,h1,h2⟩,h3⟩:=h
 exact ⟨D,⟨es,clock,hb.trans h1,h2⟩,h3⟩
theorem tabW_made (w : World) : tabW (w.alloc (.map #[] 0)) w.heap.size 0 (fun _ _ _ => none):=by
 refine ⟨.map [],World.ownsMap_made _ _ _ _,Maps.isMap_empty,fun b v s _ _ _ => ⟨fun _ => rfl,fun x h => by cases h⟩⟩
theorem tabW_ne {w : World} {m n : Nat} {T : TabN} (h : tabW w m n T) {g : Nat} {cs : Array Value} {t : TypeId} {fr : Nat × Nat} (hg : w.heap[g]? = some (.cells cs t fr)) : m ≠ g:=by
 obtain ⟨D,⟨es,clock,h1,h2⟩,h3⟩:=h
 rintro rfl
 rw [h1] at hg
 cases hg
theorem tab_look {w : World} {m n : Nat} {T : TabN} (h : tabW w m n T) {b v s : Int} (hb : IsI b) (hv : IsI v) (hs : IsI s) (w1 : World) (hw : w1.heap[m]? = w.heap[m]?) :
  (Instr.lookup 68 (.map (some m)) (keyV b v s) true).run Try.prog w1 = .ok (.tuple #[.int .i64 ((T b v s).getD 0),.bool (T b v s).isSome]) w1:=by
 obtain ⟨D,h1,h2,h3⟩:=tabW_stays h hw
 obtain ⟨h4,h5⟩:=h3 b v s hb hv hs
 have hz : (zeroValue 3).run Try.prog w1 = .ok (.int .i64 0) w1:=by kernel_rfl
 obtain ⟨y,ps,hrun,hR⟩:=h1.look_ok known_law Try.underlying68 hz (plainElem_int Try.underlying3 (by decide)) (known_key hb hv hs)
 obtain ⟨c,rfl,hc,_⟩:=plainElem_int_inv Try.underlying3 hR
 cases hT : T b v s with
 | none =>
  rw [h4 hT] at hrun
  rw [Maps.atKey_of_not_has (h4 hT)] at hc
  simp only [Prod.mk.injEq,DataW.lit.injEq,Lit.int.injEq,true_and] at hc
  rw [hrun,← hc.1]
  rfl
 | some x =>
  obtain ⟨h6,h7⟩:=h5 x hT
  rw [h6] at hrun
  rw [h7] at hc
  simp only [Prod.mk.injEq,DataW.lit.injEq,Lit.int.injEq,true_and] at hc
  rw [hrun,← hc.1]
  rfl
theorem tab_put {w : World} {m n : Nat} {T : TabN} (h : tabW w m n T) {b v s x : Int} (hb : IsI b) (hv : IsI v) (hs : IsI s) (hx : IsI x) (hn : n < 1000000000001) :
  ∃ w1,(Instr.mapUpdate 68 (.map (some m)) (keyV b v s) (.int .i64 x)).run Try.prog w = .ok () w1 ∧ tabW w1 m (n + 1) (putN T b v s x) ∧ w.grownBy w1 (some m):=by
 obtain ⟨D,h1,h2,h3⟩:=h
 obtain ⟨w1,hrun,ho,hg⟩:=h1.update known_law Try.underlying68 (by unfold maxLen;omega) (known_key hb hv hs) (plainElem_int Try.underlying3 hx)
 refine ⟨w1,hrun,⟨_,ho,h2.put _ _,fun b2 v2 s2 hb2 hv2 hs2 => ?_⟩,hg⟩
 unfold putN
 by_cases c : b2 = b ∧ v2 = v ∧ s2 = s
 ·rw [if_pos c]
  obtain ⟨rfl,rfl,rfl⟩:=c
  refine ⟨fun h => (by cases h),fun y hy => ?_⟩
  obtain rfl:=Option.some.inj hy
  exact ⟨Maps.has_put_same h2 (by trivial) _,fun z => Maps.atKey_put_same h2 (by trivial) _ z⟩
 ·rw [if_neg c]
  have hne:=known_apart hb hv hs hb2 hv2 hs2 c
  rw [Maps.has_put_other hne]
  obtain ⟨h4,h5⟩:=h3 b2 v2 s2 hb2 hv2 hs2
  refine ⟨h4,fun y hy => ?_⟩
  obtain ⟨h6,h7⟩:=h5 y hy
  exact ⟨h6,fun z => by rw [Maps.atKey_put_other hne];exact h7 z⟩
structure NC where
 w0 : World
 wB : World
 nb : Int
 A1 : Option Addr
 c1 : Nat
 cs : List S83
 A2 : Option Addr
 c2 : Nat
 hs : List Int
 A3 : Option Addr
 c3 : Nat
 vs : List Int
 At : Option Addr
 ct : Nat
 tr : List Int
 g : Nat
 gm : Nat
 B : Nat
def NC.box (c : NC) (tv ov : Value) : Obj:=.cells #[.int .i64 c.nb,.slice c.A1 c.cs.length c.c1,.slice c.A2 c.hs.length c.c2,.slice c.A3 c.vs.length c.c3,.slice c.At c.tr.length c.ct,.map (some c.gm),tv,ov] 70 (0,0)
structure NC.ok (c : NC) : Prop where
 r1 : Kd.C k83 c.w0 c.A1 c.cs.length c.cs
 r2 : Kd.C (Kd.int .i64) c.w0 c.A2 c.hs.length c.hs
 r3 : Kd.C (Kd.int .i64) c.w0 c.A3 c.vs.length c.vs
 l1 : c.cs.length ≤ c.c1
 l2 : c.hs.length ≤ c.c2
 l3 : c.vs.length ≤ c.c3
 ln : c.cs.length ≤ 20
 lh : c.hs.length ≤ 15
 lv : c.vs.length = c.hs.length
 lt : c.tr.length ≤ 8
 kt : ∀ k ∈ c.tr,0 ≤ k ∧ k < c.cs.length
 b0 : c.w0.heap.size ≤ c.g ∧ c.w0.heap.size ≤ c.gm ∧ c.g < c.B ∧ c.gm < c.B
structure ISt (c : NC) (W : World) (st : RN) (tv ov : Value) : Prop where
 bw : Below c.w0.heap.size c.w0 W
 bB : c.B ≤ W.heap.size
 bx : W.heap[c.g]? = some (c.box tv ov)
 tr : Kd.R (Kd.int .i64) 3 W c.w0.heap.size (fun k => k < c.B ∧ k ≠ c.g ∧ k ≠ c.gm) (.slice c.At c.tr.length c.ct) c.tr
 tk : Kd.R (Kd.int .i64) 3 W c.w0.heap.size (fun k => c.B ≤ k ∧ some k ≠ ov.ownBlock) tv st.took
 ov : Kd.R (Kd.int .i64) 3 W c.w0.heap.size (fun k => c.B ≤ k ∧ some k ≠ tv.ownBlock) ov st.over
 tab : tabW W c.gm st.n st.T
 keep : ∀ k,k < c.B → k ≠ c.g → k ≠ c.gm → W.heap[k]? = c.wB.heap[k]?
def KeptT (c : NC) (W W' : World) : Prop:=W.heap.size ≤ W'.heap.size ∧ ∀ (k : Nat) (cs : Array Value) (t : TypeId),W.heap[k]? = some (.cells cs t (0,0)) → t ≠ 3 → k ≠ c.g → W'.heap[k]? = some (.cells cs t (0,0))
theorem KeptT.refl (c : NC) (W : World) : KeptT c W W:=⟨Nat.le_refl _,fun _ _ _ h _ _ => h⟩
theorem KeptT.trans {c : NC} {W W1 W2 : World} (h : KeptT c W W1) (h2 : KeptT c W1 W2) : KeptT c W W2:=⟨Nat.le_trans h.1 h2.1,fun k cs t hk ht hg => h2.2 k cs t (h.2 k cs t hk ht hg) ht hg⟩
theorem KeptT.below {c : NC} {W W1 : World} (h : Below W.heap.size W W1) : KeptT c W W1:=⟨h.size,fun k cs t hk _ _ => blk_below hk h⟩
theorem nb_setl {w : World} {g t : Nat} {cs : Array Value} (h : w.heap[g]? = some (.cells cs t (0,0))) (i : Nat) (z : Value) : (w.setCell ⟨g,i,none⟩ z).heap[g]? = some (.cells (cs.setIfInBounds i z) t (0,0)):=by
 simp [World.setCell,Array.getElem?_modify,h]
theorem nb_seto {w : World} {g g2 : Nat} {o : Obj} (h : w.heap[g]? = some o) (hne : g ≠ g2) (i : Nat) (z : Value) : (w.setCell ⟨g2,i,none⟩ z).heap[g]? = some o:=(Below.heap_setCell _ _ _ _ hne).trans h
theorem nb_size (w : World) (p : Addr) (z : Value) : (w.setCell p z).heap.size = w.heap.size:=by simp [World.setCell]
theorem KeptT.set {c : NC} {W W1 : World} (h : KeptT c W W1) (i : Nat) (z : Value) : KeptT c W (W1.setCell ⟨c.g,i,none⟩ z):=⟨by rw [nb_size];exact h.1,fun k cs t hk ht hg => nb_seto (h.2 k cs t hk ht hg) hg i z⟩
theorem ISt.below {c : NC} (hc : c.ok) {W W1 : World} {st : RN} {tv ov : Value} (h : ISt c W st tv ov) (hb : Below W.heap.size W W1) : ISt c W1 st tv ov :=
 ⟨st_ h.bw (hb.mono (Nat.le_refl _)),Nat.le_trans h.bB hb.size,blk_below h.bx hb,rb_ h.tr hb,rb_ h.tk hb,rb_ h.ov hb,tabW_stays h.tab (hb.block _ (tabW_lt h.tab)),fun k hk h1 h2 => (hb.block k (Nat.lt_of_lt_of_le hk h.bB)).trans (h.keep k hk h1 h2)⟩
theorem below_grown {w0 W W1 : World} {row : Option Nat} (h : Below w0.heap.size w0 W) (hg : W.grownBy W1 row) (hr : ∀ k,row = some k → w0.heap.size ≤ k) : Below w0.heap.size w0 W1 :=
 ⟨hg.os.trans h.os,hg.tape.trans h.tape,hg.output.trans h.output,Nat.le_trans h.size hg.size,fun k hk => (hg.block k (Nat.lt_of_lt_of_le hk h.size) (fun e => by have:=hr k e.symm;omega)).trans (h.block k hk)⟩
theorem ISt.own_B {c : NC} {W : World} {st : RN} {tv ov : Value} (h : ISt c W st tv ov) : (∀ k,tv.ownBlock = some k → c.B ≤ k ∧ k < W.heap.size) ∧ ∀ k,ov.ownBlock = some k → c.B ≤ k ∧ k < W.heap.size :=
 ⟨fun k hk => ⟨(h.tk.1 k hk).1,Kd.R_lt h.tk k hk⟩,fun k hk => ⟨(h.ov.1 k hk).1,Kd.R_lt h.ov k hk⟩⟩
theorem ISt.appended {c : NC} (hc : c.ok) {W W1 : World} {st : RN} {tv ov v v1 : Value} (h : ISt c W st tv ov) (hv : v = tv ∨ v = ov) (hg : W.grownBy W1 v.ownBlock) (i : Nat) :
  Below c.w0.heap.size c.w0 (W1.setCell ⟨c.g,i,none⟩ v1) ∧ c.B ≤ (W1.setCell ⟨c.g,i,none⟩ v1).heap.size ∧ W1.heap[c.g]? = some (c.box tv ov) ∧
  Kd.R (Kd.int .i64) 3 (W1.setCell ⟨c.g,i,none⟩ v1) c.w0.heap.size (fun k => k < c.B ∧ k ≠ c.g ∧ k ≠ c.gm) (.slice c.At c.tr.length c.ct) c.tr ∧ tabW (W1.setCell ⟨c.g,i,none⟩ v1) c.gm st.n st.T ∧ KeptT c W (W1.setCell ⟨c.g,i,none⟩ v1) ∧ ∀ k,k < c.B → k ≠ c.g → k ≠ c.gm → (W1.setCell ⟨c.g,i,none⟩ v1).heap[k]? = c.wB.heap[k]?:=by
 obtain ⟨o1,o2⟩:=h.own_B
 obtain ⟨b1,b2,b3,b4⟩:=hc.b0
 have hB : ∀ k,v.ownBlock = some k → c.B ≤ k ∧ k < W.heap.size:=by
  rcases hv with rfl|rfl
  ·exact o1
  ·exact o2
 have hst : ∀ k,k < c.B → k ≠ c.g → (W1.setCell ⟨c.g,i,none⟩ v1).heap[k]? = W.heap[k]?:=fun k hk hkg =>
  (Below.heap_setCell W1 ⟨c.g,i,none⟩ v1 k hkg).trans (hg.block k (Nat.lt_of_lt_of_le hk h.bB) (fun e => by have:=hB k e.symm;omega))
 have hx:=blk_grown h.bx hg (fun e => by have:=hB c.g e.symm;omega)
 have hmg : c.gm ≠ c.g:=tabW_ne h.tab h.bx
 have hkt : ∀ {u : Value} {l : List Int} {ok : Nat → Prop},Kd.R (Kd.int .i64) 3 W c.w0.heap.size ok u l → ∀ (k : Nat) (cs : Array Value) (t : TypeId),W.heap[k]? = some (.cells cs t (0,0)) → t ≠ 3 → some k ≠ u.ownBlock:=fun hr k cs t hk ht => Kd.R_ne hr hk (fun e => ht e.symm)
 refine ⟨(below_grown h.bw hg (fun k hk => by have:=hB k hk;omega)).setCell b1 _,by rw [nb_size];exact Nat.le_trans h.bB hg.size,hx,Kd.R_step h.tr (fun k hk _ => hst k hk.1 hk.2.1),tabW_stays h.tab (hst _ b4 hmg),⟨by rw [nb_size];exact hg.size,fun k cs t hk ht hkg => ?_⟩,fun k hk h1 h2 => (hst k hk h1).trans (h.keep k hk h1 h2)⟩
 refine nb_seto (blk_grown hk hg ?_) hkg i v1
 rcases hv with rfl|rfl
 ·exact hkt h.tk k cs t hk ht
 ·exact hkt h.ov k cs t hk ht
end Go.Proofs.Ytblcnbnphjnhdaa.PAll
