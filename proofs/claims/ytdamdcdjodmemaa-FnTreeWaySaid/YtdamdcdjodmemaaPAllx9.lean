/- Proved here: contracts of functions of the given program, or lemmas on them, for the laws of this seat. Written by xprint.py, a program of this session, on the ground of the kit's print; parts by hand: wip/x/ext. -/
import Derived.Test.YtdamdcdjodmemaaPAllx0
import Derived.Test.YtdamdcdjodmemaaPAllx1
import Derived.Test.YtdamdcdjodmemaaPAllx2
import Derived.Test.YtdamdcdjodmemaaPAllx3
import Derived.Test.YtdamdcdjodmemaaPAllx5
import Derived.Test.YtdamdcdjodmemaaPAllx6
import Derived.Test.YtdamdcdjodmemaaPAllx7
import Derived.Test.YtdamdcdjodmemaaPAllx8
namespace Go.Proofs.Ytdamdcdjodmemaa.PAll
open Go.RowKit Go.Proofs.YtdamdcdjodmemaaW.PrintWords Go.Proofs.YtdamdcdjodmemaaW.PrintLast Go.Proofs.YtdamdcdjodmemaaW.PrintMore
attribute [local go_sem] max2_int min2_int max_two min_two max_three min_three max_four min_four   -- for this text's walks alone
set_option linter.unusedVariables false
set_option linter.unusedSimpArgs false

-- LIB p19a
theorem l1In_is (n a b : Int) : spec_l1In.f n a b = some (decide (a ≤ n) && decide (n ≤ b)):=by
  unfold spec_l1In.f
  by_cases h : n ≥ a
  · rw [if_pos h,decide_eq_true (show a ≤ n from h),Bool.true_and]
  · rw [if_neg h,decide_eq_false (show ¬ a ≤ n from h),Bool.false_and]
theorem scabs_at (n : Int) (l : List S51) (hl : l.length ≤ 9223372036854775807) (d : Nat) : ∀ (k i : Nat),i + d = l.length → d < k → spec_CablesValid.l0 k n l (i : Int) = some ((l.drop i).all (cabB n)):=by
  induction d with
  | zero =>
    intro k i h1 hk
    obtain ⟨k,rfl⟩ : ∃ m,k = m + 1:=⟨k - 1,by omega⟩
    simp only [spec_CablesValid.l0]
    rw [if_neg (by omega),List.drop_of_length_le (by omega)]
    rfl
  | succ d ih =>
    intro k i h1 hk
    obtain ⟨k,rfl⟩ : ∃ m,k = m + 1:=⟨k - 1,by omega⟩
    simp only [spec_CablesValid.l0]
    rw [if_pos (by omega),if_pos (by omega),rdCab_get l i (by omega),l1In_is,l1In_is,l1In_is,wrap_succ (show i < l.length by omega) (by omega),ih k (i + 1) (by omega) (by omega),List.drop_eq_getElem_cons (show i < l.length by omega),List.all_cons]
    simp only [Option.bind_some]
    unfold cabB
    cases (decide (0 ≤ l[i].f0) && decide (l[i].f0 ≤ wrap64 (n - 1))) with
    | false => rw [if_neg (by decide)];simp
    | true =>
      rw [if_pos rfl]
      cases (decide (0 ≤ l[i].f1) && decide (l[i].f1 ≤ wrap64 (n - 1))) with
      | false => rw [if_neg (by decide)];simp
      | true =>
        rw [if_pos rfl]
        by_cases e : l[i].f0 = l[i].f1
        · rw [if_pos e,bne_eq_false_iff_eq.mpr e];simp
        · rw [if_neg e,bne_iff_ne.mpr e]
          cases (decide (1 ≤ l[i].f2) && decide (l[i].f2 ≤ 99)) with
          | false => rw [if_neg (by decide)];simp
          | true => rw [if_pos rfl];simp
theorem scabs_eq (n : Int) (l : List S51) (hl : l.length ≤ 9223372036854775807) (k : Nat) (hk : l.length + 1 < k) : spec_CablesValid.f k n l = some (cabsB n l):=by
  obtain ⟨k,rfl⟩ : ∃ m,k = m + 1:=⟨k - 1,by omega⟩
  unfold spec_CablesValid.f cabsB
  rw [l1In_is,Option.bind_some]
  simp only [spec_CablesValid.j0]
  cases (decide (1 ≤ n) && decide (n ≤ 8)) with
  | false => rw [if_neg (by decide),if_pos trivial];rfl
  | true =>
    rw [if_pos rfl]
    by_cases c : l.length ≤ 20
    · rw [decide_eq_false (show ¬ (l.length : Int) > 20 by omega),if_neg (by decide),decide_eq_true c]
      exact (scabs_at n l hl l.length k 0 (by omega) (by omega)).trans (by rw [List.drop_zero];rfl)
    · rw [decide_eq_true (show (l.length : Int) > 20 by omega),if_pos rfl,decide_eq_false c]
      rfl
theorem snet_l1 (n : Int) (cs : List S51) (hs vs : List Int) (hc : cs.length ≤ 9223372036854775807) (hl : hs.length ≤ 9223372036854775807) (hv : vs.length ≤ 9223372036854775807) (d : Nat) : ∀ (k i : Nat),i + d = vs.length → d + cs.length + 2 < k → spec_NetValid.l1 k (i : Int) n cs hs vs = some ((vs.drop i).all vlB && (cabsB n cs && (decide (vs.length = hs.length) && decide (hs.length ≤ 15)))):=by
  induction d with
  | zero =>
    intro k i h1 hk
    obtain ⟨k,rfl⟩ : ∃ m,k = m + 1:=⟨k - 1,by omega⟩
    simp only [spec_NetValid.l1]
    rw [if_neg (by omega),List.drop_of_length_le (by omega),scabs_eq n cs hc k (by omega),Option.bind_some]
    have e15 : decide ((hs.length : Int) ≤ 15) = decide (hs.length ≤ 15):=by rw [decide_eq_decide];omega
    rw [e15]
    cases cabsB n cs with
    | false => rw [if_neg (by decide)];simp
    | true =>
      rw [if_pos rfl]
      by_cases e : hs.length = vs.length
      · rw [if_pos (by omega),decide_eq_true e.symm];simp
      · rw [if_neg (by omega),decide_eq_false (fun h => e h.symm)];simp
  | succ d ih =>
    intro k i h1 hk
    obtain ⟨k,rfl⟩ : ∃ m,k = m + 1:=⟨k - 1,by omega⟩
    have e : spec_l10Vlan.f vs[i] = some (vlB vs[i]):=by unfold spec_l10Vlan.f;rw [l1In_is];rfl
    simp only [spec_NetValid.l1]
    rw [if_pos (by omega),if_pos (by omega),rd_get vs i (by omega),e,Option.bind_some,wrap_succ (show i < vs.length by omega) (by omega),ih k (i + 1) (by omega) (by omega),List.drop_eq_getElem_cons (show i < vs.length by omega),List.all_cons]
    cases vlB vs[i] with
    | false => rw [if_neg (by decide)];simp
    | true => rw [if_pos rfl];simp
theorem snet_l0 (n : Int) (cs : List S51) (hs vs : List Int) (hc : cs.length ≤ 9223372036854775807) (hl : hs.length ≤ 9223372036854775807) (hv : vs.length ≤ 9223372036854775807) (d : Nat) : ∀ (k i : Nat),i + d = hs.length → d + vs.length + cs.length + 3 < k → spec_NetValid.l0 k (i : Int) n cs hs vs = some ((hs.drop i).all (brB n) && (vs.all vlB && (cabsB n cs && (decide (vs.length = hs.length) && decide (hs.length ≤ 15))))):=by
  induction d with
  | zero =>
    intro k i h1 hk
    obtain ⟨k,rfl⟩ : ∃ m,k = m + 1:=⟨k - 1,by omega⟩
    have e:=snet_l1 n cs hs vs hc hl hv vs.length k 0 (by omega) (by omega)
    simp only [spec_NetValid.l0]
    rw [if_neg (by omega),List.drop_of_length_le (by omega)]
    exact e.trans (by rw [List.drop_zero];simp)
  | succ d ih =>
    intro k i h1 hk
    obtain ⟨k,rfl⟩ : ∃ m,k = m + 1:=⟨k - 1,by omega⟩
    simp only [spec_NetValid.l0]
    rw [if_pos (by omega),if_pos (by omega),rd_get hs i (by omega),l1In_is,Option.bind_some,wrap_succ (show i < hs.length by omega) (by omega),ih k (i + 1) (by omega) (by omega),List.drop_eq_getElem_cons (show i < hs.length by omega),List.all_cons]
    have e : brB n hs[i] = (decide (0 ≤ hs[i]) && decide (hs[i] ≤ wrap64 (n - 1))):=rfl
    rw [← e]
    cases brB n hs[i] with
    | false => rw [if_neg (by decide)];simp
    | true => rw [if_pos rfl];simp
theorem snet_eq (n : Int) (cs : List S51) (hs vs : List Int) (hc : cs.length ≤ 9223372036854775807) (hl : hs.length ≤ 9223372036854775807) (hv : vs.length ≤ 9223372036854775807) (k : Nat) (hk : hs.length + vs.length + cs.length + 3 < k) : spec_NetValid.f k n cs hs vs = some (netB n cs hs vs):=by
  unfold spec_NetValid.f
  refine (snet_l0 n cs hs vs hc hl hv hs.length k 0 (by omega) (by omega)).trans ?_
  rw [List.drop_zero]
  unfold netB
  cases hs.all (brB n) <;> cases vs.all vlB <;> cases cabsB n cs <;> cases decide (vs.length = hs.length) <;> cases decide (hs.length ≤ 15) <;> rfl
theorem inet_eq (n : Int) (cs : List S51) (hs vs : List Int) : impl_NetValid.f n cs hs vs = some (netB n cs hs vs):=rfl

-- LIB p19j
theorem rdB_get (l : List Bool) (i : Nat) (h : i < l.length) : rdOf false l (i : Int) = l[i]:=by simp [rdOf,List.getD_eq_getElem?_getD,h]
theorem sjoin_l1 (N : Nat) (cs : List S51) (hc : CabOk cs N) (hl : cs.length ≤ 9223372036854775807) (j : Int) (d : Nat) :
    ∀ (k i : Nat) (s : List Bool),i + d = cs.length → s.length = N → d < k → spec_l7Joined.l1 k cs s (i : Int) (N : Int) j = spec_l7Joined.l0 (k - d - 1) cs ((cs.drop i).foldl relB s) (N : Int) (wrap64 (j + 1)):=by
  induction d with
  | zero =>
    intro k i s h1 h2 hk
    obtain ⟨k,rfl⟩ : ∃ m,k = m + 1:=⟨k - 1,by omega⟩
    simp only [spec_l7Joined.l1]
    rw [if_neg (by omega),List.drop_of_length_le (by omega)]
    rfl
  | succ d ih =>
    intro k i s h1 h2 hk
    obtain ⟨k,rfl⟩ : ∃ m,k = m + 1:=⟨k - 1,by omega⟩
    have hi : i < cs.length:=by omega
    obtain ⟨g1,g2,g3,g4⟩:=hc _ (List.getElem_mem hi)
    simp only [spec_l7Joined.l1]
    rw [if_pos (by omega),if_pos (by omega),rdCab_get cs i hi,if_pos g1,if_pos (by omega),wrap_succ hi (by omega),List.drop_eq_getElem_cons hi,List.foldl_cons,show k + 1 - (d + 1) - 1 = k - d - 1 by omega]
    have hr : (relB s cs[i]).length = N:=by rw [relB_len];exact h2
    rw [← ih k (i + 1) _ (by omega) hr (by omega)]
    unfold relB
    by_cases c0 : rdOf false s cs[i].f0 = true
    · rw [if_pos c0,if_pos g3,if_pos (by omega),if_pos (Or.inl c0)]
    · rw [if_neg c0,if_pos g3,if_pos (by omega)]
      by_cases c1 : rdOf false s cs[i].f1 = true
      · rw [if_pos c1,if_pos (Or.inr c1)]
      · rw [if_neg c1,if_neg (fun h => h.elim c0 c1)]
theorem sjoin_l0 (N : Nat) (hN : N ≤ 1000000) (cs : List S51) (hc : CabOk cs N) (hl : cs.length ≤ 1000000) (s0 : List Bool) (hs : s0.length = N) (d : Nat) :
    ∀ (k j : Nat),j + d = N → (cs.length + 2) * d < k → spec_l7Joined.l0 k cs (passB cs j s0) (N : Int) (j : Int) = some (passB cs N s0):=by
  induction d with
  | zero =>
    intro k j h1 hk
    obtain ⟨k,rfl⟩ : ∃ m,k = m + 1:=⟨k - 1,by omega⟩
    obtain rfl : j = N:=by omega
    simp only [spec_l7Joined.l0]
    rw [if_neg (by omega)]
  | succ d ih =>
    intro k j h1 hk
    rw [Nat.mul_add,Nat.mul_one] at hk
    obtain ⟨k,rfl⟩ : ∃ m,k = m + 1:=⟨k - 1,by omega⟩
    simp only [spec_l7Joined.l0]
    have e:=sjoin_l1 N cs hc (by omega) (j : Int) cs.length k 0 (passB cs j s0) (by omega) (by rw [passB_len];exact hs) (by omega)
    rw [if_pos (by omega)]
    refine e.trans ?_
    rw [List.drop_zero,wrap_succ (show j < N by omega) (by omega)]
    exact ih _ (j + 1) (by omega) (by omega)
theorem sjoin_eq (N x : Nat) (hx : x < N) (hN : N ≤ 1000000) (cs : List S51) (hc : CabOk cs N) (hl : cs.length ≤ 1000000) (k : Nat) (hk : (cs.length + 2) * N < k) : spec_l7Joined.f k (N : Int) cs (x : Int) = some (jnB cs N x):=by
  unfold spec_l7Joined.f
  rw [if_pos (by omega),if_pos (by omega),Option.bind_some,if_pos (by omega),if_pos (by rw [List.length_replicate];omega),Int.toNat_natCast,Int.toNat_natCast]
  exact sjoin_l0 N hN cs hc hl _ (by simp) N k 0 (by omega) hk
/-- The numbers of a row of numbers that have a property. -/
def filM (p : Int → Bool) : Nat → Int → List Int
  | 0,_ => []
  | d + 1,i => if p i = true then i :: filM p d (i + 1) else filM p d (i + 1)
theorem filM_len (p : Int → Bool) (d : Nat) : ∀ i,(filM p d i).length ≤ d:=by
  induction d with
  | zero => exact fun _ => Nat.le_refl _
  | succ d ih => intro i;have:=ih (i + 1);rw [filM];split
                 · rw [List.length_cons];omega
                 · omega
theorem filM_mem (p : Int → Bool) (d : Nat) : ∀ i x,x ∈ filM p d i ↔ i ≤ x ∧ x < i + d ∧ p x = true:=by
  induction d with
  | zero => intro i x;rw [filM];constructor
            · intro h;cases h
            · intro h;omega
  | succ d ih =>
    intro i x
    rw [filM]
    by_cases c : p i = true
    · rw [if_pos c,List.mem_cons,ih]
      constructor
      · rintro (h | h)
        · subst h;exact ⟨by omega,by omega,c⟩
        · exact ⟨by omega,by omega,h.2.2⟩
      · rintro ⟨h1,h2,h3⟩
        by_cases e : x = i
        · exact Or.inl e
        · exact Or.inr ⟨by omega,by omega,h3⟩
    · rw [if_neg c,ih]
      constructor
      · rintro ⟨h1,h2,h3⟩;exact ⟨by omega,by omega,h3⟩
      · rintro ⟨h1,h2,h3⟩
        refine ⟨?_,by omega,h3⟩
        by_cases e : x = i
        · subst e;exact absurd h3 c
        · omega
theorem filM_congr (p q : Int → Bool) (d : Nat) : ∀ i : Int,(∀ x,i ≤ x → x < i + d → p x = q x) → filM p d i = filM q d i:=by
  induction d with
  | zero => exact fun _ _ => rfl
  | succ d ih => intro i h;rw [filM,filM,h i (by omega) (by omega),ih (i + 1) (fun x h1 h2 => h x (by omega) (by omega))]
/-- What is told of a valid network. -/
theorem netB_facts {n : Int} {cs : List S51} {hs vs : List Int} (h : netB n cs hs vs = true) : cabsB n cs = true ∧ hs.length ≤ 15 ∧ vs.length = hs.length ∧ (∀ x ∈ hs,0 ≤ x ∧ x < n):=by
  unfold netB at h
  simp only [Bool.and_eq_true,decide_eq_true_eq,List.all_eq_true] at h
  obtain ⟨h1,h2,h3,h4,h5⟩:=h
  obtain ⟨f1,f2,_,_⟩:=cabsB_facts h1
  refine ⟨h1,h2,h3,fun x hx => ?_⟩
  have:=h4 x hx
  unfold brB at this
  have e : wrap64 (n - 1) = n - 1:=by unfold wrap64;omega
  rw [e] at this
  simp only [Bool.and_eq_true,decide_eq_true_eq] at this
  omega
theorem cabOk_of {N : Nat} {cs : List S51} (h : cabsB (N : Int) cs = true) : CabOk cs N:=fun c hc => by
  obtain ⟨_,_,_,f⟩:=cabsB_facts h
  have:=f c hc
  omega
theorem istation_eq (n : Int) (cs : List S51) (hs vs : List Int) (s : Int) : impl_Net_station.f n cs hs vs s = some (decide (netB n cs hs vs = true ∧ 0 ≤ s ∧ s < hs.length)):=by
  unfold impl_Net_station.f
  rw [inet_eq,Option.bind_some]
  cases hv : netB n cs hs vs with
  | false => rw [if_neg (by decide)];simp
  | true =>
    obtain ⟨q1,q2,q3,q4⟩:=netB_facts hv
    rw [if_pos rfl,win_is,Option.bind_some,wrap_eq (by omega) (by omega),← Bool.decide_and]
    congr 1
    rw [decide_eq_decide]
    simp only [true_and]
    omega
theorem sstation_eq (n : Int) (cs : List S51) (hs vs : List Int) (s : Int) (h : hs.length ≤ 1048576) : spec_l19Station.f n cs hs vs s = some (decide (0 ≤ s ∧ s < hs.length)):=by
  unfold spec_l19Station.f
  rw [l1In_is,Option.bind_some,wrap_eq (by omega) (by omega),← Bool.decide_and]
  congr 1
  rw [decide_eq_decide]
  omega

-- LIB costs
/-- A cable makes its bridges' costs less. -/
def relC (o : List Int) (c : S51) : List Int:=(o.set c.f0.toNat (mn (rd o c.f0) (rd o c.f1 + c.f2))).set c.f1.toNat (mn (rd (o.set c.f0.toNat (mn (rd o c.f0) (rd o c.f1 + c.f2))) c.f1) (rd (o.set c.f0.toNat (mn (rd o c.f0) (rd o c.f1 + c.f2))) c.f0 + c.f2))
def passC (cs : List S51) : Nat → List Int → List Int
  | 0,o => o
  | k + 1,o => cs.foldl relC (passC cs k o)
theorem relC_len (o : List Int) (c : S51) : (relC o c).length = o.length:=by unfold relC;simp
theorem foldC_len (cs : List S51) : ∀ o,(cs.foldl relC o).length = o.length:=by
  induction cs with
  | nil => exact fun _ => rfl
  | cons c cs ih => intro o;rw [List.foldl_cons,ih,relC_len]
theorem passC_len (cs : List S51) (k : Nat) (o : List Int) : (passC cs k o).length = o.length:=by
  induction k with
  | zero => rfl
  | succ k ih => rw [passC,foldC_len,ih]
def gD (o : List Int) (b : Nat) : Int:=o.getD b 0
theorem rd_gD (o : List Int) (b : Nat) : rd o (b : Int) = gD o b:=by simp [rd,rdOf,gD]
theorem gD_set (o : List Int) (a p : Nat) (v : Int) (h : a < o.length) : gD (o.set a v) p = if p = a then v else gD o p:=by
  unfold gD
  rw [List.getD_eq_getElem?_getD,List.getD_eq_getElem?_getD,List.getElem?_set]
  by_cases e : a = p
  · subst e;rw [if_pos rfl,if_pos h,if_pos rfl];rfl
  · rw [if_neg e,if_neg (fun h => e h.symm)]
theorem relC_get (o : List Int) (a b : Nat) (p : Int) (ha : a < o.length) (hb : b < o.length) (hab : a ≠ b) (x : Nat) :
    gD (relC o ⟨(a : Int),(b : Int),p⟩) x = if x = b then mn (gD o b) (mn (gD o a) (gD o b + p) + p) else if x = a then mn (gD o a) (gD o b + p) else gD o x:=by
  unfold relC
  simp only [Int.toNat_natCast,rd_gD]
  have hba : (b = a) = False:=eq_false (fun e => hab e.symm)
  rw [gD_set _ _ _ _ (by rw [List.length_set];exact hb)]
  simp only [gD_set o a _ _ ha,hba,if_false,if_true]
/-- Costs by two far numbers: where a bridge has been come to, they are the same. -/
structure SameC (N : Nat) (F : List Bool) (x y : List Int) : Prop where
  fl : F.length = N
  xl : x.length = N
  yl : y.length = N
  yes : ∀ b,b < N → memB F b → gD x b = gD y b ∧ 0 ≤ gD x b ∧ gD x b ≤ 99 * (F.count true : Int)
  no : ∀ b,b < N → ¬ memB F b → gD x b = 1073741824 ∧ gD y b = 10000
theorem mn_def (a b : Int) : mn a b = if b < a then b else a:=rfl
theorem mn_cases (a b : Int) : (mn a b = b ∧ b < a) ∨ (mn a b = a ∧ a ≤ b):=by
  rw [mn_def]
  split
  · exact Or.inl ⟨rfl,by assumption⟩
  · exact Or.inr ⟨rfl,by omega⟩
theorem sameC_step {N : Nat} {F : List Bool} {x y : List Int} (h : SameC N F x y) (hN : N ≤ 8) (c : S51) (h0 : 0 ≤ c.f0) (h1 : c.f0 < N) (h2 : 0 ≤ c.f1) (h3 : c.f1 < N) (hne : c.f0 ≠ c.f1) (hc1 : 1 ≤ c.f2) (hc2 : c.f2 ≤ 99) : SameC N (relB F c) (relC x c) (relC y c):=by
  obtain ⟨fl,xl,yl,yes,no⟩:=h
  obtain ⟨cA,cB,p⟩:=c
  simp only [] at h0 h1 h2 h3 hne hc1 hc2
  obtain ⟨a,rfl⟩:=Int.eq_ofNat_of_zero_le h0
  obtain ⟨b,rfl⟩:=Int.eq_ofNat_of_zero_le h2
  have ha : a < N:=by omega
  have hb : b < N:=by omega
  have hab : a ≠ b:=by omega
  have hF:=fun i => relB_mem F ⟨(a : Int),(b : Int),p⟩ (by simp;omega) (by simp;omega) i
  simp only [Int.toNat_natCast] at hF
  have hcnt:=relB_count F ⟨(a : Int),(b : Int),p⟩ (by simp;omega) (by simp;omega)
  have hct : F.count true ≤ N:=by have:=List.count_le_length (a:=true) (l:=F);omega
  have gx:=relC_get x a b p (by omega) (by omega) hab
  have gy:=relC_get y a b p (by omega) (by omega) hab
  have hgrow : (memB F a ∨ memB F b) → ¬ (memB F a ∧ memB F b) → F.count true + 1 ≤ (relB F ⟨(a : Int),(b : Int),p⟩).count true:=by
    intro e1 e2
    by_cases e : (relB F ⟨(a : Int),(b : Int),p⟩).count true = F.count true
    · exfalso
      have hq:=hcnt.2 e
      apply e2
      constructor
      · have:=(hF a).2 (Or.inr ⟨Or.inl rfl,e1⟩);rw [hq] at this;exact this
      · have:=(hF b).2 (Or.inr ⟨Or.inr rfl,e1⟩);rw [hq] at this;exact this
    · have:=hcnt.1;omega
  refine ⟨by rw [relB_len];exact fl,by rw [relC_len];exact xl,by rw [relC_len];exact yl,?_,?_⟩
  · intro i hi hm
    have hm':=(hF i).1 hm
    rw [gx,gy]
    have hle:=hcnt.1
    by_cases fa : memB F a
    · obtain ⟨a1,a2,a3⟩:=yes a ha fa
      by_cases fb : memB F b
      · obtain ⟨b1,b2,b3⟩:=yes b hb fb
        rw [← a1,← b1]
        have m1:=mn_cases (gD x a) (gD x b + p)
        have m2:=mn_cases (gD x b) (mn (gD x a) (gD x b + p) + p)
        generalize mn (gD x b) (mn (gD x a) (gD x b + p) + p) = w2 at m2 ⊢
        generalize mn (gD x a) (gD x b + p) = w1 at m1 m2 ⊢
        by_cases eb : i = b
        · rw [if_pos eb,if_pos eb];exact ⟨rfl,by omega,by omega⟩
        · rw [if_neg eb,if_neg eb]
          by_cases ea : i = a
          · rw [if_pos ea,if_pos ea];exact ⟨rfl,by omega,by omega⟩
          · rw [if_neg ea,if_neg ea]
            have fi : memB F i:=by
              rcases hm' with q | ⟨q,_⟩
              · exact q
              · omega
            obtain ⟨i1,i2,i3⟩:=yes i hi fi
            omega
      · obtain ⟨b1,b2⟩:=no b hb fb
        have hg:=hgrow (Or.inl fa) (fun e => fb e.2)
        rw [← a1,b1,b2]
        by_cases eb : i = b
        · rw [if_pos eb,if_pos eb];simp only [mn_def];repeat' split
          all_goals omega
        · rw [if_neg eb,if_neg eb]
          by_cases ea : i = a
          · rw [if_pos ea,if_pos ea];simp only [mn_def];repeat' split
            all_goals omega
          · rw [if_neg ea,if_neg ea]
            have fi : memB F i:=by
              rcases hm' with q | ⟨q,_⟩
              · exact q
              · omega
            obtain ⟨i1,i2,i3⟩:=yes i hi fi
            omega
    · obtain ⟨a1,a2⟩:=no a ha fa
      by_cases fb : memB F b
      · obtain ⟨b1,b2,b3⟩:=yes b hb fb
        have hg:=hgrow (Or.inr fb) (fun e => fa e.1)
        rw [← b1,a1,a2]
        by_cases eb : i = b
        · rw [if_pos eb,if_pos eb];simp only [mn_def];repeat' split
          all_goals omega
        · rw [if_neg eb,if_neg eb]
          by_cases ea : i = a
          · rw [if_pos ea,if_pos ea];simp only [mn_def];repeat' split
            all_goals omega
          · rw [if_neg ea,if_neg ea]
            have fi : memB F i:=by
              rcases hm' with q | ⟨q,_⟩
              · exact q
              · omega
            obtain ⟨i1,i2,i3⟩:=yes i hi fi
            omega
      · rcases hm' with q | ⟨_,q | q⟩
        · have n1 : i ≠ a:=fun e => fa (e ▸ q)
          have n2 : i ≠ b:=fun e => fb (e ▸ q)
          rw [if_neg n2,if_neg n2,if_neg n1,if_neg n1]
          obtain ⟨i1,i2,i3⟩:=yes i hi q
          omega
        · exact absurd q fa
        · exact absurd q fb
  · intro i hi hm
    have hm' : ¬ memB F i:=fun q => hm ((hF i).2 (Or.inl q))
    rw [gx,gy]
    have hno : ∀ j,(j = a ∨ j = b) → i = j → ¬ memB F a ∧ ¬ memB F b:=by
      intro j hj e
      constructor <;> intro q
      · exact hm ((hF i).2 (Or.inr ⟨by rw [e];exact hj,Or.inl q⟩))
      · exact hm ((hF i).2 (Or.inr ⟨by rw [e];exact hj,Or.inr q⟩))
    by_cases eb : i = b
    · obtain ⟨q1,q2⟩:=hno b (Or.inr rfl) eb
      obtain ⟨a1,a2⟩:=no a ha q1
      obtain ⟨b1,b2⟩:=no b hb q2
      rw [if_pos eb,if_pos eb,a1,a2,b1,b2]
      simp only [mn_def]
      constructor <;> repeat' split
      all_goals omega
    · rw [if_neg eb,if_neg eb]
      by_cases ea : i = a
      · obtain ⟨q1,q2⟩:=hno a (Or.inl rfl) ea
        obtain ⟨a1,a2⟩:=no a ha q1
        obtain ⟨b1,b2⟩:=no b hb q2
        rw [if_pos ea,if_pos ea,a1,a2,b1,b2]
        simp only [mn_def]
        constructor <;> repeat' split
        all_goals omega
      · rw [if_neg ea,if_neg ea];exact no i hi hm'
theorem sameC_fold {N : Nat} (hN : N ≤ 8) (cs : List S51) (hc : ∀ x ∈ cs,0 ≤ x.f0 ∧ x.f0 < (N : Int) ∧ 0 ≤ x.f1 ∧ x.f1 < (N : Int) ∧ x.f0 ≠ x.f1 ∧ 1 ≤ x.f2 ∧ x.f2 ≤ 99) : ∀ (F : List Bool) (x y : List Int),SameC N F x y → SameC N (cs.foldl relB F) (cs.foldl relC x) (cs.foldl relC y):=by
  induction cs with
  | nil => exact fun _ _ _ h => h
  | cons c cs ih =>
    intro F x y h
    obtain ⟨g1,g2,g3,g4,g5,g6,g7⟩:=hc c List.mem_cons_self
    rw [List.foldl_cons,List.foldl_cons,List.foldl_cons]
    exact ih (fun z hz => hc z (List.mem_cons_of_mem _ hz)) _ _ _ (sameC_step h hN c g1 g2 g3 g4 g5 g6 g7)
theorem sameC_pass {N : Nat} (hN : N ≤ 8) (cs : List S51) (hc : ∀ x ∈ cs,0 ≤ x.f0 ∧ x.f0 < (N : Int) ∧ 0 ≤ x.f1 ∧ x.f1 < (N : Int) ∧ x.f0 ≠ x.f1 ∧ 1 ≤ x.f2 ∧ x.f2 ≤ 99) (F : List Bool) (x y : List Int) (h : SameC N F x y) (k : Nat) : SameC N (passB cs k F) (passC cs k x) (passC cs k y):=by
  induction k with
  | zero => exact h
  | succ k ih => exact sameC_fold hN cs hc _ _ _ ih
/-- The costs with a far number. -/
def startC (far : Int) (N : Nat) (cs : List S51) : List Int:=(List.range N).map fun b => if gD (rootsL N cs) b = (b : Int) then 0 else far
def costsX (far : Int) (N : Nat) (cs : List S51) : List Int:=passC cs N (startC far N cs)
def costsN (N : Nat) (cs : List S51) : List Int:=costsX 1073741824 N cs

-- LIB costs2
def SoundC (cs : List S51) (N : Nat) : Prop:=∀ x ∈ cs,0 ≤ x.f0 ∧ x.f0 < (N : Int) ∧ 0 ≤ x.f1 ∧ x.f1 < (N : Int) ∧ x.f0 ≠ x.f1 ∧ 1 ≤ x.f2 ∧ x.f2 ≤ 99
theorem sound_of {N : Nat} {cs : List S51} (h : cabsB (N : Int) cs = true) : SoundC cs N:=fun x hx => (cabsB_facts h).2.2.2 x hx
theorem SoundC.ok {N : Nat} {cs : List S51} (h : SoundC cs N) : CabOk cs N:=fun c hc => by have:=h c hc;omega
theorem startC_len (far : Int) (N : Nat) (cs : List S51) : (startC far N cs).length = N:=by unfold startC;simp
theorem startC_get (far : Int) (N : Nat) (cs : List S51) (b : Nat) (hb : b < N) : gD (startC far N cs) b = if gD (rootsL N cs) b = (b : Int) then 0 else far:=by
  unfold startC gD
  simp [List.getD_eq_getElem?_getD,hb]
theorem gD_get (o : List Int) (b : Nat) (h : b < o.length) : gD o b = o[b]:=by simp [gD,List.getD_eq_getElem?_getD,h]
theorem root_of {N b : Nat} {cs : List S51} (hc : CabOk cs N) (hb : b < N) : ∃ r : Nat,r < N ∧ gD (rootsL N cs) b = (r : Int) ∧ gD (rootsL N cs) r = (r : Int) ∧ memB (jnB cs N r) b ∧ ∀ q,q < r → ¬ memB (jnB cs N b) q:=by
  have hl:=rootsL_len N cs
  obtain ⟨r,h1,h2,h3⟩:=(roots_le hc hb _).1 (Int.le_refl _)
  have h4 : (rootsL N cs)[b]'(by omega) ≤ r:=(roots_le hc hb _).2 ⟨r,h1,Int.le_refl _,h3⟩
  have h5:=(roots_join hc h1 hb).2 h3
  refine ⟨r,h1,by rw [gD_get _ _ (by omega)];omega,by rw [gD_get _ _ (by omega)];omega,h3,fun q hq hm => ?_⟩
  have hqN : q < N:=by omega
  have h6 : (rootsL N cs)[b]'(by omega) ≤ q:=(roots_le hc hb _).2 ⟨q,hqN,Int.le_refl _,jnB_symm hc hb hqN hm⟩
  omega
def startF (N : Nat) (cs : List S51) : List Bool:=(List.range N).map fun b => decide (gD (rootsL N cs) b = (b : Int))
theorem startF_mem (N : Nat) (cs : List S51) (b : Nat) (hb : b < N) : memB (startF N cs) b ↔ gD (rootsL N cs) b = (b : Int):=by
  unfold startF memB
  simp [hb]
/-- Both ways of telling what it costs come to the same. -/
theorem costs_same {N : Nat} (hN : N ≤ 8) {cs : List S51} (hs : SoundC cs N) : costsX 10000 N cs = costsN N cs ∧ ∀ b,b < N → 0 ≤ gD (costsN N cs) b ∧ gD (costsN N cs) b ≤ 792:=by
  have hc:=hs.ok
  have h0 : SameC N (startF N cs) (startC 1073741824 N cs) (startC 10000 N cs):=by
    refine ⟨by unfold startF;simp,startC_len _ _ _,startC_len _ _ _,fun b hb hm => ?_,fun b hb hm => ?_⟩
    · rw [startF_mem N cs b hb] at hm
      rw [startC_get _ _ _ _ hb,startC_get _ _ _ _ hb,if_pos hm,if_pos hm]
      omega
    · rw [startF_mem N cs b hb] at hm
      rw [startC_get _ _ _ _ hb,startC_get _ _ _ _ hb,if_neg hm,if_neg hm]
      omega
  have h1:=sameC_pass hN cs hs _ _ _ h0 N
  have hfl : (startF N cs).length = N:=by unfold startF;simp
  have hall : ∀ b,b < N → memB (passB cs N (startF N cs)) b:=by
    intro b hb
    obtain ⟨r,r1,r2,r3,r4,_⟩:=root_of hc hb
    have hm:=(startF_mem N cs r r1).2 r3
    exact jnB_least hc r1 (passB_closed cs hc _ hfl r hm) ((passB_mem cs hc _ hfl N).1 r hm) r4
  have hct : (passB cs N (startF N cs)).count true ≤ N:=by
    have:=List.count_le_length (a:=true) (l:=passB cs N (startF N cs))
    rw [passB_len,hfl] at this
    exact this
  constructor
  · apply List.ext_getElem
    · rw [costsX,passC_len,startC_len,costsN,costsX,passC_len,startC_len]
    · intro i hi1 hi2
      have hi : i < N:=by rw [costsX,passC_len,startC_len] at hi1;exact hi1
      have e:=(h1.yes i hi (hall i hi)).1
      rw [← gD_get _ _ hi1,← gD_get _ _ hi2]
      exact e.symm
  · intro b hb
    have e:=h1.yes b hb (hall b hb)
    exact ⟨e.2.1,by have:=e.2.2;show gD (passC cs N (startC 1073741824 N cs)) b ≤ 792;omega⟩
theorem costsX_len (far : Int) (N : Nat) (cs : List S51) : (costsX far N cs).length = N:=by unfold costsX;rw [passC_len,startC_len]
/-- What lies in a list of costs while it is made: no number of it can pass a bound. -/
def Below30 (o : List Int) : Prop:=∀ b,0 ≤ gD o b ∧ gD o b ≤ 1073741824
theorem below30_rel {o : List Int} (h : Below30 o) {N : Nat} (ho : o.length = N) (c : S51) (h0 : 0 ≤ c.f0 ∧ c.f0 < (N : Int) ∧ 0 ≤ c.f1 ∧ c.f1 < (N : Int) ∧ c.f0 ≠ c.f1 ∧ 1 ≤ c.f2 ∧ c.f2 ≤ 99) : Below30 (relC o c):=by
  obtain ⟨cA,cB,p⟩:=c
  simp only [] at h0
  obtain ⟨g1,g2,g3,g4,g5,g6,g7⟩:=h0
  obtain ⟨a,rfl⟩:=Int.eq_ofNat_of_zero_le g1
  obtain ⟨b,rfl⟩:=Int.eq_ofNat_of_zero_le g3
  intro x
  rw [relC_get o a b p (by omega) (by omega) (by omega)]
  have ha:=h a
  have hb:=h b
  have hx:=h x
  have m1:=mn_cases (gD o a) (gD o b + p)
  have m2:=mn_cases (gD o b) (mn (gD o a) (gD o b + p) + p)
  split
  · omega
  · split <;> omega
theorem below30_fold (cs : List S51) {N : Nat} (hs : SoundC cs N) : ∀ o,o.length = N → Below30 o → Below30 (cs.foldl relC o):=by
  induction cs with
  | nil => exact fun _ _ h => h
  | cons c cs ih => exact fun o ho h => ih (fun x hx => hs x (List.mem_cons_of_mem _ hx)) _ (by rw [relC_len];exact ho) (below30_rel h ho c (hs c List.mem_cons_self))
theorem below30_pass (cs : List S51) {N : Nat} (hs : SoundC cs N) (o : List Int) (ho : o.length = N) (h : Below30 o) (k : Nat) : Below30 (passC cs k o):=by
  induction k with
  | zero => exact h
  | succ k ih => exact below30_fold cs hs _ (by rw [passC_len];exact ho) ih
theorem below30_start (far : Int) (h0 : 0 ≤ far) (h1 : far ≤ 1073741824) (N : Nat) (cs : List S51) : Below30 (startC far N cs):=by
  intro b
  by_cases hb : b < N
  · rw [startC_get _ _ _ _ hb];split <;> omega
  · have : gD (startC far N cs) b = 0:=by unfold gD;rw [List.getD_eq_getElem?_getD,List.getElem?_eq_none (by rw [startC_len];omega)];rfl
    omega
-- the program's
theorem icost_l2 (N : Nat) (cs : List S51) (hs : SoundC cs N) (hl : cs.length ≤ 1000) (n j : Int) (d : Nat) : ∀ (k i : Nat) (o : List Int),i + d = cs.length → o.length = N → Below30 o → d < k →
    impl_costsOf.l2 k cs o n j cs cs.length (i : Int) = impl_costsOf.l1 (k - d - 1) cs ((cs.drop i).foldl relC o) n (wrap64 (j + 1)):=by
  induction d with
  | zero =>
    intro k i o h1 h2 _ hk
    obtain ⟨k,rfl⟩ : ∃ m,k = m + 1:=⟨k - 1,by omega⟩
    simp only [impl_costsOf.l2]
    rw [if_neg (by omega),List.drop_of_length_le (by omega)]
    rfl
  | succ d ih =>
    intro k i o h1 h2 hb hk
    obtain ⟨k,rfl⟩ : ∃ m,k = m + 1:=⟨k - 1,by omega⟩
    have hi : i < cs.length:=by omega
    have g:=hs _ (List.getElem_mem hi)
    obtain ⟨g1,g2,g3,g4,g5,g6,g7⟩:=g
    have hb2:=below30_rel hb h2 cs[i] (hs _ (List.getElem_mem hi))
    obtain ⟨a,ha⟩:=Int.eq_ofNat_of_zero_le g1
    obtain ⟨b,hbb⟩:=Int.eq_ofNat_of_zero_le g3
    have ba:=hb a
    have bb:=hb b
    simp only [impl_costsOf.l2,Option.bind_some]
    rw [if_pos (by omega),if_pos (by omega),if_pos (by omega),rdCab_get cs i hi,if_pos g1,if_pos (by omega),if_pos g3,if_pos (by omega),wrap_succ hi (by omega),List.drop_eq_getElem_cons hi,List.foldl_cons,show k + 1 - (d + 1) - 1 = k - d - 1 by omega]
    rw [← ih k (i + 1) _ (by omega) (by rw [relC_len];exact h2) hb2 (by omega)]
    have w1 : wrap64 (rd o cs[i].f1 + cs[i].f2) = rd o cs[i].f1 + cs[i].f2:=by rw [hbb,rd_gD];exact wrap_eq (by omega) (by omega)
    have m1:=mn_cases (gD o a) (gD o b + cs[i].f2)
    have hlen : a < o.length:=by omega
    have w2 : wrap64 (rd (o.set cs[i].f0.toNat (mn (rd o cs[i].f0) (rd o cs[i].f1 + cs[i].f2))) cs[i].f0 + cs[i].f2) = rd (o.set cs[i].f0.toNat (mn (rd o cs[i].f0) (rd o cs[i].f1 + cs[i].f2))) cs[i].f0 + cs[i].f2:=by
      rw [ha,hbb,Int.toNat_natCast,rd_gD,rd_gD,rd_gD,gD_set _ _ _ _ hlen,if_pos rfl]
      exact wrap_eq (by omega) (by omega)
    rw [w1,w2]
    rfl
theorem icost_l1 (N : Nat) (hN : N ≤ 1000) (cs : List S51) (hs : SoundC cs N) (hl : cs.length ≤ 1000) (o : List Int) (ho : o.length = N) (hb : Below30 o) (d : Nat) : ∀ (k j : Nat),j + d = N → (cs.length + 2) * d < k →
    impl_costsOf.l1 k cs (passC cs j o) (N : Int) (j : Int) = some (passC cs N o):=by
  induction d with
  | zero =>
    intro k j h1 hk
    obtain ⟨k,rfl⟩ : ∃ m,k = m + 1:=⟨k - 1,by omega⟩
    obtain rfl : j = N:=by omega
    simp only [impl_costsOf.l1]
    rw [if_neg (by omega)]
  | succ d ih =>
    intro k j h1 hk
    rw [Nat.mul_add,Nat.mul_one] at hk
    obtain ⟨k,rfl⟩ : ∃ m,k = m + 1:=⟨k - 1,by omega⟩
    simp only [impl_costsOf.l1]
    rw [if_pos (by omega)]
    have e:=icost_l2 N cs hs hl (N : Int) (j : Int) cs.length k 0 (passC cs j o) (by omega) (by rw [passC_len];exact ho) (below30_pass cs hs o ho hb j) (by omega)
    refine e.trans ?_
    rw [List.drop_zero,wrap_succ (show j < N by omega) (by omega)]
    exact ih _ (j + 1) (by omega) (by omega)

-- LIB costs3
def zrR (R : List Int) : Nat → Nat → List Int → List Int
  | 0,_,o => o
  | d + 1,i,o => zrR R d (i + 1) (if (i : Int) = gD R i then o.set i 0 else o)
theorem zrR_len (R : List Int) (d : Nat) : ∀ i o,(zrR R d i o).length = o.length:=by
  induction d with
  | zero => exact fun _ _ => rfl
  | succ d ih => intro i o;rw [zrR,ih];split <;> simp
theorem zrR_get (R : List Int) (d : Nat) : ∀ i o b,i + d ≤ o.length → gD (zrR R d i o) b = if i ≤ b ∧ b < i + d ∧ gD R b = (b : Int) then 0 else gD o b:=by
  induction d with
  | zero => intro i o b h;rw [zrR,if_neg (by omega)]
  | succ d ih =>
    intro i o b h
    have hl : (if (i : Int) = gD R i then o.set i 0 else o).length = o.length:=by split <;> simp
    rw [zrR,ih (i + 1) _ b (by rw [hl];omega)]
    by_cases e : (i : Int) = gD R i
    · rw [if_pos e,gD_set _ _ _ _ (by omega)]
      by_cases eb : b = i
      · subst eb
        rw [if_neg (by omega),if_pos rfl,if_pos ⟨by omega,by omega,e.symm⟩]
      · rw [if_neg eb]
        by_cases q : i + 1 ≤ b ∧ b < i + 1 + d ∧ gD R b = (b : Int)
        · rw [if_pos q,if_pos ⟨by omega,by omega,q.2.2⟩]
        · rw [if_neg q,if_neg (fun x => q ⟨by omega,by omega,x.2.2⟩)]
    · rw [if_neg e]
      by_cases q : i + 1 ≤ b ∧ b < i + 1 + d ∧ gD R b = (b : Int)
      · rw [if_pos q,if_pos ⟨by omega,by omega,q.2.2⟩]
      · rw [if_neg q,if_neg (fun x => q ⟨by
          by_cases eb : b = i
          · subst eb;exact absurd x.2.2.symm e
          · omega,by omega,x.2.2⟩)]
theorem icost_l0 (cs : List S51) (R : List Int) (n : Int) (N : Nat) (hR : R.length = N) (hN : N ≤ 1000) (d : Nat) : ∀ (k i : Nat) (o : List Int),i + d = N → o.length = N → d < k →
    impl_costsOf.l0 k n cs o R (N : Int) (i : Int) = impl_costsOf.l1 (k - d - 1) cs (zrR R d i o) n 0:=by
  induction d with
  | zero =>
    intro k i o h1 h2 hk
    obtain ⟨k,rfl⟩ : ∃ m,k = m + 1:=⟨k - 1,by omega⟩
    simp only [impl_costsOf.l0]
    rw [if_neg (by omega)]
    rfl
  | succ d ih =>
    intro k i o h1 h2 hk
    obtain ⟨k,rfl⟩ : ∃ m,k = m + 1:=⟨k - 1,by omega⟩
    simp only [impl_costsOf.l0]
    rw [if_pos (by omega),if_pos (by omega),if_pos (by omega),wrap_succ (show i < N by omega) (by omega),rd_gD,zrR,Int.toNat_natCast,show k + 1 - (d + 1) - 1 = k - d - 1 by omega]
    by_cases e : (i : Int) = gD R i
    · rw [if_pos e,if_pos (by omega),if_pos e];exact ih k (i + 1) _ (by omega) (by rw [List.length_set];exact h2) (by omega)
    · rw [if_neg e,if_neg e];exact ih k (i + 1) _ (by omega) h2 (by omega)
theorem zr_start (far : Int) (N : Nat) (cs : List S51) : zrR (rootsL N cs) N 0 (List.replicate N far) = startC far N cs:=by
  apply List.ext_getElem
  · rw [zrR_len,startC_len,List.length_replicate]
  · intro b h1 h2
    have hb : b < N:=by rw [startC_len] at h2;exact h2
    rw [← gD_get _ _ h1,← gD_get _ _ h2,zrR_get _ _ _ _ _ (by simp),startC_get _ _ _ _ hb]
    by_cases e : gD (rootsL N cs) b = (b : Int)
    · rw [if_pos ⟨by omega,by omega,e⟩,if_pos e]
    · rw [if_neg (fun x => e x.2.2),if_neg e,gD_get _ _ (by simp;exact hb)];simp
theorem icosts_eq (N : Nat) (cs : List S51) (hv : cabsB (N : Int) cs = true) (k : Nat) (hk : 300 < k) : impl_costsOf.f k (N : Int) cs = some (costsN N cs):=by
  obtain ⟨f1,f2,f3,_⟩:=cabsB_facts hv
  have hs:=sound_of hv
  have er : slices_Repeat_int_int.f ([1073741824] : List Int) (N : Int) = some (List.replicate N 1073741824):=by
    unfold slices_Repeat_int_int.f
    simp only []
    rw [if_pos ⟨by omega,by omega⟩,Int.toNat_natCast]
  have eo : impl_rootsOf.f (N : Int) cs = some (rootsL N cs):=by unfold impl_rootsOf.f;rw [if_pos hv,Int.toNat_natCast]
  unfold impl_costsOf.f
  rw [er,Option.bind_some,eo,Option.bind_some,rootsL_len]
  have e:=icost_l0 cs (rootsL N cs) (N : Int) N (rootsL_len N cs) (by omega) N k 0 (List.replicate N 1073741824) (by omega) (by simp) (by omega)
  refine e.trans ?_
  rw [zr_start]
  have hb : (cs.length + 2) * N ≤ 22 * 8:=Nat.mul_le_mul (by omega) (by omega)
  exact icost_l1 N (by omega) cs hs (by omega) _ (startC_len _ _ _) (below30_start _ (by omega) (by omega) _ _) N _ 0 (by omega) (by omega)
-- the reference's
theorem sroot_at (s : List Bool) (r : Nat) (hr : memB s r) (hlt : ∀ q,q < r → ¬ memB s q) (hl : s.length ≤ 1000) (d : Nat) : ∀ (k i : Nat),i + d = r → d < k → spec_l7Root.l0 k s (i : Int) = some (r : Int):=by
  have hrl:=memB_lt hr
  induction d with
  | zero =>
    intro k i h1 hk
    obtain ⟨k,rfl⟩ : ∃ m,k = m + 1:=⟨k - 1,by omega⟩
    obtain rfl : i = r:=by omega
    simp only [spec_l7Root.l0]
    rw [if_pos (by omega),if_pos (by omega),if_pos ((rdB_mem s (i : Int)).2 (by rw [Int.toNat_natCast];exact hr))]
  | succ d ih =>
    intro k i h1 hk
    obtain ⟨k,rfl⟩ : ∃ m,k = m + 1:=⟨k - 1,by omega⟩
    simp only [spec_l7Root.l0]
    rw [if_pos (by omega),if_pos (by omega),if_neg (fun x => hlt i (by omega) (by have:=(rdB_mem s (i : Int)).1 x;rw [Int.toNat_natCast] at this;exact this)),wrap_succ (show i < r by omega) (by omega)]
    exact ih k (i + 1) (by omega) (by omega)
theorem sroot_eq {N b : Nat} {cs : List S51} (hv : cabsB (N : Int) cs = true) (hb : b < N) (k : Nat) (hk : 300 < k) : spec_l7Root.f k (N : Int) cs (b : Int) = some (gD (rootsL N cs) b):=by
  obtain ⟨f1,f2,f3,_⟩:=cabsB_facts hv
  have hc:=(sound_of hv).ok
  obtain ⟨r,r1,r2,r3,r4,r5⟩:=root_of hc hb
  have hm:=Nat.mul_le_mul (show cs.length + 2 ≤ 22 by omega) (show N ≤ 8 by omega)
  unfold spec_l7Root.f
  rw [sjoin_eq N b hb (by omega) cs hc (by omega) k (by omega),Option.bind_some,r2]
  exact sroot_at (jnB cs N b) r (jnB_symm hc r1 hb r4) r5 (by rw [jnB_len];omega) r k 0 (by omega) (by omega)
theorem scost_l2 (N : Nat) (cs : List S51) (hs : SoundC cs N) (hl : cs.length ≤ 1000) (n j : Int) (d : Nat) : ∀ (k i : Nat) (o : List Int),i + d = cs.length → o.length = N → Below30 o → d < k →
    spec_l7Costs.l2 k cs o (i : Int) n j = spec_l7Costs.l1 (k - d - 1) cs ((cs.drop i).foldl relC o) n (wrap64 (j + 1)):=by
  induction d with
  | zero =>
    intro k i o h1 h2 _ hk
    obtain ⟨k,rfl⟩ : ∃ m,k = m + 1:=⟨k - 1,by omega⟩
    simp only [spec_l7Costs.l2]
    rw [if_neg (by omega),List.drop_of_length_le (by omega)]
    rfl
  | succ d ih =>
    intro k i o h1 h2 hb hk
    obtain ⟨k,rfl⟩ : ∃ m,k = m + 1:=⟨k - 1,by omega⟩
    have hi : i < cs.length:=by omega
    have g:=hs _ (List.getElem_mem hi)
    obtain ⟨g1,g2,g3,g4,g5,g6,g7⟩:=g
    have hb2:=below30_rel hb h2 cs[i] (hs _ (List.getElem_mem hi))
    obtain ⟨a,ha⟩:=Int.eq_ofNat_of_zero_le g1
    obtain ⟨b,hbb⟩:=Int.eq_ofNat_of_zero_le g3
    have ba:=hb a
    have bb:=hb b
    simp only [spec_l7Costs.l2,Option.bind_some]
    rw [if_pos (by omega),if_pos (by omega),rdCab_get cs i hi,if_pos g1,if_pos (by omega),if_pos g3,if_pos (by omega),wrap_succ hi (by omega),List.drop_eq_getElem_cons hi,List.foldl_cons,show k + 1 - (d + 1) - 1 = k - d - 1 by omega]
    rw [← ih k (i + 1) _ (by omega) (by rw [relC_len];exact h2) hb2 (by omega)]
    have w1 : wrap64 (rd o cs[i].f1 + cs[i].f2) = rd o cs[i].f1 + cs[i].f2:=by rw [hbb,rd_gD];exact wrap_eq (by omega) (by omega)
    have m1:=mn_cases (gD o a) (gD o b + cs[i].f2)
    have hlen : a < o.length:=by omega
    have w2 : wrap64 (rd (o.set cs[i].f0.toNat (mn (rd o cs[i].f0) (rd o cs[i].f1 + cs[i].f2))) cs[i].f0 + cs[i].f2) = rd (o.set cs[i].f0.toNat (mn (rd o cs[i].f0) (rd o cs[i].f1 + cs[i].f2))) cs[i].f0 + cs[i].f2:=by
      rw [ha,hbb,Int.toNat_natCast,rd_gD,rd_gD,rd_gD,gD_set _ _ _ _ hlen,if_pos rfl]
      exact wrap_eq (by omega) (by omega)
    rw [w1,w2]
    rfl
theorem scost_l1 (N : Nat) (hN : N ≤ 1000) (cs : List S51) (hs : SoundC cs N) (hl : cs.length ≤ 1000) (o : List Int) (ho : o.length = N) (hb : Below30 o) (d : Nat) : ∀ (k j : Nat),j + d = N → (cs.length + 2) * d < k →
    spec_l7Costs.l1 k cs (passC cs j o) (N : Int) (j : Int) = some (passC cs N o):=by
  induction d with
  | zero =>
    intro k j h1 hk
    obtain ⟨k,rfl⟩ : ∃ m,k = m + 1:=⟨k - 1,by omega⟩
    obtain rfl : j = N:=by omega
    simp only [spec_l7Costs.l1]
    rw [if_neg (by omega)]
  | succ d ih =>
    intro k j h1 hk
    rw [Nat.mul_add,Nat.mul_one] at hk
    obtain ⟨k,rfl⟩ : ∃ m,k = m + 1:=⟨k - 1,by omega⟩
    simp only [spec_l7Costs.l1]
    rw [if_pos (by omega)]
    have e:=scost_l2 N cs hs hl (N : Int) (j : Int) cs.length k 0 (passC cs j o) (by omega) (by rw [passC_len];exact ho) (below30_pass cs hs o ho hb j) (by omega)
    refine e.trans ?_
    rw [List.drop_zero,wrap_succ (show j < N by omega) (by omega)]
    exact ih _ (j + 1) (by omega) (by omega)
theorem scost_l0 (N : Nat) (cs : List S51) (hv : cabsB (N : Int) cs = true) (d : Nat) : ∀ (k i : Nat) (acc : List Int),i + d = N → acc = (startC 10000 N cs).take i → d + 400 < k →
    spec_l7Costs.l0 k (N : Int) cs acc (i : Int) = some (costsX 10000 N cs):=by
  obtain ⟨f1,f2,f3,_⟩:=cabsB_facts hv
  have hs:=sound_of hv
  have hsl:=startC_len 10000 N cs
  induction d with
  | zero =>
    intro k i acc h1 h2 hk
    obtain ⟨k,rfl⟩ : ∃ m,k = m + 1:=⟨k - 1,by omega⟩
    obtain rfl : i = N:=by omega
    rw [List.take_of_length_le (by omega)] at h2
    subst h2
    have hb : (cs.length + 2) * i ≤ 22 * 8:=Nat.mul_le_mul (by omega) (by omega)
    simp only [spec_l7Costs.l0]
    rw [if_neg (by omega)]
    exact scost_l1 i (by omega) cs hs (by omega) _ hsl (below30_start _ (by omega) (by omega) _ _) i _ 0 (by omega) (by omega)
  | succ d ih =>
    intro k i acc h1 h2 hk
    obtain ⟨k,rfl⟩ : ∃ m,k = m + 1:=⟨k - 1,by omega⟩
    have hi : i < N:=by omega
    have hal : acc.length ≤ N:=by rw [h2,List.length_take];omega
    have hg:=startC_get 10000 N cs i hi
    have hnext : ∀ v,v = gD (startC 10000 N cs) i → acc ++ [v] = (startC 10000 N cs).take (i + 1):=fun v hv' => by
      rw [List.take_succ_eq_append_getElem (by omega),← h2,hv',gD_get _ _ (by omega)]
    simp only [spec_l7Costs.l0]
    rw [if_pos (by omega),sroot_eq hv hi k (by omega),Option.bind_some,wrap_succ hi (by omega)]
    by_cases e : gD (rootsL N cs) i = (i : Int)
    · rw [if_pos e,if_pos (by omega)]
      rw [if_pos e] at hg
      exact ih k (i + 1) _ (by omega) (hnext 0 hg.symm) (by omega)
    · rw [if_neg e,if_pos (by omega)]
      rw [if_neg e] at hg
      exact ih k (i + 1) _ (by omega) (hnext 10000 hg.symm) (by omega)
theorem scosts_eq (N : Nat) (cs : List S51) (hv : cabsB (N : Int) cs = true) (k : Nat) (hk : 500 < k) : spec_l7Costs.f k (N : Int) cs = some (costsN N cs):=by
  obtain ⟨f1,f2,f3,_⟩:=cabsB_facts hv
  unfold spec_l7Costs.f
  have:=scost_l0 N cs hv N k 0 [] (by omega) (by simp) (by omega)
  rw [(costs_same (by omega) (sound_of hv)).1] at this
  exact this

-- LIB inssort
def gL (x : List Int) (p : Nat) : Int:=x.getD p 0
theorem rd_gL (x : List Int) (p : Nat) : rd x (p : Int) = gL x p:=by simp [rd,rdOf,gL]
theorem gL_get (x : List Int) (p : Nat) (h : p < x.length) : gL x p = x[p]:=by simp [gL,List.getD_eq_getElem?_getD,h]
theorem gL_set (x : List Int) (a p : Nat) (v : Int) (h : a < x.length) : gL (x.set a v) p = if p = a then v else gL x p:=by
  unfold gL
  rw [List.getD_eq_getElem?_getD,List.getD_eq_getElem?_getD,List.getElem?_set]
  by_cases e : a = p
  · subst e;rw [if_pos rfl,if_pos h,if_pos rfl];rfl
  · rw [if_neg e,if_neg (fun h => e h.symm)]
theorem less_eq (a b : Int) : cmp_Less_int.f a b = some (decide (a < b)):=by
  unfold cmp_Less_int.f cmp_isNaN_int.f
  rw [Option.bind_some,if_neg (by simp)]
/-- The first i are in their order. -/
def UpTo (x : List Int) (i : Nat) : Prop:=∀ p q,p < q → q < i → gL x p ≤ gL x q
/-- Of the first i + 1 all but the one at j are in their order, and those behind it are not below it. -/
def UpBut (x : List Int) (i j : Nat) : Prop:=(∀ p q,p < q → q ≤ i → p ≠ j → q ≠ j → gL x p ≤ gL x q) ∧ ∀ q,j < q → q ≤ i → gL x j ≤ gL x q
theorem ins_l1 (n i : Nat) (hi : i < n) (hn : n ≤ 1000000) (j : Nat) : ∀ x : List Int,x.length = n → j ≤ i → UpBut x i j →
    ∃ x' : List Int,x'.Perm x ∧ UpTo x' (i + 1) ∧ ∀ (k K : Nat) (R : Option (List Int)),(∀ k',K < k' → slices_insertionSortOrdered_int.l0 k' x' 0 (n : Int) ((i + 1 : Nat) : Int) = R) → K + j + 1 < k → slices_insertionSortOrdered_int.l1 k x 0 (n : Int) (i : Int) (j : Int) = R:=by
  have ws : wrap64 ((i : Int) + 1) = ((i + 1 : Nat) : Int):=by rw [wrap_eq (by omega) (by omega)];rfl
  have exit : ∀ (x : List Int) (j : Nat),x.length = n → j ≤ i → UpBut x i j → (j = 0 ∨ gL x (j - 1) ≤ gL x j) → UpTo x (i + 1):=by
    intro x j hx hj hU hc p q hpq hq
    by_cases e1 : p = j
    · subst e1;exact hU.2 q hpq (by omega)
    · by_cases e2 : q = j
      · subst e2
        rcases hc with hc | hc
        · omega
        · by_cases e3 : p = q - 1
          · subst e3;exact hc
          · exact Int.le_trans (hU.1 p (q - 1) (by omega) (by omega) e1 (by omega)) hc
      · exact hU.1 p q hpq (by omega) e1 e2
  induction j with
  | zero =>
    intro x hx hj hU
    refine ⟨x,List.Perm.refl x,exit x 0 hx hj hU (Or.inl rfl),fun k K R hR hk => ?_⟩
    obtain ⟨k,rfl⟩ : ∃ m,k = m + 1:=⟨k - 1,by omega⟩
    simp only [slices_insertionSortOrdered_int.l1]
    rw [if_neg (by omega),ws]
    exact hR k (by omega)
  | succ j ih =>
    intro x hx hj hU
    have wp : wrap64 (((j + 1 : Nat) : Int) - 1) = (j : Int):=by rw [wrap_eq (by omega) (by omega)];omega
    by_cases c : gL x (j + 1) < gL x j
    · have hl1 : j + 1 < x.length:=by omega
      have hl0 : j < x.length:=by omega
      have e : ∀ p,gL ((x.set (j + 1) (gL x j)).set j (gL x (j + 1))) p = if p = j then gL x (j + 1) else if p = j + 1 then gL x j else gL x p:=by
        intro p
        rw [gL_set _ _ _ _ (by rw [List.length_set];exact hl0),gL_set _ _ _ _ hl1]
      have hp : ((x.set (j + 1) (gL x j)).set j (gL x (j + 1))).Perm x:=by
        rw [gL_get x j hl0,gL_get x (j + 1) hl1]
        exact List.set_set_perm hl1 hl0
      have hU' : UpBut ((x.set (j + 1) (gL x j)).set j (gL x (j + 1))) i j:=by
        constructor
        · intro p q h1 h2 h3 h4
          rw [e,e,if_neg h3,if_neg h4]
          by_cases f1 : p = j + 1
          · rw [if_pos f1,if_neg (by omega)]
            exact hU.1 j q (by omega) h2 (by omega) (by omega)
          · rw [if_neg f1]
            by_cases f2 : q = j + 1
            · rw [if_pos f2];exact hU.1 p j (by omega) (by omega) f1 (by omega)
            · rw [if_neg f2];exact hU.1 p q h1 h2 f1 f2
        · intro q h1 h2
          rw [e,e,if_pos rfl,if_neg (by omega)]
          by_cases f2 : q = j + 1
          · rw [if_pos f2];omega
          · rw [if_neg f2];exact hU.2 q (by omega) h2
      obtain ⟨x',h1,h2,h3⟩:=ih _ (by simp only [List.length_set];exact hx) (by omega) hU'
      refine ⟨x',h1.trans hp,h2,fun k K R hR hk => ?_⟩
      obtain ⟨k,rfl⟩ : ∃ m,k = m + 1:=⟨k - 1,by omega⟩
      simp only [slices_insertionSortOrdered_int.l1]
      rw [if_pos (by omega),if_pos (by omega),if_pos (by omega),wp,if_pos (by omega),if_pos (by omega),rd_gL,rd_gL,less_eq,Option.bind_some,if_pos (decide_eq_true c),Int.toNat_natCast,Int.toNat_natCast]
      exact h3 k K R hR (by omega)
    · refine ⟨x,List.Perm.refl x,exit x (j + 1) hx hj hU (Or.inr (by rw [Nat.add_sub_cancel];omega)),fun k K R hR hk => ?_⟩
      obtain ⟨k,rfl⟩ : ∃ m,k = m + 1:=⟨k - 1,by omega⟩
      simp only [slices_insertionSortOrdered_int.l1]
      rw [if_pos (by omega),if_pos (by omega),if_pos (by omega),wp,if_pos (by omega),if_pos (by omega),rd_gL,rd_gL,less_eq,Option.bind_some,decide_eq_false c,if_neg (by decide),ws]
      exact hR k (by omega)
theorem ins_l0 (n : Nat) (hn : n ≤ 1000000) (d : Nat) : ∀ (i : Nat) (x : List Int),1 ≤ i → i + d = n → x.length = n → UpTo x i → ∃ r : List Int,r.Perm x ∧ UpTo r n ∧ ∀ k,d * (n + 2) + 1 < k → slices_insertionSortOrdered_int.l0 k x 0 (n : Int) (i : Int) = some r:=by
  induction d with
  | zero =>
    intro i x h1 h2 hx hU
    obtain rfl : i = n:=by omega
    refine ⟨x,List.Perm.refl x,hU,fun k hk => ?_⟩
    obtain ⟨k,rfl⟩ : ∃ m,k = m + 1:=⟨k - 1,by omega⟩
    simp only [slices_insertionSortOrdered_int.l0]
    rw [if_neg (by omega)]
  | succ d ih =>
    intro i x h1 h2 hx hU
    obtain ⟨x',p1,p2,p3⟩:=ins_l1 n i (by omega) hn i x hx (Nat.le_refl i) ⟨fun p q a b c e => hU p q a (by omega),fun q a b => by omega⟩
    obtain ⟨r,r1,r2,r3⟩:=ih (i + 1) x' (by omega) (by omega) (by rw [p1.length_eq];exact hx) p2
    refine ⟨r,r1.trans p1,r2,fun k hk => ?_⟩
    rw [Nat.succ_mul] at hk
    obtain ⟨k,rfl⟩ : ∃ m,k = m + 1:=⟨k - 1,by omega⟩
    simp only [slices_insertionSortOrdered_int.l0]
    rw [if_pos (by omega)]
    exact p3 k _ _ (fun k' hk' => r3 k' hk') (by omega)
theorem upTo_pairwise {x : List Int} (h : UpTo x x.length) : x.Pairwise (· ≤ ·):=by
  rw [List.pairwise_iff_getElem]
  intro i j hi hj hij
  have:=h i j hij hj
  rw [gL_get x i hi,gL_get x j hj] at this
  exact this
/-- A short row is put in its order. -/
theorem sort_ok (l : List Int) (hl : l.length ≤ 12) : ∃ r : List Int,r.Perm l ∧ r.Pairwise (· ≤ ·) ∧ ∀ k,200 < k → slices_Sort_int_int.f k l = some r:=by
  have key : ∃ r : List Int,r.Perm l ∧ UpTo r l.length ∧ ∀ k,200 < k → slices_insertionSortOrdered_int.f k l 0 (l.length : Int) = some r:=by
    by_cases h0 : l.length = 0
    · refine ⟨l,List.Perm.refl l,fun p q _ hq => by omega,fun k hk => ?_⟩
      obtain ⟨k,rfl⟩ : ∃ m,k = m + 1:=⟨k - 1,by omega⟩
      unfold slices_insertionSortOrdered_int.f
      simp only [slices_insertionSortOrdered_int.l0]
      rw [if_neg (by rw [wrap_eq (by omega) (by omega)];omega)]
    · obtain ⟨r,r1,r2,r3⟩:=ins_l0 l.length (by omega) (l.length - 1) 1 l (Nat.le_refl 1) (by omega) rfl (fun p q _ hq => by omega)
      refine ⟨r,r1,r2,fun k hk => ?_⟩
      have hb : (l.length - 1) * (l.length + 2) ≤ 11 * 14:=Nat.mul_le_mul (by omega) (by omega)
      have:=r3 k (by omega)
      unfold slices_insertionSortOrdered_int.f
      rw [show wrap64 (0 + 1) = ((1 : Nat) : Int) by rw [wrap_eq (by omega) (by omega)];rfl]
      exact this
  obtain ⟨r,r1,r2,r3⟩:=key
  refine ⟨r,r1,upTo_pairwise (by rw [r1.length_eq];exact r2),fun k hk => ?_⟩
  have hw : IntKind.u64.wrap (l.length : Int) = (l.length : Int):=by
    have : IntKind.u64.wrap (l.length : Int) = (l.length : Int) % 18446744073709551616:=by simp [IntKind.wrap,IntKind.bits,IntKind.signed]
    rw [this];omega
  unfold slices_Sort_int_int.f bits_Len.f bits_Len64.f slices_pdqsortOrdered_int.f
  rw [hw,if_pos ⟨by omega,by omega⟩,Option.bind_some,Option.bind_some,if_pos (by rw [wrap_eq (by omega) (by omega)];omega),r3 k hk,Option.bind_some]
/-- What is in its order and has the same numbers is the same. -/
theorem sort_uniq {r s : List Int} (hr : r.Pairwise (· ≤ ·)) (hs : s.Pairwise (· ≤ ·)) (hp : r.Perm s) : r = s :=
  List.Perm.eq_of_pairwise (fun a b _ _ h1 h2 => Int.le_antisymm h1 h2) hr hs hp

-- LIB ups
/-- The other end of a cable. -/
def othX (c : S51) (b : Int) : Option Int:=if b = c.f0 then some c.f1 else if b = c.f1 then some c.f0 else none
theorem iother_eq (c : S51) (b : Int) : impl_Cable_other.f c.f0 c.f1 c.f2 b = some ((othX c b).getD 0,(othX c b).isSome):=by
  unfold impl_Cable_other.f othX
  by_cases h : b = c.f0
  · rw [if_pos h,if_pos h];rfl
  · rw [if_neg h,if_neg h]
    by_cases h2 : b = c.f1
    · rw [if_pos h2,if_pos h2];rfl
    · rw [if_neg h2,if_neg h2];rfl
theorem sother_eq (c : S51) (b : Int) : spec_l7Other.f c.f0 c.f1 c.f2 b = some ((othX c b).getD (-1)):=by
  unfold spec_l7Other.f othX
  by_cases h : b = c.f0
  · rw [if_pos h,if_pos h];rfl
  · rw [if_neg h,if_neg h]
    by_cases h2 : b = c.f1
    · rw [if_pos h2,if_pos h2];rfl
    · rw [if_neg h2,if_neg h2];rfl
/-- The up cable of a bridge and the bridge behind it, looked for from cable i on. -/
def upS (cs : List S51) (o : List Int) (b : Int) : Nat → Nat → Int → Int → Int × Int
  | 0,_,best,at_ => (best,at_)
  | d + 1,i,best,at_ => match othX (rd_T51 cs (i : Int)) b with
    | some q => if rd o q + (rd_T51 cs (i : Int)).f2 = rd o b ∧ (best < 0 ∨ q < at_) then upS cs o b d (i + 1) (i : Int) q else upS cs o b d (i + 1) best at_
    | none => upS cs o b d (i + 1) best at_
theorem oth_in {N : Nat} {c : S51} {b q : Int} (h : 0 ≤ c.f0 ∧ c.f0 < (N : Int) ∧ 0 ≤ c.f1 ∧ c.f1 < (N : Int) ∧ c.f0 ≠ c.f1 ∧ 1 ≤ c.f2 ∧ c.f2 ≤ 99) (e : othX c b = some q) : 0 ≤ q ∧ q < (N : Int) ∧ q ≠ b:=by
  unfold othX at e
  split at e
  · rename_i hb
    injection e with e
    subst e
    exact ⟨h.2.2.1,h.2.2.2.1,fun x => h.2.2.2.2.1 (by rw [x,hb])⟩
  · split at e
    · rename_i hb
      injection e with e
      subst e
      exact ⟨h.1,h.2.1,fun x => h.2.2.2.2.1 (by rw [x,hb])⟩
    · cases e
def CostOk (o : List Int) (N : Nat) : Prop:=o.length = N ∧ ∀ b,b < N → 0 ≤ gD o b ∧ gD o b ≤ 792
theorem iup_at {N : Nat} {cs : List S51} (hs : SoundC cs N) (hl : cs.length ≤ 1000) {o : List Int} (ho : CostOk o N) {b : Nat} (hb : b < N) (d : Nat) : ∀ (k i : Nat) (best at_ : Int),i + d = cs.length → d < k →
    impl_upOf.l0 k o (b : Int) best at_ cs cs.length (i : Int) = some (upS cs o (b : Int) d i best at_):=by
  obtain ⟨ol,og⟩:=ho
  induction d with
  | zero =>
    intro k i best at_ h1 hk
    obtain ⟨k,rfl⟩ : ∃ m,k = m + 1:=⟨k - 1,by omega⟩
    simp only [impl_upOf.l0]
    rw [if_neg (by omega)]
    rfl
  | succ d ih =>
    intro k i best at_ h1 hk
    obtain ⟨k,rfl⟩ : ∃ m,k = m + 1:=⟨k - 1,by omega⟩
    have hi : i < cs.length:=by omega
    have hc : rd_T51 cs (i : Int) = cs[i]:=rdCab_get cs i hi
    have hok:=hs _ (List.getElem_mem hi)
    rw [← hc] at hok
    simp only [impl_upOf.l0]
    rw [if_pos (by omega),if_pos (by omega),if_pos (by omega),iother_eq,Option.bind_some,wrap_succ hi (by omega),upS]
    simp only []
    cases e : othX (rd_T51 cs (i : Int)) (b : Int) with
    | none => rw [if_neg (by simp)];exact ih k (i + 1) best at_ (by omega) (by omega)
    | some q =>
      obtain ⟨q0,q1,q2⟩:=oth_in hok e
      obtain ⟨Q,rfl⟩:=Int.eq_ofNat_of_zero_le q0
      have g1:=og Q (by omega)
      have g2:=og b hb
      have w1 : wrap64 (rd o (Q : Int) + (rd_T51 cs (i : Int)).f2) = rd o (Q : Int) + (rd_T51 cs (i : Int)).f2:=by rw [rd_gD];exact wrap_eq (by omega) (by omega)
      simp only [Option.getD_some,Option.isSome_some]
      rw [if_pos trivial,if_pos (by omega),if_pos (by omega),if_pos (by omega),if_pos (by omega),w1]
      by_cases c1 : rd o (Q : Int) + (rd_T51 cs (i : Int)).f2 = rd o (b : Int)
      · rw [if_pos c1]
        by_cases c2 : best < 0
        · rw [if_pos c2,if_pos ⟨c1,Or.inl c2⟩];exact ih k (i + 1) _ _ (by omega) (by omega)
        · rw [if_neg c2]
          by_cases c3 : (Q : Int) < at_
          · rw [if_pos c3,if_pos ⟨c1,Or.inr c3⟩];exact ih k (i + 1) _ _ (by omega) (by omega)
          · rw [if_neg c3,if_neg (fun x => x.2.elim c2 c3)];exact ih k (i + 1) _ _ (by omega) (by omega)
      · rw [if_neg c1,if_neg (fun x => c1 x.1)];exact ih k (i + 1) _ _ (by omega) (by omega)
theorem sup_at {N : Nat} {cs : List S51} (hs : SoundC cs N) (hl : cs.length ≤ 1000) {o : List Int} (ho : CostOk o N) {b : Nat} (hb : b < N) (d : Nat) : ∀ (k i : Nat) (best at_ : Int),i + d = cs.length → 2 * d < k → (0 ≤ best → best < i ∧ othX (rd_T51 cs best) (b : Int) = some at_) →
    spec_l7Up.l0 k cs o (b : Int) best (i : Int) = some (upS cs o (b : Int) d i best at_).1:=by
  have ho':=ho
  obtain ⟨ol,og⟩:=ho
  induction d with
  | zero =>
    intro k i best at_ h1 hk _
    obtain ⟨k,rfl⟩ : ∃ m,k = m + 1:=⟨k - 1,by omega⟩
    simp only [spec_l7Up.l0]
    rw [if_neg (by omega)]
    rfl
  | succ d ih =>
    intro k i best at_ h1 hk hbest
    obtain ⟨k,rfl⟩ : ∃ m,k = m + 1 + 1:=⟨k - 2,by omega⟩
    have hi : i < cs.length:=by omega
    have hc : rd_T51 cs (i : Int) = cs[i]:=rdCab_get cs i hi
    have hok:=hs _ (List.getElem_mem hi)
    rw [← hc] at hok
    have hkeep : 0 ≤ best → best < ((i + 1 : Nat) : Int) ∧ othX (rd_T51 cs best) (b : Int) = some at_:=fun h => ⟨by have:=(hbest h).1;omega,(hbest h).2⟩
    simp only [spec_l7Up.l0]
    rw [if_pos (by omega),if_pos (by omega),sother_eq,Option.bind_some,upS]
    cases e : othX (rd_T51 cs (i : Int)) (b : Int) with
    | none =>
      simp only [Option.getD_none,spec_l7Up.j1]
      rw [if_pos (by omega),if_pos trivial,wrap_succ hi (by omega)]
      exact ih k (i + 1) best at_ (by omega) (by omega) hkeep
    | some q =>
      obtain ⟨q0,q1,q2⟩:=oth_in hok e
      obtain ⟨Q,rfl⟩:=Int.eq_ofNat_of_zero_le q0
      have g1:=og Q (by omega)
      have g2:=og b hb
      have w1 : wrap64 (rd o (Q : Int) + (rd_T51 cs (i : Int)).f2) = rd o (Q : Int) + (rd_T51 cs (i : Int)).f2:=by rw [rd_gD];exact wrap_eq (by omega) (by omega)
      have hnew : 0 ≤ (i : Int) → (i : Int) < ((i + 1 : Nat) : Int) ∧ othX (rd_T51 cs (i : Int)) (b : Int) = some (Q : Int):=fun _ => ⟨by omega,e⟩
      simp only [Option.getD_some,spec_l7Up.j1]
      rw [if_neg (by omega),if_pos (by omega),if_pos (by omega),if_pos (by omega),if_pos (by omega),w1,wrap_succ hi (by omega)]
      by_cases c1 : rd o (Q : Int) + (rd_T51 cs (i : Int)).f2 = rd o (b : Int)
      · rw [if_neg (by simp [c1])]
        by_cases c2 : best < 0
        · rw [if_pos c2,if_pos ⟨c1,Or.inl c2⟩];exact ih k (i + 1) _ _ (by omega) (by omega) hnew
        · obtain ⟨b1,b2⟩:=hbest (by omega)
          rw [if_neg c2,if_pos (by omega),if_pos (by omega),sother_eq,Option.bind_some,b2,Option.getD_some]
          by_cases c3 : (Q : Int) < at_
          · rw [if_pos c3,if_pos ⟨c1,Or.inr c3⟩];exact ih k (i + 1) _ _ (by omega) (by omega) hnew
          · rw [if_neg c3,if_neg (fun x => x.2.elim c2 c3)];exact ih k (i + 1) _ _ (by omega) (by omega) hkeep
      · rw [if_pos (by simp [c1]),if_neg (fun x => c1 x.1)];exact ih k (i + 1) _ _ (by omega) (by omega) hkeep
theorem upS_none {N : Nat} {cs : List S51} (hs : SoundC cs N) {o : List Int} (ho : CostOk o N) {b : Nat} (hz : gD o b = 0) (d : Nat) : ∀ (i : Nat),i + d = cs.length → upS cs o (b : Int) d i (-1) (-1) = (-1,-1):=by
  obtain ⟨ol,og⟩:=ho
  induction d with
  | zero => exact fun _ _ => rfl
  | succ d ih =>
    intro i h1
    have hi : i < cs.length:=by omega
    have hc : rd_T51 cs (i : Int) = cs[i]:=rdCab_get cs i hi
    have hok:=hs _ (List.getElem_mem hi)
    rw [← hc] at hok
    rw [upS]
    cases e : othX (rd_T51 cs (i : Int)) (b : Int) with
    | none => exact ih (i + 1) (by omega)
    | some q =>
      obtain ⟨q0,q1,q2⟩:=oth_in hok e
      obtain ⟨Q,rfl⟩:=Int.eq_ofNat_of_zero_le q0
      have g1:=og Q (by omega)
      simp only []
      rw [if_neg (fun x => by have:=x.1;rw [rd_gD,rd_gD,hz] at this;omega)]
      exact ih (i + 1) (by omega)
def upX (cs : List S51) (o : List Int) (b : Int) : Int × Int:=upS cs o b cs.length 0 (-1) (-1)
theorem iup_eq {N : Nat} {cs : List S51} (hs : SoundC cs N) (hl : cs.length ≤ 1000) {o : List Int} (ho : CostOk o N) {b : Nat} (hb : b < N) (k : Nat) (hk : cs.length < k) : impl_upOf.f k cs o (b : Int) = some (upX cs o (b : Int)) :=
  iup_at hs hl ho hb cs.length k 0 (-1) (-1) (by omega) hk
theorem sup_eq {N : Nat} {cs : List S51} (hs : SoundC cs N) (hl : cs.length ≤ 1000) {o : List Int} (ho : CostOk o N) {b : Nat} (hb : b < N) (k : Nat) (hk : 2 * cs.length < k) : spec_l7Up.f k cs o (b : Int) = some (upX cs o (b : Int)).1:=by
  have ol:=ho.1
  unfold spec_l7Up.f upX
  rw [if_pos (by omega),if_pos (by omega),rd_gD]
  by_cases c : gD o b = 0
  · rw [if_pos c,upS_none hs ho c cs.length 0 (by omega)]
  · rw [if_neg c]
    exact sup_at hs hl ho hb cs.length k 0 (-1) (-1) (by omega) hk (fun h => absurd h (by omega))
theorem costs_ok {N : Nat} {cs : List S51} (hv : cabsB (N : Int) cs = true) : CostOk (costsN N cs) N:=by
  obtain ⟨f1,f2,f3,_⟩:=cabsB_facts hv
  exact ⟨costsX_len _ _ _,(costs_same (by omega) (sound_of hv)).2⟩

-- LIB opt
/-- How many places below n have a property. -/
def cntP (P : Nat → Prop) [DecidablePred P] : Nat → Nat
  | 0 => 0
  | n + 1 => cntP P n + if P n then 1 else 0
theorem cntP_le (P : Nat → Prop) [DecidablePred P] (n : Nat) : cntP P n ≤ n:=by
  induction n with
  | zero => exact Nat.le_refl _
  | succ n ih => rw [cntP];split <;> omega
theorem cntP_all {P : Nat → Prop} [DecidablePred P] {n : Nat} (h : n ≤ cntP P n) : ∀ b,b < n → P b:=by
  induction n with
  | zero => exact fun b hb => absurd hb (by omega)
  | succ n ih =>
    intro b hb
    rw [cntP] at h
    have:=cntP_le P n
    by_cases c : P n
    · rw [if_pos c] at h
      by_cases e : b = n
      · exact e ▸ c
      · exact ih (by omega) b (by omega)
    · rw [if_neg c] at h;omega
theorem cntP_mono {P Q : Nat → Prop} [DecidablePred P] [DecidablePred Q] {n : Nat} (h : ∀ b,b < n → P b → Q b) : cntP P n ≤ cntP Q n ∧ ((∃ b,b < n ∧ Q b ∧ ¬ P b) → cntP P n + 1 ≤ cntP Q n):=by
  induction n with
  | zero => exact ⟨Nat.le_refl _,fun ⟨b,hb,_⟩ => absurd hb (by omega)⟩
  | succ n ih =>
    obtain ⟨i1,i2⟩:=ih (fun b hb => h b (by omega))
    rw [cntP,cntP]
    have hn:=h n (by omega)
    by_cases c : P n
    · rw [if_pos c,if_pos (hn c)]
      refine ⟨by omega,fun ⟨b,hb,hq,hp⟩ => ?_⟩
      have : b ≠ n:=fun e => hp (e ▸ c)
      have:=i2 ⟨b,by omega,hq,hp⟩
      omega
    · rw [if_neg c]
      refine ⟨by split <;> omega,fun ⟨b,hb,hq,hp⟩ => ?_⟩
      by_cases e : b = n
      · subst e;rw [if_pos hq];omega
      · have:=i2 ⟨b,by omega,hq,hp⟩
        split <;> omega
/-- The sum of what lies at the places below n. -/
def smC (o : List Int) : Nat → Nat
  | 0 => 0
  | n + 1 => smC o n + (gD o n).toNat
theorem smC_le {x y : List Int} {n : Nat} (h : ∀ b,b < n → 0 ≤ gD x b ∧ gD x b ≤ gD y b) : smC x n ≤ smC y n ∧ (smC y n ≤ smC x n → ∀ b,b < n → gD x b = gD y b):=by
  induction n with
  | zero => exact ⟨Nat.le_refl _,fun _ b hb => absurd hb (by omega)⟩
  | succ n ih =>
    obtain ⟨i1,i2⟩:=ih (fun b hb => h b (by omega))
    have hn:=h n (by omega)
    rw [smC,smC]
    refine ⟨by omega,fun e b hb => ?_⟩
    by_cases eb : b = n
    · subst eb;omega
    · exact i2 (by omega) b (by omega)
/-- What one cable does. -/
theorem relC_facts {o : List Int} {N : Nat} (ho : o.length = N) (c : S51) (h0 : 0 ≤ c.f0 ∧ c.f0 < (N : Int) ∧ 0 ≤ c.f1 ∧ c.f1 < (N : Int) ∧ c.f0 ≠ c.f1 ∧ 1 ≤ c.f2 ∧ c.f2 ≤ 99) :
    (∀ x,gD (relC o c) x ≤ gD o x) ∧ (∀ (x : Nat) (q : Int),othX c (x : Int) = some q → gD (relC o c) x ≤ gD o q.toNat + c.f2) ∧
    (∀ D : List Int,(∀ x,gD D x ≤ gD o x) → gD D c.f0.toNat ≤ gD D c.f1.toNat + c.f2 → gD D c.f1.toNat ≤ gD D c.f0.toNat + c.f2 → ∀ x,gD D x ≤ gD (relC o c) x) ∧
    (∀ x,gD (relC o c) x = gD o x ∨ ∃ q,othX c (x : Int) = some q ∧ gD (relC o c) q.toNat + c.f2 ≤ gD (relC o c) x):=by
  obtain ⟨cA,cB,p⟩:=c
  simp only [] at h0
  obtain ⟨g1,g2,g3,g4,g5,g6,g7⟩:=h0
  obtain ⟨a,rfl⟩:=Int.eq_ofNat_of_zero_le g1
  obtain ⟨b,rfl⟩:=Int.eq_ofNat_of_zero_le g3
  have hab : a ≠ b:=by omega
  have hg:=relC_get o a b p (by omega) (by omega) hab
  have m1:=mn_cases (gD o a) (gD o b + p)
  have m2:=mn_cases (gD o b) (mn (gD o a) (gD o b + p) + p)
  have ha:=hg a
  have hb:=hg b
  rw [if_neg hab,if_pos rfl] at ha
  rw [if_pos rfl] at hb
  have hx : ∀ x,x ≠ a → x ≠ b → gD (relC o ⟨(a : Int),(b : Int),p⟩) x = gD o x:=fun x n1 n2 => by rw [hg x,if_neg n2,if_neg n1]
  have ox : ∀ (x : Nat) (q : Int),othX ⟨(a : Int),(b : Int),p⟩ (x : Int) = some q → (x = a ∧ q = (b : Int)) ∨ (x = b ∧ q = (a : Int)):=by
    intro x q e
    unfold othX at e
    simp only [] at e
    split at e
    · injection e with e;exact Or.inl ⟨by omega,e.symm⟩
    · split at e
      · injection e with e;exact Or.inr ⟨by omega,e.symm⟩
      · cases e
  have oa : othX ⟨(a : Int),(b : Int),p⟩ (a : Int) = some (b : Int):=by unfold othX;simp
  have ob : othX ⟨(a : Int),(b : Int),p⟩ (b : Int) = some (a : Int):=by unfold othX;rw [if_neg (by simp only [];omega),if_pos rfl]
  simp only [Int.toNat_natCast]
  refine ⟨fun x => ?_,fun x q e => ?_,fun D hD h1 h2 x => ?_,fun x => ?_⟩
  · by_cases n1 : x = a
    · subst n1;rw [ha];omega
    · by_cases n2 : x = b
      · subst n2;rw [hb];omega
      · rw [hx x n1 n2];omega
  · rcases ox x q e with ⟨rfl,rfl⟩ | ⟨rfl,rfl⟩
    · rw [ha,Int.toNat_natCast];omega
    · rw [hb,Int.toNat_natCast];omega
  · by_cases n1 : x = a
    · subst n1;rw [ha];have:=hD x;have:=hD b;omega
    · by_cases n2 : x = b
      · subst n2;rw [hb];have:=hD x;have:=hD a;omega
      · rw [hx x n1 n2];exact hD x
  · by_cases n1 : x = a
    · subst n1
      by_cases e : gD (relC o ⟨(x : Int),(b : Int),p⟩) x = gD o x
      · exact Or.inl e
      · exact Or.inr ⟨(b : Int),oa,by rw [Int.toNat_natCast];omega⟩
    · by_cases n2 : x = b
      · subst n2
        by_cases e : gD (relC o ⟨(a : Int),(x : Int),p⟩) x = gD o x
        · exact Or.inl e
        · exact Or.inr ⟨(a : Int),ob,by rw [Int.toNat_natCast];omega⟩
      · exact Or.inl (hx x n1 n2)
/-- What has been told of a cost is either the start's, or a cable's. -/
def WitC (cs : List S51) (s o : List Int) : Prop:=∀ x : Nat,gD o x = gD s x ∨ ∃ c ∈ cs,∃ q,othX c (x : Int) = some q ∧ gD o q.toNat + c.f2 ≤ gD o x
theorem witC_step {N : Nat} {cs : List S51} (hs : SoundC cs N) {s o : List Int} (ho : o.length = N) (h : WitC cs s o) {c : S51} (hc : c ∈ cs) : WitC cs s (relC o c):=by
  obtain ⟨f1,f2,f3,f4⟩:=relC_facts ho c (hs c hc)
  intro x
  rcases f4 x with e | ⟨q,e1,e2⟩
  · rcases h x with w | ⟨c',hc',q,w1,w2⟩
    · exact Or.inl (by rw [e,w])
    · refine Or.inr ⟨c',hc',q,w1,?_⟩
      have:=f1 q.toNat
      omega
  · exact Or.inr ⟨c,hc,q,e1,e2⟩
theorem foldC_facts {N : Nat} {cs : List S51} (hs : SoundC cs N) (s : List Int) : ∀ (l : List S51) (o : List Int),(∀ c ∈ l,c ∈ cs) → o.length = N →
    (∀ x,gD (l.foldl relC o) x ≤ gD o x) ∧ (∀ c ∈ l,∀ (x : Nat) (q : Int),othX c (x : Int) = some q → gD (l.foldl relC o) x ≤ gD o q.toNat + c.f2) ∧
    (∀ D : List Int,(∀ x,gD D x ≤ gD o x) → (∀ c ∈ cs,gD D c.f0.toNat ≤ gD D c.f1.toNat + c.f2 ∧ gD D c.f1.toNat ≤ gD D c.f0.toNat + c.f2) → ∀ x,gD D x ≤ gD (l.foldl relC o) x) ∧
    (WitC cs s o → WitC cs s (l.foldl relC o)):=by
  intro l
  induction l with
  | nil => exact fun o _ _ => ⟨fun _ => Int.le_refl _,fun c hc => (by cases hc),fun D h _ => h,id⟩
  | cons c l ih =>
    intro o hl ho
    have hc:=hl c List.mem_cons_self
    obtain ⟨f1,f2,f3,f4⟩:=relC_facts ho c (hs c hc)
    obtain ⟨i1,i2,i3,i4⟩:=ih (relC o c) (fun x hx => hl x (List.mem_cons_of_mem _ hx)) (by rw [relC_len];exact ho)
    rw [List.foldl_cons]
    refine ⟨fun x => Int.le_trans (i1 x) (f1 x),fun c' hc' x q e => ?_,fun D hD hf => i3 D (f3 D hD (hf c hc).1 (hf c hc).2) hf,fun w => i4 (witC_step hs ho w hc)⟩
    rcases List.mem_cons.1 hc' with rfl | hc'
    · exact Int.le_trans (i1 x) (f2 x q e)
    · have:=i2 c' hc' x q e
      have:=f1 q.toNat
      omega
theorem gD_ext {x y : List Int} (hl : x.length = y.length) (h : ∀ b,b < x.length → gD x b = gD y b) : x = y:=by
  apply List.ext_getElem hl
  intro i h1 h2
  rw [← gD_get _ _ h1,← gD_get _ _ h2]
  exact h i h1
/-- Some time nothing more becomes less. -/
theorem stable_some {N : Nat} {cs : List S51} (hs : SoundC cs N) (s : List Int) (S : Nat) : ∀ o : List Int,o.length = N → Below30 o → smC o N ≤ S → WitC cs s o → ∃ D : List Int,D.length = N ∧ Below30 D ∧ cs.foldl relC D = D ∧ (∀ x,gD D x ≤ gD o x) ∧ WitC cs s D:=by
  induction S with
  | zero =>
    intro o ho hb hS hw
    obtain ⟨f1,_,_,f4⟩:=foldC_facts hs s cs o (fun _ h => h) ho
    have hb2:=below30_fold cs hs o ho hb
    have hsm:=smC_le (x:=cs.foldl relC o) (y:=o) (n:=N) (fun b _ => ⟨(hb2 b).1,f1 b⟩)
    exact ⟨o,ho,hb,gD_ext (by rw [foldC_len]) (fun b hb => hsm.2 (by omega) b (by rw [foldC_len] at hb;omega)),fun _ => Int.le_refl _,hw⟩
  | succ S ih =>
    intro o ho hb hS hw
    obtain ⟨f1,_,_,f4⟩:=foldC_facts hs s cs o (fun _ h => h) ho
    have hb2:=below30_fold cs hs o ho hb
    have hsm:=smC_le (x:=cs.foldl relC o) (y:=o) (n:=N) (fun b _ => ⟨(hb2 b).1,f1 b⟩)
    by_cases e : smC o N ≤ smC (cs.foldl relC o) N
    · exact ⟨o,ho,hb,gD_ext (by rw [foldC_len]) (fun b hb => hsm.2 e b (by rw [foldC_len] at hb;omega)),fun _ => Int.le_refl _,hw⟩
    · obtain ⟨D,d1,d2,d3,d4,d5⟩:=ih (cs.foldl relC o) (by rw [foldC_len];exact ho) hb2 (by omega) (f4 hw)
      exact ⟨D,d1,d2,d3,fun x => Int.le_trans (d4 x) (f1 x),d5⟩
theorem stable_each {N : Nat} {cs : List S51} (hs : SoundC cs N) {D : List Int} (hD : D.length = N) (h : cs.foldl relC D = D) : ∀ c ∈ cs,gD D c.f0.toNat ≤ gD D c.f1.toNat + c.f2 ∧ gD D c.f1.toNat ≤ gD D c.f0.toNat + c.f2:=by
  obtain ⟨_,f2,_,_⟩:=foldC_facts hs [] cs D (fun _ h => h) hD
  rw [h] at f2
  intro c hc
  obtain ⟨g1,g2,g3,g4,g5,g6,g7⟩:=hs c hc
  have e1 : othX c (c.f0.toNat : Int) = some c.f1:=by unfold othX;rw [if_pos (by omega)]
  have e2 : othX c (c.f1.toNat : Int) = some c.f0:=by unfold othX;rw [if_neg (by omega),if_pos (by omega)]
  exact ⟨f2 c hc _ _ e1,f2 c hc _ _ e2⟩
/-- The least x below n by a measure of which P holds. -/
theorem least_by (f : Nat → Int) (P : Nat → Prop) (N : Nat) (hf : ∀ b,b < N → 0 ≤ f b) (S : Nat) : ∀ b,b < N → P b → f b ≤ S → ∃ a,a < N ∧ P a ∧ ∀ q,q < N → P q → f a ≤ f q:=by
  induction S with
  | zero => exact fun b hb hP h0 => ⟨b,hb,hP,fun q hq _ => by have:=hf q hq;omega⟩
  | succ S ih =>
    intro b hb hP hS
    by_cases c : ∃ q,q < N ∧ P q ∧ f q < f b
    · obtain ⟨q,q1,q2,q3⟩:=c
      exact ih q q1 q2 (by omega)
    · exact ⟨b,hb,hP,fun q hq hPq => Int.not_lt.1 (fun h => c ⟨q,hq,hPq,h⟩)⟩
/-- A bridge that isn't its root has a cable by which its cost is what it is. -/
theorem costs_tight {N : Nat} (hN : N ≤ 8) {cs : List S51} (hs : SoundC cs N) {b : Nat} (hb : b < N) : (gD (rootsL N cs) b = (b : Int) ∧ gD (costsN N cs) b = 0) ∨ ∃ c ∈ cs,∃ q,othX c (b : Int) = some q ∧ gD (costsN N cs) q.toNat + c.f2 = gD (costsN N cs) b:=by
  have hle:=(costs_same hN hs).2
  have hsl:=startC_len 1073741824 N cs
  have hb30:=below30_start 1073741824 (by omega) (by omega) N cs
  obtain ⟨D,d1,d2,d3,d4,d5⟩:=stable_some hs (startC 1073741824 N cs) _ (startC 1073741824 N cs) hsl hb30 (Nat.le_refl _) (fun x => Or.inl rfl)
  have hfix:=stable_each hs d1 d3
  have hlow : ∀ k x,gD D x ≤ gD (passC cs k (startC 1073741824 N cs)) x:=by
    intro k
    induction k with
    | zero => exact d4
    | succ k ih => exact (foldC_facts hs [] cs _ (fun _ h => h) (by rw [passC_len];exact hsl)).2.2.1 D ih hfix
  have hup : ∀ k x,gD (passC cs k (startC 1073741824 N cs)) x ≤ gD (startC 1073741824 N cs) x:=by
    intro k
    induction k with
    | zero => exact fun x => Int.le_refl _
    | succ k ih => exact fun x => Int.le_trans ((foldC_facts hs [] cs (passC cs k (startC 1073741824 N cs)) (fun _ h => h) (by rw [passC_len];exact hsl)).1 x) (ih x)
  have hex : ∀ x,x < N → gD D x = gD (startC 1073741824 N cs) x ∨ ∃ c ∈ cs,∃ q,othX c (x : Int) = some q ∧ gD D q.toNat + c.f2 = gD D x:=by
    intro x hx
    rcases d5 x with w | ⟨c,hc,q,w1,w2⟩
    · exact Or.inl w
    · refine Or.inr ⟨c,hc,q,w1,?_⟩
      have hq:=(foldC_facts hs [] cs D (fun _ h => h) d1).2.1 c hc x q w1
      rw [d3] at hq
      omega
  have hcount : ∀ k,(∀ x,x < N → gD (passC cs k (startC 1073741824 N cs)) x = gD D x) ∨ k ≤ cntP (fun x => gD (passC cs k (startC 1073741824 N cs)) x = gD D x) N:=by
    intro k
    induction k with
    | zero => exact Or.inr (Nat.zero_le _)
    | succ k ih =>
      have hpl : (passC cs k (startC 1073741824 N cs)).length = N:=by rw [passC_len];exact hsl
      obtain ⟨f1,f2,_,_⟩:=foldC_facts hs [] cs (passC cs k (startC 1073741824 N cs)) (fun _ h => h) hpl
      have hkeep : ∀ x,gD (passC cs k (startC 1073741824 N cs)) x = gD D x → gD (passC cs (k + 1) (startC 1073741824 N cs)) x = gD D x:=by
        intro x e
        have:=hlow (k + 1) x
        have h2 : gD (passC cs (k + 1) (startC 1073741824 N cs)) x ≤ gD (passC cs k (startC 1073741824 N cs)) x:=f1 x
        omega
      by_cases hall : ∀ x,x < N → gD (passC cs k (startC 1073741824 N cs)) x = gD D x
      · exact Or.inl (fun x hx => hkeep x (hall x hx))
      · rcases ih with ih | ih
        · exact absurd ih hall
        · right
          obtain ⟨x,hx⟩:=Classical.not_forall.1 hall
          obtain ⟨hx1,hx2⟩:=Classical.not_imp.1 hx
          obtain ⟨a,a1,a2,a3⟩:=least_by (gD D) (fun x => ¬ gD (passC cs k (startC 1073741824 N cs)) x = gD D x) N (fun y _ => (d2 y).1) (gD D x).toNat x hx1 hx2 (by have:=(d2 x).1;omega)
          have hnew : gD (passC cs (k + 1) (startC 1073741824 N cs)) a = gD D a:=by
            rcases hex a a1 with w | ⟨c,hc,q,w1,w2⟩
            · exact absurd (by have:=hup k a;have:=hlow k a;omega) a2
            · obtain ⟨q0,q1,q2⟩:=oth_in (hs c hc) w1
              have c1:=(hs c hc).2.2.2.2.2.1
              have hq : gD (passC cs k (startC 1073741824 N cs)) q.toNat = gD D q.toNat:=by
                refine Classical.byContradiction fun hne => ?_
                have:=a3 q.toNat (by omega) hne
                omega
              have h2 : gD (passC cs (k + 1) (startC 1073741824 N cs)) a ≤ gD (passC cs k (startC 1073741824 N cs)) q.toNat + c.f2:=f2 c hc a q w1
              have:=hlow (k + 1) a
              omega
          have:=(cntP_mono (P:=fun x => gD (passC cs k (startC 1073741824 N cs)) x = gD D x) (Q:=fun x => gD (passC cs (k + 1) (startC 1073741824 N cs)) x = gD D x) (n:=N) (fun y _ h => hkeep y h)).2 ⟨a,a1,hnew,a2⟩
          omega
  have heq : ∀ x,x < N → gD (costsN N cs) x = gD D x:=by
    rcases hcount N with h | h
    · exact h
    · exact cntP_all h
  rcases hex b hb with w | ⟨c,hc,q,w1,w2⟩
  · left
    have h1:=hle b hb
    have h2:=heq b hb
    rw [startC_get _ _ _ _ hb] at w
    split at w
    · rename_i hr;exact ⟨hr,by omega⟩
    · omega
  · obtain ⟨q0,q1,q2⟩:=oth_in (hs c hc) w1
    exact Or.inr ⟨c,hc,q,w1,by rw [heq b hb,heq q.toNat (by omega)];exact w2⟩
theorem upS_some (cs : List S51) (o : List Int) (b : Int) (d : Nat) : ∀ (i : Nat) (best at_ : Int),(0 ≤ best ∨ ∃ j : Nat,i ≤ j ∧ j < i + d ∧ ∃ q,othX (rd_T51 cs (j : Int)) b = some q ∧ rd o q + (rd_T51 cs (j : Int)).f2 = rd o b) → 0 ≤ (upS cs o b d i best at_).1:=by
  induction d with
  | zero =>
    intro i best at_ h
    rcases h with h | ⟨j,h1,h2,_⟩
    · exact h
    · omega
  | succ d ih =>
    intro i best at_ h
    rw [upS]
    rcases h with h | ⟨j,h1,h2,q,h3,h4⟩
    · split
      · split
        · exact ih _ _ _ (Or.inl (by omega))
        · exact ih _ _ _ (Or.inl h)
      · exact ih _ _ _ (Or.inl h)
    · by_cases e : i = j
      · subst e
        rw [h3]
        simp only []
        by_cases c : rd o q + (rd_T51 cs (i : Int)).f2 = rd o b ∧ (best < 0 ∨ q < at_)
        · rw [if_pos c];exact ih _ _ _ (Or.inl (by omega))
        · rw [if_neg c]
          exact ih _ _ _ (Or.inl (Int.not_lt.1 (fun hb => c ⟨h4,Or.inl hb⟩)))
      · have hr : ∀ (best at_ : Int),0 ≤ (upS cs o b d (i + 1) best at_).1:=fun best at_ => ih _ _ _ (Or.inr ⟨j,by omega,by omega,q,h3,h4⟩)
        split
        · split
          · exact hr _ _
          · exact hr _ _
        · exact hr _ _
/-- What is at the end of a way up. -/
theorem up_root {N : Nat} (hN : N ≤ 8) {cs : List S51} (hs : SoundC cs N) {b : Nat} (hb : b < N) (hn : (upX cs (costsN N cs) (b : Int)).1 < 0) : gD (rootsL N cs) b = (b : Int):=by
  rcases costs_tight hN hs hb with h | ⟨c,hc,q,h1,h2⟩
  · exact h.1
  · exfalso
    obtain ⟨q0,q1,q2⟩:=oth_in (hs c hc) h1
    obtain ⟨j,hj,hjc⟩:=List.getElem_of_mem hc
    have hr : rd_T51 cs (j : Int) = c:=by rw [rdCab_get cs j hj,hjc]
    have:=upS_some cs (costsN N cs) (b : Int) cs.length 0 (-1) (-1) (Or.inr ⟨j,by omega,by omega,q,by rw [hr];exact h1,by rw [hr,rd_gD];rw [show q = (q.toNat : Int) by omega,rd_gD];exact h2⟩)
    have e : (upX cs (costsN N cs) (b : Int)).1 = (upS cs (costsN N cs) (b : Int) cs.length 0 (-1) (-1)).1:=rfl
    omega
theorem cabsB_of {n : Int} {l : List S51} (h1 : 1 ≤ n) (h2 : n ≤ 8) (h3 : l.length ≤ 20) (h : ∀ x ∈ l,0 ≤ x.f0 ∧ x.f0 < n ∧ 0 ≤ x.f1 ∧ x.f1 < n ∧ x.f0 ≠ x.f1 ∧ 1 ≤ x.f2 ∧ x.f2 ≤ 99) : cabsB n l = true:=by
  unfold cabsB
  simp only [Bool.and_eq_true,decide_eq_true_eq,List.all_eq_true]
  refine ⟨⟨h1,h2⟩,h3,fun x hx => ?_⟩
  have:=h x hx
  unfold cabB
  have e : wrap64 (n - 1) = n - 1:=by unfold wrap64;omega
  rw [e]
  simp only [Bool.and_eq_true,decide_eq_true_eq,bne_iff_ne]
  omega

-- LIB tree
/-- The up cables of the bridges from b on. -/
def uL (u : Nat → Int) : Nat → Nat → List Int
  | 0,_ => []
  | d + 1,b => if 0 ≤ u b then u b :: uL u d (b + 1) else uL u d (b + 1)
/-- One cable, once for each bridge whose up it is. -/
def tB (u : Nat → Int) (i : Int) : Nat → Nat → List Int
  | 0,_ => []
  | d + 1,b => if u b = i then i :: tB u i d (b + 1) else tB u i d (b + 1)
def tI (u : Nat → Int) (N : Nat) : Nat → Nat → List Int
  | 0,_ => []
  | d + 1,i => tB u (i : Int) N 0 ++ tI u N d (i + 1)
def nB (u : Nat → Int) (v : Int) : Nat → Nat → Nat
  | 0,_ => 0
  | d + 1,b => (if u b = v then 1 else 0) + nB u v d (b + 1)
theorem uL_len (u : Nat → Int) (d : Nat) : ∀ b,(uL u d b).length ≤ d:=by
  induction d with
  | zero => exact fun _ => Nat.le_refl _
  | succ d ih => intro b;have:=ih (b + 1);rw [uL];split
                 · rw [List.length_cons];omega
                 · omega
theorem uL_count (u : Nat → Int) (v : Int) (d : Nat) : ∀ b,(uL u d b).count v = if 0 ≤ v then nB u v d b else 0:=by
  induction d with
  | zero => intro b;rw [uL,nB];simp
  | succ d ih =>
    intro b
    rw [uL,nB]
    by_cases c : 0 ≤ u b
    · rw [if_pos c,List.count_cons,ih]
      by_cases e : u b = v
      · rw [if_pos (show 0 ≤ v by omega),if_pos (show 0 ≤ v by omega),if_pos e,if_pos (by simp [e])];omega
      · rw [if_neg (show ¬ (u b == v) = true by simp [e]),if_neg e];split <;> omega
    · rw [if_neg c,ih]
      by_cases e : 0 ≤ v
      · rw [if_pos e,if_pos e,if_neg (show ¬ u b = v by omega)];omega
      · rw [if_neg e,if_neg e]
theorem tB_count (u : Nat → Int) (i v : Int) (d : Nat) : ∀ b,(tB u i d b).count v = if v = i then nB u i d b else 0:=by
  induction d with
  | zero => intro b;rw [tB,nB];simp
  | succ d ih =>
    intro b
    rw [tB,nB]
    by_cases c : u b = i
    · rw [if_pos c,List.count_cons,ih,if_pos c]
      by_cases e : v = i
      · rw [if_pos e,if_pos e,if_pos (by simp [e])];omega
      · rw [if_neg e,if_neg e,if_neg (by simp;exact fun x => e x.symm)]
    · rw [if_neg c,ih,if_neg c];split <;> omega
theorem tI_count (u : Nat → Int) (N : Nat) (v : Int) (d : Nat) : ∀ i : Nat,(tI u N d i).count v = if (i : Int) ≤ v ∧ v < i + d then nB u v N 0 else 0:=by
  induction d with
  | zero => intro i;rw [tI,if_neg (by omega)];rfl
  | succ d ih =>
    intro i
    rw [tI,List.count_append,tB_count,ih]
    by_cases e : v = (i : Int)
    · subst e
      rw [if_pos rfl,if_neg (by omega),if_pos (by omega)];omega
    · rw [if_neg e]
      by_cases c : ((i + 1 : Nat) : Int) ≤ v ∧ v < ((i + 1 : Nat) : Int) + d
      · rw [if_pos c,if_pos (by omega)];omega
      · rw [if_neg c,if_neg (by omega)]
theorem nB_none (u : Nat → Int) (v : Int) (d : Nat) : ∀ b,(∀ x,b ≤ x → x < b + d → u x ≠ v) → nB u v d b = 0:=by
  induction d with
  | zero => exact fun _ _ => rfl
  | succ d ih => intro b h;rw [nB,if_neg (h b (by omega) (by omega)),ih (b + 1) (fun x h1 h2 => h x (by omega) (by omega))]
theorem tB_mem (u : Nat → Int) (i : Int) (d : Nat) : ∀ b x,x ∈ tB u i d b → x = i:=by
  induction d with
  | zero => intro b x h;cases h
  | succ d ih =>
    intro b x h
    rw [tB] at h
    split at h
    · rcases List.mem_cons.1 h with e | h
      · exact e
      · exact ih _ _ h
    · exact ih _ _ h
theorem tI_ge (u : Nat → Int) (N : Nat) (d : Nat) : ∀ i x,x ∈ tI u N d i → (i : Int) ≤ x ∧ x < i + d:=by
  induction d with
  | zero => intro i x h;cases h
  | succ d ih =>
    intro i x h
    rw [tI] at h
    rcases List.mem_append.1 h with h | h
    · have:=tB_mem u _ N 0 x h;omega
    · have:=ih (i + 1) x h;omega
theorem tB_sorted (u : Nat → Int) (i : Int) (d : Nat) : ∀ b,(tB u i d b).Pairwise (· ≤ ·):=by
  induction d with
  | zero => exact fun _ => List.Pairwise.nil
  | succ d ih =>
    intro b
    rw [tB]
    split
    · exact List.Pairwise.cons (fun x hx => by rw [tB_mem u i d _ x hx];exact Int.le_refl _) (ih _)
    · exact ih _
theorem tI_sorted (u : Nat → Int) (N : Nat) (d : Nat) : ∀ i,(tI u N d i).Pairwise (· ≤ ·):=by
  induction d with
  | zero => exact fun _ => List.Pairwise.nil
  | succ d ih =>
    intro i
    rw [tI,List.pairwise_append]
    refine ⟨tB_sorted u _ N 0,ih _,fun x hx y hy => ?_⟩
    have e1:=tB_mem u _ N 0 x hx
    have e2:=tI_ge u N d (i + 1) y hy
    omega
theorem tree_perm (u : Nat → Int) (N M : Nat) (h : ∀ b,b < N → u b < (M : Int)) : (uL u N 0).Perm (tI u N M 0):=by
  rw [List.perm_iff_count]
  intro v
  rw [uL_count,tI_count]
  by_cases c : 0 ≤ v
  · rw [if_pos c]
    by_cases e : v < (M : Int)
    · rw [if_pos (by omega)]
    · rw [if_neg (by omega),nB_none u v N 0 (fun x _ hx => by have:=h x (by omega);omega)]
  · rw [if_neg c,if_neg (by omega)]
theorem upS_lt {cs : List S51} {o : List Int} {b : Int} (d : Nat) : ∀ (i : Nat) (best at_ : Int),i + d = cs.length → -1 ≤ best → best < (cs.length : Int) → -1 ≤ (upS cs o b d i best at_).1 ∧ (upS cs o b d i best at_).1 < (cs.length : Int):=by
  induction d with
  | zero => exact fun _ _ _ _ h1 h2 => ⟨h1,h2⟩
  | succ d ih =>
    intro i best at_ h0 h1 h2
    rw [upS]
    split
    · split
      · exact ih _ _ _ (by omega) (by omega) (by omega)
      · exact ih _ _ _ (by omega) h1 h2
    · exact ih _ _ _ (by omega) h1 h2
theorem upX_lt (cs : List S51) (o : List Int) (b : Int) : -1 ≤ (upX cs o b).1 ∧ (upX cs o b).1 < (cs.length : Int):=upS_lt cs.length 0 (-1) (-1) (by omega) (by omega) (by omega)
def upN (N : Nat) (cs : List S51) (b : Nat) : Int:=(upX cs (costsN N cs) (b : Int)).1
/-- The cables of the tree. -/
def treeX (n : Int) (cs : List S51) : List Int:=if cabsB n cs = true then tI (upN n.toNat cs) n.toNat cs.length 0 else []
theorem itree_at {N : Nat} {cs : List S51} (hv : cabsB (N : Int) cs = true) (d : Nat) : ∀ (k b : Nat) (acc : List Int),b + d = N → acc = (uL (upN N cs) N 0).take acc.length → acc ++ uL (upN N cs) d b = uL (upN N cs) N 0 → acc.length ≤ 8 → d + 300 < k →
    impl_TreeOf.l0 k cs acc (costsN N cs) (N : Int) (b : Int) = some (tI (upN N cs) N cs.length 0):=by
  obtain ⟨f1,f2,f3,_⟩:=cabsB_facts hv
  have hs:=sound_of hv
  have ho:=costs_ok hv
  induction d with
  | zero =>
    intro k b acc h1 _ h2 h3 hk
    obtain ⟨k,rfl⟩ : ∃ m,k = m + 1:=⟨k - 1,by omega⟩
    rw [uL,List.append_nil] at h2
    have hlen:=uL_len (upN N cs) N 0
    obtain ⟨r,r1,r2,r3⟩:=sort_ok acc (by omega)
    have hp : acc.Perm (tI (upN N cs) N cs.length 0):=by rw [h2];exact tree_perm _ _ _ (fun x _ => (upX_lt cs _ _).2)
    simp only [impl_TreeOf.l0]
    rw [if_neg (by omega),r3 k (by omega),Option.bind_some,sort_uniq r2 (tI_sorted _ _ _ _) (r1.trans hp)]
  | succ d ih =>
    intro k b acc h1 h0 h2 h3 hk
    obtain ⟨k,rfl⟩ : ∃ m,k = m + 1:=⟨k - 1,by omega⟩
    have hb : b < N:=by omega
    have hlen:=uL_len (upN N cs) N 0
    have hu : (upX cs (costsN N cs) (b : Int)).1 = upN N cs b:=rfl
    simp only [impl_TreeOf.l0]
    rw [if_pos (by omega),iup_eq hs (by omega) ho hb k (by omega),Option.bind_some,wrap_succ hb (by omega),hu]
    rw [uL] at h2
    by_cases c : 0 ≤ upN N cs b
    · rw [if_pos c] at h2
      have h2' : (acc ++ [upN N cs b]) ++ uL (upN N cs) d (b + 1) = uL (upN N cs) N 0:=by rw [List.append_assoc];exact h2
      have hl2 : (acc ++ [upN N cs b]).length ≤ 8:=by
        have:=congrArg List.length h2'
        rw [List.length_append] at this
        omega
      rw [if_pos c,if_pos (by omega)]
      exact ih k (b + 1) _ (by omega) (by rw [← h2',List.take_left]) h2' hl2 (by omega)
    · rw [if_neg c] at h2
      rw [if_neg c]
      exact ih k (b + 1) acc (by omega) h0 h2 h3 (by omega)
theorem itree_eq (n : Int) (cs : List S51) (k : Nat) (hk : 400 < k) : impl_TreeOf.f k n cs = some (treeX n cs):=by
  have e : impl_CablesValid.f n cs = some (cabsB n cs):=rfl
  unfold impl_TreeOf.f treeX
  rw [e,Option.bind_some]
  cases hv : cabsB n cs with
  | false => rw [if_neg (by decide),if_neg (by decide)]
  | true =>
    obtain ⟨f1,f2,f3,_⟩:=cabsB_facts hv
    obtain ⟨N,hN⟩ : ∃ N : Nat,n = (N : Int):=⟨n.toNat,by omega⟩
    subst hN
    rw [if_pos rfl,if_pos rfl,icosts_eq N cs hv k (by omega),Option.bind_some,Int.toNat_natCast]
    exact itree_at hv N k 0 [] (by omega) rfl rfl (by simp) (by omega)

end Go.Proofs.Ytdamdcdjodmemaa.PAll
