/- Proved here: contracts of functions of the given program, or lemmas on them, for the laws of this seat. Written by xprint.py, a program of this session, on the ground of the kit's print; parts by hand: wip/x/ext. -/
import Derived.Test.YtdamdcdjodmemaaPAllx0
import Derived.Test.YtdamdcdjodmemaaPAllx1
import Derived.Test.YtdamdcdjodmemaaPAllx2
import Derived.Test.YtdamdcdjodmemaaPAllx3
import Derived.Test.YtdamdcdjodmemaaPAllx4
import Derived.Test.YtdamdcdjodmemaaPAllx5
namespace Go.Proofs.Ytdamdcdjodmemaa.PAll
open Go.RowKit Go.Proofs.YtdamdcdjodmemaaW.PrintWords Go.Proofs.YtdamdcdjodmemaaW.PrintLast Go.Proofs.YtdamdcdjodmemaaW.PrintMore
attribute [local go_sem] max2_int min2_int max_two min_two max_three min_three max_four min_four   -- for this text's walks alone
set_option linter.unusedVariables false
set_option linter.unusedSimpArgs false

-- LIB p19a
theorem l1In_is (n a b : Int) : spec_l1In.f n a b = some (decide (a ≤ n) && decide (n ≤ b)):=by
  unfold spec_l1In.f
  by_cases h : n ≥ a
  · rw [if_pos h,decide_eq_true (show a ≤ n from h),Bool.true_and]
  · rw [if_neg h,decide_eq_false (show ¬ a ≤ n from h),Bool.false_and]
theorem scabs_at (n : Int) (l : List S51) (hl : l.length ≤ 9223372036854775807) (d : Nat) : ∀ (k i : Nat),i + d = l.length → d < k → spec_CablesValid.l0 k n l (i : Int) = some ((l.drop i).all (cabB n)):=by
  induction d with
  | zero =>
    intro k i h1 hk
    obtain ⟨k,rfl⟩ : ∃ m,k = m + 1:=⟨k - 1,by omega⟩
    simp only [spec_CablesValid.l0]
    rw [if_neg (by omega),List.drop_of_length_le (by omega)]
    rfl
  | succ d ih =>
    intro k i h1 hk
    obtain ⟨k,rfl⟩ : ∃ m,k = m + 1:=⟨k - 1,by omega⟩
    simp only [spec_CablesValid.l0]
    rw [if_pos (by omega),if_pos (by omega),rdCab_get l i (by omega),l1In_is,l1In_is,l1In_is,wrap_succ (show i < l.length by omega) (by omega),ih k (i + 1) (by omega) (by omega),List.drop_eq_getElem_cons (show i < l.length by omega),List.all_cons]
    simp only [Option.bind_some]
    unfold cabB
    cases (decide (0 ≤ l[i].f0) && decide (l[i].f0 ≤ wrap64 (n - 1))) with
    | false => rw [if_neg (by decide)];simp
    | true =>
      rw [if_pos rfl]
      cases (decide (0 ≤ l[i].f1) && decide (l[i].f1 ≤ wrap64 (n - 1))) with
      | false => rw [if_neg (by decide)];simp
      | true =>
        rw [if_pos rfl]
        by_cases e : l[i].f0 = l[i].f1
        · rw [if_pos e,bne_eq_false_iff_eq.mpr e];simp
        · rw [if_neg e,bne_iff_ne.mpr e]
          cases (decide (1 ≤ l[i].f2) && decide (l[i].f2 ≤ 99)) with
          | false => rw [if_neg (by decide)];simp
          | true => rw [if_pos rfl];simp
theorem scabs_eq (n : Int) (l : List S51) (hl : l.length ≤ 9223372036854775807) (k : Nat) (hk : l.length + 1 < k) : spec_CablesValid.f k n l = some (cabsB n l):=by
  obtain ⟨k,rfl⟩ : ∃ m,k = m + 1:=⟨k - 1,by omega⟩
  unfold spec_CablesValid.f cabsB
  rw [l1In_is,Option.bind_some]
  simp only [spec_CablesValid.j0]
  cases (decide (1 ≤ n) && decide (n ≤ 8)) with
  | false => rw [if_neg (by decide),if_pos trivial];rfl
  | true =>
    rw [if_pos rfl]
    by_cases c : l.length ≤ 20
    · rw [decide_eq_false (show ¬ (l.length : Int) > 20 by omega),if_neg (by decide),decide_eq_true c]
      exact (scabs_at n l hl l.length k 0 (by omega) (by omega)).trans (by rw [List.drop_zero];rfl)
    · rw [decide_eq_true (show (l.length : Int) > 20 by omega),if_pos rfl,decide_eq_false c]
      rfl
theorem snet_l1 (n : Int) (cs : List S51) (hs vs : List Int) (hc : cs.length ≤ 9223372036854775807) (hl : hs.length ≤ 9223372036854775807) (hv : vs.length ≤ 9223372036854775807) (d : Nat) : ∀ (k i : Nat),i + d = vs.length → d + cs.length + 2 < k → spec_NetValid.l1 k (i : Int) n cs hs vs = some ((vs.drop i).all vlB && (cabsB n cs && (decide (vs.length = hs.length) && decide (hs.length ≤ 15)))):=by
  induction d with
  | zero =>
    intro k i h1 hk
    obtain ⟨k,rfl⟩ : ∃ m,k = m + 1:=⟨k - 1,by omega⟩
    simp only [spec_NetValid.l1]
    rw [if_neg (by omega),List.drop_of_length_le (by omega),scabs_eq n cs hc k (by omega),Option.bind_some]
    have e15 : decide ((hs.length : Int) ≤ 15) = decide (hs.length ≤ 15):=by rw [decide_eq_decide];omega
    rw [e15]
    cases cabsB n cs with
    | false => rw [if_neg (by decide)];simp
    | true =>
      rw [if_pos rfl]
      by_cases e : hs.length = vs.length
      · rw [if_pos (by omega),decide_eq_true e.symm];simp
      · rw [if_neg (by omega),decide_eq_false (fun h => e h.symm)];simp
  | succ d ih =>
    intro k i h1 hk
    obtain ⟨k,rfl⟩ : ∃ m,k = m + 1:=⟨k - 1,by omega⟩
    have e : spec_l10Vlan.f vs[i] = some (vlB vs[i]):=by unfold spec_l10Vlan.f;rw [l1In_is];rfl
    simp only [spec_NetValid.l1]
    rw [if_pos (by omega),if_pos (by omega),rd_get vs i (by omega),e,Option.bind_some,wrap_succ (show i < vs.length by omega) (by omega),ih k (i + 1) (by omega) (by omega),List.drop_eq_getElem_cons (show i < vs.length by omega),List.all_cons]
    cases vlB vs[i] with
    | false => rw [if_neg (by decide)];simp
    | true => rw [if_pos rfl];simp
theorem snet_l0 (n : Int) (cs : List S51) (hs vs : List Int) (hc : cs.length ≤ 9223372036854775807) (hl : hs.length ≤ 9223372036854775807) (hv : vs.length ≤ 9223372036854775807) (d : Nat) : ∀ (k i : Nat),i + d = hs.length → d + vs.length + cs.length + 3 < k → spec_NetValid.l0 k (i : Int) n cs hs vs = some ((hs.drop i).all (brB n) && (vs.all vlB && (cabsB n cs && (decide (vs.length = hs.length) && decide (hs.length ≤ 15))))):=by
  induction d with
  | zero =>
    intro k i h1 hk
    obtain ⟨k,rfl⟩ : ∃ m,k = m + 1:=⟨k - 1,by omega⟩
    have e:=snet_l1 n cs hs vs hc hl hv vs.length k 0 (by omega) (by omega)
    simp only [spec_NetValid.l0]
    rw [if_neg (by omega),List.drop_of_length_le (by omega)]
    exact e.trans (by rw [List.drop_zero];simp)
  | succ d ih =>
    intro k i h1 hk
    obtain ⟨k,rfl⟩ : ∃ m,k = m + 1:=⟨k - 1,by omega⟩
    simp only [spec_NetValid.l0]
    rw [if_pos (by omega),if_pos (by omega),rd_get hs i (by omega),l1In_is,Option.bind_some,wrap_succ (show i < hs.length by omega) (by omega),ih k (i + 1) (by omega) (by omega),List.drop_eq_getElem_cons (show i < hs.length by omega),List.all_cons]
    have e : brB n hs[i] = (decide (0 ≤ hs[i]) && decide (hs[i] ≤ wrap64 (n - 1))):=rfl
    rw [← e]
    cases brB n hs[i] with
    | false => rw [if_neg (by decide)];simp
    | true => rw [if_pos rfl];simp
theorem snet_eq (n : Int) (cs : List S51) (hs vs : List Int) (hc : cs.length ≤ 9223372036854775807) (hl : hs.length ≤ 9223372036854775807) (hv : vs.length ≤ 9223372036854775807) (k : Nat) (hk : hs.length + vs.length + cs.length + 3 < k) : spec_NetValid.f k n cs hs vs = some (netB n cs hs vs):=by
  unfold spec_NetValid.f
  refine (snet_l0 n cs hs vs hc hl hv hs.length k 0 (by omega) (by omega)).trans ?_
  rw [List.drop_zero]
  unfold netB
  cases hs.all (brB n) <;> cases vs.all vlB <;> cases cabsB n cs <;> cases decide (vs.length = hs.length) <;> cases decide (hs.length ≤ 15) <;> rfl
theorem inet_eq (n : Int) (cs : List S51) (hs vs : List Int) : impl_NetValid.f n cs hs vs = some (netB n cs hs vs):=rfl

-- LIB p19j
/-- What is told of a valid network. -/
theorem netB_facts {n : Int} {cs : List S51} {hs vs : List Int} (h : netB n cs hs vs = true) : cabsB n cs = true ∧ hs.length ≤ 15 ∧ vs.length = hs.length ∧ (∀ x ∈ hs,0 ≤ x ∧ x < n):=by
  unfold netB at h
  simp only [Bool.and_eq_true,decide_eq_true_eq,List.all_eq_true] at h
  obtain ⟨h1,h2,h3,h4,h5⟩:=h
  obtain ⟨f1,f2,_,_⟩:=cabsB_facts h1
  refine ⟨h1,h2,h3,fun x hx => ?_⟩
  have:=h4 x hx
  unfold brB at this
  have e : wrap64 (n - 1) = n - 1:=by unfold wrap64;omega
  rw [e] at this
  simp only [Bool.and_eq_true,decide_eq_true_eq] at this
  omega

-- LIB cutcab
/-- A network's cables without one. -/
theorem icut_eq (n : Int) (cs : List S51) (hs vs : List Int) (x : Int) (k : Nat) (hk : 1 < k) : impl_CutCable.f k n cs hs vs x = some (if netB n cs hs vs = true ∧ 0 ≤ x ∧ x < cs.length then (n,cs.eraseIdx x.toNat,hs,vs,true) else (0,[],[],[],false)):=by
  obtain ⟨k,rfl⟩ : ∃ m,k = m + 1:=⟨k - 1,by omega⟩
  unfold impl_CutCable.f
  rw [inet_eq,Option.bind_some]
  cases hv : netB n cs hs vs with
  | false =>
    rw [if_neg (by decide),if_neg (fun h => by cases h.1)]
    simp only [impl_CutCable.j0]
    rw [if_pos trivial]
  | true =>
    obtain ⟨q1,q2,q3,q4⟩:=netB_facts hv
    obtain ⟨p1,p2,p3,p4⟩:=cabsB_facts q1
    rw [if_pos rfl,win_is,Option.bind_some,wrap_eq (x:=(cs.length : Int) - 1) (by omega) (by omega)]
    simp only [impl_CutCable.j0]
    by_cases c : 0 ≤ x ∧ x < cs.length
    · have e : wrap64 (x + 1) = x + 1:=wrap_eq (by omega) (by omega)
      rw [decide_eq_true c.1,decide_eq_true (show x ≤ (cs.length : Int) - 1 by omega),if_neg (by decide),if_pos ⟨trivial,c⟩]
      unfold impl_Net_clone.f impl_Cable_79.f slices_Clone_int_int.f
      rw [if_pos (by omega),Option.bind_some,if_pos (by omega),Option.bind_some,if_pos (by omega),Option.bind_some,Option.bind_some]
      unfold impl_Cable_60.f
      simp only []
      rw [if_pos ⟨c.1,e,c.2,by omega⟩,Option.bind_some]
    · rw [if_pos (by simp only [Bool.not_eq_true',Bool.and_eq_false_iff,decide_eq_false_iff_not];omega),if_neg (fun h => c h.2)]
theorem scut_l0 (n : Int) (cs : List S51) (hs vs : List Int) (X : Nat) (hX : X < cs.length) (hl : cs.length ≤ 1000) (h0 : List Int) (v0 : List Int) (m : Int) (d : Nat) : ∀ (k i : Nat), i + d = cs.length → d < k →
    spec_CutCable.l0 k (X : Int) (i : Int) n cs hs vs m ((cs.take i).eraseIdx X) h0 v0 = some (m,cs.eraseIdx X,h0,v0,true):=by
  induction d with
  | zero =>
    intro k i h1 hk
    obtain ⟨k,rfl⟩ : ∃ m,k = m + 1:=⟨k - 1,by omega⟩
    simp only [spec_CutCable.l0]
    rw [if_neg (by omega),List.take_of_length_le (by omega)]
  | succ d ih =>
    intro k i h1 hk
    obtain ⟨k,rfl⟩ : ∃ m,k = m + 1:=⟨k - 1,by omega⟩
    have hi : i < cs.length:=by omega
    have ih':=ih k (i + 1) (by omega) (by omega)
    rw [List.take_succ_eq_append_getElem hi] at ih'
    simp only [spec_CutCable.l0]
    rw [if_pos (by omega),wrap_succ hi (by omega),rdCab_get cs i hi]
    have hlen:=List.length_eraseIdx_le (cs.take i) X
    rw [List.length_take] at hlen
    by_cases c : (i : Int) = (X : Int)
    · rw [if_pos c]
      obtain rfl : i = X:=by omega
      rw [List.eraseIdx_append_of_length_le (by rw [List.length_take];omega),show i - (cs.take i).length = 0 by rw [List.length_take];omega] at ih'
      rw [List.eraseIdx_of_length_le (by rw [List.length_take];omega)]
      simpa using ih'
    · rw [if_neg c,if_pos (by omega),if_pos (by omega)]
      by_cases c2 : X < i
      · rw [List.eraseIdx_append_of_lt_length (by rw [List.length_take];omega)] at ih'
        exact ih'
      · rw [List.eraseIdx_of_length_le (by rw [List.length_append,List.length_take];simp;omega)] at ih'
        rw [List.eraseIdx_of_length_le (by rw [List.length_take];omega)]
        exact ih'
theorem scut_eq (n : Int) (cs : List S51) (hs vs : List Int) (x : Int) (hl : cs.length + hs.length + vs.length ≤ 1048576) (k : Nat) (hk : cs.length + hs.length + vs.length + 100 < k) : spec_CutCable.f k n cs hs vs x = some (if netB n cs hs vs = true ∧ 0 ≤ x ∧ x < cs.length then (n,cs.eraseIdx x.toNat,hs,vs,true) else (0,[],[],[],false)):=by
  obtain ⟨k,rfl⟩ : ∃ m,k = m + 1:=⟨k - 1,by omega⟩
  unfold spec_CutCable.f
  rw [snet_eq n cs hs vs (by omega) (by omega) (by omega) _ (by omega),Option.bind_some]
  cases hv : netB n cs hs vs with
  | false =>
    rw [if_neg (by decide),if_neg (fun h => by cases h.1)]
    simp only [spec_CutCable.j0]
    rw [if_pos trivial]
  | true =>
    obtain ⟨q1,_⟩:=netB_facts hv
    obtain ⟨_,_,p3,_⟩:=cabsB_facts q1
    rw [if_pos rfl,l1In_is,Option.bind_some,wrap_eq (x:=(cs.length : Int) - 1) (by omega) (by omega)]
    simp only [spec_CutCable.j0]
    by_cases c : 0 ≤ x ∧ x < cs.length
    · rw [decide_eq_true c.1,decide_eq_true (show x ≤ (cs.length : Int) - 1 by omega),if_neg (by decide),if_pos ⟨trivial,c⟩,Option.bind_some,if_pos (by simp;omega),Option.bind_some,if_pos (by simp;omega),List.nil_append,List.nil_append]
      obtain ⟨X,rfl⟩:=Int.eq_ofNat_of_zero_le c.1
      exact scut_l0 n cs hs vs X (by omega) (by omega) hs vs n cs.length k 0 (by omega) (by omega)
    · rw [if_pos (by simp only [Bool.not_eq_true',Bool.and_eq_false_iff,decide_eq_false_iff_not];omega),if_neg (fun h => c h.2)]

-- LIB pints
/-- A copy of a list of numbers is that list. -/
theorem toIntS_at (l : List Int) (hl : l.length ≤ 1048576) (d : Nat) : ∀ (k i : Nat) (x : List Int),i + d = l.length → x.length = l.length → x.take i = l.take i → d < k → laws_toIntS.l0 k l x (i : Int) = some l:=by
  induction d with
  | zero =>
    intro k i x h1 h2 h3 hk
    obtain ⟨k,rfl⟩ : ∃ m,k = m + 1:=⟨k - 1,by omega⟩
    simp only [laws_toIntS.l0]
    rw [if_neg (by omega)]
    have e1 : x.take i = x:=List.take_of_length_le (by omega)
    have e2 : l.take i = l:=List.take_of_length_le (by omega)
    rw [← e1,h3,e2]
  | succ d ih =>
    intro k i x h1 h2 h3 hk
    obtain ⟨k,rfl⟩ : ∃ m,k = m + 1:=⟨k - 1,by omega⟩
    simp only [laws_toIntS.l0]
    rw [if_pos (by omega),if_pos (by omega),if_pos (by omega),wrap_succ (show i < l.length by omega) (by omega),rd_get l i (by omega),Int.toNat_natCast]
    refine ih k (i + 1) (x.set i l[i]) (by omega) (by rw [List.length_set];exact h2) ?_ (by omega)
    rw [List.take_add_one,List.take_add_one,List.take_set,List.getElem?_set_self (by omega),List.getElem?_eq_getElem (by omega),List.set_eq_of_length_le (by rw [List.length_take];omega),h3]
theorem toIntS_eq (l : List Int) (hl : l.length ≤ 1048576) (k : Nat) (hk : l.length < k) : laws_toIntS.f k l = some l:=by
  unfold laws_toIntS.f
  rw [if_pos (by omega),if_pos (by omega)]
  exact toIntS_at l hl l.length k 0 _ (by omega) (by simp) (by simp) hk
theorem eqIntS_at (l : List Int) (hl : l.length ≤ 9223372036854775807) (d : Nat) : ∀ (k i : Nat),i + d = l.length → d < k → laws_eqIntS.l0 k l l (i : Int) = some true:=by
  induction d with
  | zero =>
    intro k i h1 hk
    obtain ⟨k,rfl⟩ : ∃ m,k = m + 1:=⟨k - 1,by omega⟩
    simp only [laws_eqIntS.l0]
    rw [if_neg (by omega)]
  | succ d ih =>
    intro k i h1 hk
    obtain ⟨k,rfl⟩ : ∃ m,k = m + 1:=⟨k - 1,by omega⟩
    simp only [laws_eqIntS.l0]
    rw [if_pos (by omega),if_pos (by omega),if_pos (by omega),if_pos trivial,wrap_succ (show i < l.length by omega) (by omega)]
    exact ih k (i + 1) (by omega) (by omega)
theorem eqIntS_eq (l : List Int) (hl : l.length ≤ 9223372036854775807) (k : Nat) (hk : l.length < k) : laws_eqIntS.f k l l = some true:=by
  unfold laws_eqIntS.f
  rw [if_pos rfl]
  exact eqIntS_at l hl l.length k 0 (by omega) hk

-- LIB p19e
-- what the exact laws do with their arguments
theorem rdLab_get (l : List S79) (i : Nat) (h : i < l.length) : rd_T79 l (i : Int) = l[i]:=by simp [rd_T79,List.getD_eq_getElem?_getD,h]
def cvC (l : List S79) : List S51:=l.map fun x => ⟨x.f0,x.f1,x.f2⟩
theorem cvC_len (l : List S79) : (cvC l).length = l.length:=by unfold cvC;simp
theorem toCable_at (l : List S79) (hl : l.length ≤ 1048576) (d : Nat) : ∀ (k i : Nat) (x : List S51),i + d = l.length → x.length = l.length → x.take i = (cvC l).take i → d < k → laws_toCableS.l0 k l x (i : Int) = some (cvC l):=by
  have hc:=cvC_len l
  induction d with
  | zero =>
    intro k i x h1 h2 h3 hk
    obtain ⟨k,rfl⟩ : ∃ m,k = m + 1:=⟨k - 1,by omega⟩
    simp only [laws_toCableS.l0]
    rw [if_neg (by omega)]
    have e1 : x.take i = x:=List.take_of_length_le (by omega)
    have e2 : (cvC l).take i = cvC l:=List.take_of_length_le (by omega)
    rw [← e1,h3,e2]
  | succ d ih =>
    intro k i x h1 h2 h3 hk
    obtain ⟨k,rfl⟩ : ∃ m,k = m + 1:=⟨k - 1,by omega⟩
    simp only [laws_toCableS.l0,laws_toCable.f,Option.bind_some]
    rw [if_pos (by omega),if_pos (by omega),if_pos (by omega),wrap_succ (show i < l.length by omega) (by omega),rdLab_get l i (by omega),Int.toNat_natCast]
    have e : (cvC l)[i]? = some ⟨l[i].f0,l[i].f1,l[i].f2⟩:=by unfold cvC;simp [show i < l.length by omega]
    refine ih k (i + 1) _ (by omega) (by rw [List.length_set];exact h2) ?_ (by omega)
    rw [List.take_add_one,List.take_add_one,List.take_set,List.getElem?_set_self (by omega),e,List.set_eq_of_length_le (by rw [List.length_take];omega),h3]
theorem toCable_eq (l : List S79) (hl : l.length ≤ 1048576) (k : Nat) (hk : l.length < k) : laws_toCableS.f k l = some (cvC l):=by
  unfold laws_toCableS.f
  rw [if_pos (by omega),if_pos (by omega)]
  exact toCable_at l hl l.length k 0 _ (by omega) (by simp) (by simp) hk
theorem eqCable_at (l : List S51) (hl : l.length ≤ 9223372036854775807) (d : Nat) : ∀ (k i : Nat),i + d = l.length → d < k → laws_eqCableS.l0 k l l (i : Int) = some true:=by
  induction d with
  | zero =>
    intro k i h1 hk
    obtain ⟨k,rfl⟩ : ∃ m,k = m + 1:=⟨k - 1,by omega⟩
    simp only [laws_eqCableS.l0]
    rw [if_neg (by omega)]
  | succ d ih =>
    intro k i h1 hk
    obtain ⟨k,rfl⟩ : ∃ m,k = m + 1:=⟨k - 1,by omega⟩
    have e : ∀ (a b c : Int),laws_eqCable.f a b c a b c = some true:=fun a b c => by unfold laws_eqCable.f;rw [if_pos rfl,if_pos rfl,if_pos rfl]
    simp only [laws_eqCableS.l0]
    rw [if_pos (by omega),if_pos (by omega),if_pos (by omega),e,Option.bind_some,if_pos rfl,wrap_succ (show i < l.length by omega) (by omega)]
    exact ih k (i + 1) (by omega) (by omega)
theorem eqCable_eq (l : List S51) (hl : l.length ≤ 9223372036854775807) (k : Nat) (hk : l.length < k) : laws_eqCableS.f k l l = some true:=by
  unfold laws_eqCableS.f
  rw [if_pos rfl]
  exact eqCable_at l hl l.length k 0 (by omega) hk
theorem szInt_of (l : List Int) (hl : l.length ≤ maxLen) (m : Int) (h0 : 0 ≤ m) (h1 : m ≤ 1048576) : ∃ n : Int,laws_szIntS.f l m = some n ∧ (¬ n < 0 → l.length ≤ m ∧ n = m - l.length):=by
  unfold maxLen at hl
  unfold laws_szIntS.f
  rw [wrap_eq (by omega) (by omega)]
  split
  · exact ⟨_,rfl,fun h => absurd (show (-1 : Int) < 0 by decide) h⟩
  · exact ⟨_,rfl,fun h => by omega⟩
theorem szNet_eq (n : Int) (cs : List S79) (hs vs : List Int) (h1 : cs.length ≤ maxLen) (h2 : hs.length ≤ maxLen) (h3 : vs.length ≤ maxLen) : ∃ m : Int,laws_szNet.f n cs hs vs 1048576 = some m ∧ (¬ m < 0 → cs.length + hs.length + vs.length ≤ 1048576 ∧ 0 ≤ m ∧ m ≤ 1048576):=by
  have hc : ∃ m : Int,laws_szCableS.f cs 1048576 = some m ∧ (¬ m < 0 → cs.length ≤ 1048576 ∧ m = 1048576 - cs.length):=by
    unfold maxLen at h1
    unfold laws_szCableS.f
    rw [wrap_eq (by omega) (by omega)]
    split
    · exact ⟨_,rfl,fun h => absurd (show (-1 : Int) < 0 by decide) h⟩
    · exact ⟨_,rfl,fun h => by omega⟩
  obtain ⟨m1,e1,g1⟩:=hc
  unfold laws_szNet.f
  rw [e1,Option.bind_some]
  by_cases c1 : m1 < 0
  · rw [if_pos c1];exact ⟨_,rfl,fun h => absurd (show (-1 : Int) < 0 by decide) h⟩
  obtain ⟨q1,q2⟩:=g1 c1
  obtain ⟨m2,e2,g2⟩:=szInt_of hs h2 m1 (by omega) (by omega)
  rw [if_neg c1,e2,Option.bind_some]
  by_cases c2 : m2 < 0
  · rw [if_pos c2];exact ⟨_,rfl,fun h => absurd (show (-1 : Int) < 0 by decide) h⟩
  obtain ⟨q3,q4⟩:=g2 c2
  obtain ⟨m3,e3,g3⟩:=szInt_of vs h3 m2 (by omega) (by omega)
  rw [if_neg c2,e3,Option.bind_some]
  by_cases c3 : m3 < 0
  · rw [if_pos c3];exact ⟨_,rfl,fun h => absurd (show (-1 : Int) < 0 by decide) h⟩
  rw [if_neg c3]
  exact ⟨_,rfl,fun h => by have:=g3 h;omega⟩
theorem toNet_eq (n : Int) (cs : List S79) (hs vs : List Int) (h : cs.length + hs.length + vs.length ≤ 1048576) (k : Nat) (hk : cs.length + hs.length + vs.length < k) : laws_toNet.f k n cs hs vs = some (n,cvC cs,hs,vs):=by
  unfold laws_toNet.f
  rw [toCable_eq cs (by omega) k (by omega),Option.bind_some,toIntS_eq hs (by omega) k (by omega),Option.bind_some,toIntS_eq vs (by omega) k (by omega),Option.bind_some]
theorem eqNet_eq (n : Int) (cs : List S51) (hs vs : List Int) (h : cs.length + hs.length + vs.length ≤ 1048576) (k : Nat) (hk : cs.length + hs.length + vs.length < k) : laws_eqNet.f k n cs hs vs n cs hs vs = some true:=by
  unfold laws_eqNet.f
  rw [if_pos rfl,eqCable_eq cs (by omega) k (by omega),Option.bind_some,if_pos rfl,eqIntS_eq hs (by omega) k (by omega),Option.bind_some,if_pos rfl,eqIntS_eq vs (by omega) k (by omega),Option.bind_some,if_pos rfl]

-- LIB pmarkint
/-- Numbers in a row, from m on. -/
def mkI (m : Int) : Nat → List Int
  | 0 => []
  | n + 1 => m :: mkI (m + 1) n
theorem markInt_at (d : Nat) : ∀ (k i : Nat) (m : Int) (l : List Int),i + d = l.length → l.length ≤ 4611686018427387904 → d < k → 0 ≤ m → m + d ≤ 4611686018427387904 → laws_markIntS.l0 k l m i = some (m + d,l.take i ++ mkI m d):=by
  induction d with
  | zero =>
    intro k i m l h1 hl hk h2 h3
    obtain ⟨k,rfl⟩ : ∃ m,k = m + 1:=⟨k - 1,by omega⟩
    simp only [laws_markIntS.l0]
    have e : l.take i = l:=List.take_of_length_le (by omega)
    rw [if_neg (by omega),e,mkI,List.append_nil,show m + ((0 : Nat) : Int) = m by omega]
  | succ d ih =>
    intro k i m l h1 hl hk h2 h3
    obtain ⟨k,rfl⟩ : ∃ m,k = m + 1:=⟨k - 1,by omega⟩
    simp only [laws_markIntS.l0]
    have e2 : (l.set i m).take (i + 1) = l.take i ++ [m]:=by
      rw [List.take_add_one,List.take_set,List.getElem?_set_self (by omega),List.set_eq_of_length_le (by rw [List.length_take];omega)]
      rfl
    rw [if_pos (by omega),if_pos (by omega),wrap_eq (by omega) (by omega),wrap_succ (show i < l.length by omega) (by omega),Int.toNat_natCast,ih k (i + 1) (m + 1) _ (by rw [List.length_set];omega) (by rw [List.length_set];omega) (by omega) (by omega) (by omega),e2,mkI,List.append_assoc,show m + 1 + (d : Int) = m + ((d + 1 : Nat) : Int) by omega]
    rfl
theorem markInt_eq (l : List Int) (m : Int) (hl : l.length ≤ 2305843009213693952) (h0 : 0 ≤ m) (h1 : m ≤ 2305843009213693952) (k : Nat) (hk : l.length < k) : laws_markIntS.f k l m = some (m + l.length,mkI m l.length) :=
  markInt_at l.length k 0 m l (by omega) (by omega) hk h0 (by omega)
theorem mkI_len (n : Nat) : ∀ m,(mkI m n).length = n:=by
  induction n with
  | zero => exact fun _ => rfl
  | succ n ih => exact fun m => by rw [mkI,List.length_cons,ih]

-- LIB pheldint
theorem heldInt_at (d : Nat) : ∀ (k i : Nat) (m : Int) (l : List Int),i + d = l.length → l.length ≤ 4611686018427387904 → d < k → 0 ≤ m → m + d ≤ 4611686018427387904 → l.drop i = mkI m d → laws_heldIntS.l0 k l m i = some (m + d):=by
  induction d with
  | zero =>
    intro k i m l h1 hl hk h2 h3 h4
    obtain ⟨k,rfl⟩ : ∃ m,k = m + 1:=⟨k - 1,by omega⟩
    simp only [laws_heldIntS.l0]
    rw [if_neg (by omega),show m + ((0 : Nat) : Int) = m by omega]
  | succ d ih =>
    intro k i m l h1 hl hk h2 h3 h4
    obtain ⟨k,rfl⟩ : ∃ m,k = m + 1:=⟨k - 1,by omega⟩
    rw [List.drop_eq_getElem_cons (show i < l.length by omega),mkI] at h4
    obtain ⟨e1,e2⟩:=List.cons.inj h4
    simp only [laws_heldIntS.l0]
    rw [if_pos (by omega),if_pos (by omega),rd_get l i (by omega),e1,wrap_eq (by omega) (by omega),wrap_succ (show i < l.length by omega) (by omega),ih k (i + 1) (m + 1) l (by omega) hl (by omega) (by omega) (by omega) e2]
    simp
    omega
theorem heldInt_eq (n : Nat) (m : Int) (hl : n ≤ 2305843009213693952) (h0 : 0 ≤ m) (h1 : m ≤ 2305843009213693952) (k : Nat) (hk : n < k) : laws_heldIntS.f k (mkI m n) m = some (m + n):=by
  have h:=heldInt_at n k 0 m (mkI m n) (by rw [mkI_len];omega) (by rw [mkI_len];omega) hk h0 (by omega) rfl
  exact h

-- LIB p19hc
/-- Marks of cables, from m on. -/
def mkC (m : Int) : Nat → List S51
  | 0 => []
  | n + 1 => ⟨m,m + 1,m + 2⟩ :: mkC (m + 3) n
theorem mkC_len (n : Nat) : ∀ m,(mkC m n).length = n:=by
  induction n with
  | zero => exact fun _ => rfl
  | succ n ih => exact fun m => by rw [mkC,List.length_cons,ih]
theorem rdCab_set (l : List S51) (i : Nat) (c : S51) (h : i < l.length) : rd_T51 (l.set i c) (i : Int) = c:=by
  rw [rdCab_get _ i (by rw [List.length_set];exact h),List.getElem_set_self]
theorem markC_at (d : Nat) : ∀ (k i : Nat) (m : Int) (l : List S51),i + d = l.length → l.length ≤ 1000000000 → d < k → 0 ≤ m → m + 3 * d ≤ 4611686018427387904 → laws_markCableS.l0 k l m i = some (m + 3 * d,l.take i ++ mkC m d):=by
  induction d with
  | zero =>
    intro k i m l h1 hl hk h2 h3
    obtain ⟨k,rfl⟩ : ∃ m,k = m + 1:=⟨k - 1,by omega⟩
    simp only [laws_markCableS.l0]
    rw [if_neg (by omega),show m + 3 * ((0 : Nat) : Int) = m by omega,List.take_of_length_le (by omega),mkC,List.append_nil]
  | succ d ih =>
    intro k i m l h1 hl hk h2 h3
    obtain ⟨k,rfl⟩ : ∃ m,k = m + 1:=⟨k - 1,by omega⟩
    have hi : i < l.length:=by omega
    simp only [laws_markCableS.l0,Option.bind_some,Int.toNat_natCast]
    rw [if_pos (by omega),if_pos (by omega),wrap_eq (x:=m + 1) (by omega) (by omega),wrap_eq (x:=m + 1 + 1) (by omega) (by omega),wrap_eq (x:=m + 1 + 1 + 1) (by omega) (by omega),wrap_succ hi (by omega),rdCab_set l i _ hi,rdCab_set _ i _ (by rw [List.length_set];exact hi),List.set_set,List.set_set]
    simp only []
    have e2 : (l.set i (⟨m,m + 1,m + 1 + 1⟩ : S51)).take (i + 1) = l.take i ++ [⟨m,m + 1,m + 2⟩]:=by
      rw [List.take_add_one,List.take_set,List.getElem?_set_self hi,List.set_eq_of_length_le (by rw [List.length_take];omega),show m + 1 + 1 = m + 2 by omega]
      rfl
    rw [ih k (i + 1) (m + 1 + 1 + 1) _ (by rw [List.length_set];omega) (by rw [List.length_set];omega) (by omega) (by omega) (by omega),e2,mkC,List.append_assoc,show m + 1 + 1 + 1 + 3 * (d : Int) = m + 3 * ((d + 1 : Nat) : Int) by omega,show m + 1 + 1 + 1 = m + 3 by omega]
    rfl
theorem heldC_at (d : Nat) : ∀ (k i : Nat) (m : Int) (l : List S51),i + d = l.length → l.length ≤ 1000000000 → d < k → 0 ≤ m → m + 3 * d ≤ 4611686018427387904 → l.drop i = mkC m d → laws_heldCableS.l0 k l m i = some (m + 3 * d):=by
  induction d with
  | zero =>
    intro k i m l h1 hl hk h2 h3 h4
    obtain ⟨k,rfl⟩ : ∃ m,k = m + 1:=⟨k - 1,by omega⟩
    simp only [laws_heldCableS.l0]
    rw [if_neg (by omega),show m + 3 * ((0 : Nat) : Int) = m by omega]
  | succ d ih =>
    intro k i m l h1 hl hk h2 h3 h4
    obtain ⟨k,rfl⟩ : ∃ m,k = m + 1:=⟨k - 1,by omega⟩
    have hi : i < l.length:=by omega
    rw [List.drop_eq_getElem_cons hi,mkC] at h4
    obtain ⟨e1,e2⟩:=List.cons.inj h4
    simp only [laws_heldCableS.l0]
    rw [if_pos (by omega),if_pos (by omega),rdCab_get l i hi,e1,if_pos rfl,wrap_eq (x:=m + 1) (by omega) (by omega),if_pos rfl,wrap_eq (x:=m + 1 + 1) (by omega) (by omega),if_pos (by simp only [];omega),wrap_eq (x:=m + 1 + 1 + 1) (by omega) (by omega),wrap_succ hi (by omega),ih k (i + 1) (m + 1 + 1 + 1) l (by omega) hl (by omega) (by omega) (by omega) (by rw [show m + 1 + 1 + 1 = m + 3 by omega];exact e2)]
    congr 1
    omega
/-- What is marked of a network is held. -/
theorem heldNet_ok (n n2 : Int) (cs : List S51) (hs vs : List Int) (hl : cs.length + hs.length + vs.length ≤ 1048576) : ∃ m x y z,0 ≤ m ∧ (∀ k,cs.length + hs.length + vs.length < k → laws_markNet.f k n cs hs vs 1 = some (m,x,y,z)) ∧ ∀ k,cs.length + hs.length + vs.length < k → laws_heldNet.f k n2 x y z 1 = some m:=by
  refine ⟨1 + 3 * (cs.length : Int) + hs.length + vs.length,mkC 1 cs.length,mkI (1 + 3 * (cs.length : Int)) hs.length,mkI (1 + 3 * (cs.length : Int) + hs.length) vs.length,by omega,fun k hk => ?_,fun k hk => ?_⟩
  · have hx : laws_markCableS.f k cs 1 = some (1 + 3 * (cs.length : Int),mkC 1 cs.length):=markC_at cs.length k 0 1 cs (by omega) (by omega) (by omega) (by omega) (by omega)
    unfold laws_markNet.f
    rw [hx,Option.bind_some]
    simp only []
    rw [markInt_eq hs _ (by omega) (by omega) (by omega) k (by omega),Option.bind_some]
    simp only []
    rw [markInt_eq vs _ (by omega) (by omega) (by omega) k (by omega),Option.bind_some]
  · have hx : laws_heldCableS.f k (mkC 1 cs.length) 1 = some (1 + 3 * (cs.length : Int)):=heldC_at cs.length k 0 1 _ (by rw [mkC_len];omega) (by rw [mkC_len];omega) (by omega) (by omega) (by omega) rfl
    unfold laws_heldNet.f
    rw [hx,Option.bind_some,if_neg (by omega),heldInt_eq _ _ (by omega) (by omega) (by omega) k (by omega),Option.bind_some,if_neg (by omega),heldInt_eq _ _ (by omega) (by omega) (by omega) k (by omega),Option.bind_some,if_neg (by omega)]

end Go.Proofs.Ytdamdcdjodmemaa.PAll
