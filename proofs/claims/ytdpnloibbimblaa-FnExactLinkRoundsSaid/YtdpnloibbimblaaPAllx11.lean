/- Proved here: contracts of functions of the given program, or lemmas on them, for the laws of this seat. Written by xprint.py, a program of this session, on the ground of the kit's print; parts by hand: wip/x/ext. -/
import Derived.Test.YtdpnloibbimblaaPAllx0
import Derived.Test.YtdpnloibbimblaaPAllx1
import Derived.Test.YtdpnloibbimblaaPAllx2
import Derived.Test.YtdpnloibbimblaaPAllx3
import Derived.Test.YtdpnloibbimblaaPAllx5
namespace Go.Proofs.Ytdpnloibbimblaa.PAll
open Go.RowKit Go.Proofs.YtdpnloibbimblaaW.PrintWords Go.Proofs.YtdpnloibbimblaaW.PrintLast Go.Proofs.YtdpnloibbimblaaW.PrintMore
attribute [local go_sem] max2_int min2_int max_two min_two max_three min_three max_four min_four   -- for this text's walks alone
set_option linter.unusedVariables false
set_option linter.unusedSimpArgs false

-- LIB linkeq
theorem fvB_l0 (l : List Int) (hl : l.length ≤ 1099511627776) (d : Nat) : ∀ i : Nat,i + d = l.length → ∀ k,d < k → spec_FatesValid.l0 k l (i : Int) = some ((l.drop i).all (fun x => decide (0 ≤ x) && decide (x ≤ 4)) && decide ((l.length : Int) ≤ 200)):=by
  induction d with
  | zero =>
    intro i hi k hk
    obtain ⟨k,rfl⟩ : ∃ m,k = m + 1:=⟨k - 1,by omega⟩
    simp only [spec_FatesValid.l0]
    rw [if_neg (by omega),List.drop_eq_nil_of_le (by omega)]
    rfl
  | succ d ih =>
    intro i hi k hk
    obtain ⟨k,rfl⟩ : ∃ m,k = m + 1:=⟨k - 1,by omega⟩
    simp only [spec_FatesValid.l0]
    have hi2 : i < l.length:=by omega
    rw [if_pos (by omega),if_pos (by omega),rd_get l i hi2,specIn,Option.bind_some,List.drop_eq_getElem_cons hi2,List.all_cons,wrap_eq (by omega) (by omega)]
    by_cases h : (decide (0 ≤ l[i]) && decide (l[i] ≤ 4)) = true
    · rw [if_pos h,h,Bool.true_and]
      exact ih (i + 1) (by omega) k (by omega)
    · rw [if_neg h,Bool.eq_false_iff.mpr h,Bool.false_and,Bool.false_and]
theorem fvB_eq {l : List Int} (hl : l.length ≤ 1099511627776) (k : Nat) (hk : l.length < k) : spec_FatesValid.f k l = some (fatesB l):=by
  have h:=fvB_l0 l hl l.length 0 (by omega) k hk
  unfold spec_FatesValid.f
  rw [show (0 : Int) = ((0 : Nat) : Int) from rfl,h,List.drop_zero]
  unfold fatesB
  rw [Bool.and_comm]
  congr 2
  by_cases h2 : l.length ≤ 200
  · rw [decide_eq_true h2,decide_eq_true (by omega)]
  · rw [decide_eq_false h2,decide_eq_false (by omega)]
theorem linkB_split (a0 a4 : Int) (l1 : List (List Int)) (l2 l3 : List Int) : linkB a0 l1 l2 l3 a4 = (linkB a0 l1 l2 l3 0 && (decide (0 ≤ a4) && decide (a4 ≤ 400))):=by
  unfold linkB
  simp only [Bool.and_assoc]
  cases decide (1 ≤ a0) <;> cases decide (a0 ≤ 8) <;> cases decide (l1.length ≤ 60) <;> cases (l1.all fun x => decide (x.length ≤ 597)) <;> cases fatesB l2 <;> cases fatesB l3 <;> simp
theorem l5l_l0 (a0 : Int) (l1 : List (List Int)) (l2 l3 : List Int) (h1 : l1.length ≤ 1099511627776) (h2 : l2.length ≤ 1099511627776) (h3 : l3.length ≤ 1099511627776) (K : Nat) (hK2 : l2.length < K) (hK3 : l3.length < K) (d : Nat) : ∀ i : Nat, i + d = l1.length → ∀ k, K + d < k →
    spec_l5Link.l0 k a0 l1 l2 l3 (i : Int) = some (((l1.drop i).all fun x => decide (x.length ≤ 597)) && ((decide (1 ≤ a0) && decide (a0 ≤ 8)) && (decide (l1.length ≤ 60) && (fatesB l2 && fatesB l3)))):=by
  induction d with
  | zero =>
    intro i hi k hk
    obtain ⟨k,rfl⟩ : ∃ m,k = m + 1:=⟨k - 1,by omega⟩
    simp only [spec_l5Link.l0]
    rw [if_neg (by omega),List.drop_eq_nil_of_le (by omega),specIn,Option.bind_some,List.all_nil,Bool.true_and]
    by_cases c1 : (decide (1 ≤ a0) && decide (a0 ≤ 8)) = true
    · rw [if_pos c1,c1,Bool.true_and]
      by_cases c2 : l1.length ≤ 60
      · rw [if_pos (by omega),fvB_eq h2 k (by omega),Option.bind_some,decide_eq_true c2,Bool.true_and]
        by_cases c3 : fatesB l2 = true
        · rw [if_pos c3,fvB_eq h3 k (by omega),Option.bind_some,c3,Bool.true_and]
        · rw [if_neg c3,Bool.eq_false_iff.mpr c3,Bool.false_and]
      · rw [if_neg (by omega),decide_eq_false c2,Bool.false_and]
    · rw [if_neg c1,Bool.eq_false_iff.mpr c1,Bool.false_and]
  | succ d ih =>
    intro i hi k hk
    obtain ⟨k,rfl⟩ : ∃ m,k = m + 1:=⟨k - 1,by omega⟩
    simp only [spec_l5Link.l0]
    have hi2 : i < l1.length:=by omega
    have hr : rd_L4 l1 (i : Int) = l1[i]:=by simp [rd_L4,List.getD_eq_getElem?_getD,hi2]
    rw [if_pos (by omega),if_pos (by omega),hr,List.drop_eq_getElem_cons hi2,List.all_cons]
    by_cases c : l1[i].length ≤ 597
    · rw [if_neg (by omega),wrap_eq (by omega) (by omega),decide_eq_true c,Bool.true_and]
      exact ih (i + 1) (by omega) k (by omega)
    · rw [if_pos (by omega),decide_eq_false c,Bool.false_and,Bool.false_and]
theorem l5l_eq (a0 : Int) (l1 : List (List Int)) (l2 l3 : List Int) (h1 : l1.length ≤ 1099511627776) (h2 : l2.length ≤ 1099511627776) (h3 : l3.length ≤ 1099511627776) (k : Nat) (hk : l1.length + l2.length + l3.length + 1 < k) : spec_l5Link.f k a0 l1 l2 l3 = some (linkB a0 l1 l2 l3 0):=by
  have h:=l5l_l0 a0 l1 l2 l3 h1 h2 h3 (l2.length + l3.length + 1) (by omega) (by omega) l1.length 0 (by omega) k (by omega)
  unfold spec_l5Link.f
  rw [show (0 : Int) = ((0 : Nat) : Int) from rfl,h,List.drop_zero]
  unfold linkB
  cases decide (1 ≤ a0) <;> cases decide (a0 ≤ 8) <;> cases decide (l1.length ≤ 60) <;> cases (l1.all fun x => decide (x.length ≤ 597)) <;> cases fatesB l2 <;> cases fatesB l3 <;> simp
/-- What a run answers. -/
def resL (a0 : Int) (l1 : List (List Int)) (l2 l3 : List Int) (a4 : Int) : LS:=runL a0.toNat l1 l2 l3 a4.toNat startL
theorem runI_yes {a0 : Int} {l1 : List (List Int)} {l2 l3 : List Int} {a4 : Int} (h : linkB a0 l1 l2 l3 a4 = true) (hb : bytesB l1 = true) : impl_RunLink.f a0 l1 l2 l3 a4 = some ((resL a0 l1 l2 l3 a4).got,((resL a0 l1 l2 l3 a4).rounds : Int),((resL a0 l1 l2 l3 a4).so : Int) + ((resL a0 l1 l2 l3 a4).si : Int),decide (l1.length ≤ (resL a0 l1 l2 l3 a4).known),true):=by
  unfold impl_RunLink.f
  rw [if_pos h,if_pos hb]
  rfl
theorem runI_no {a0 : Int} {l1 : List (List Int)} {l2 l3 : List Int} {a4 : Int} (h : linkB a0 l1 l2 l3 a4 = false) : impl_RunLink.f a0 l1 l2 l3 a4 = some ([],0,0,false,false):=by
  unfold impl_RunLink.f
  rw [if_neg (by rw [h];decide)]
theorem run_eq {a0 : Int} {l1 : List (List Int)} {l2 l3 : List Int} {a4 : Int} (hb : bytesB l1 = true) (h1 : l1.length ≤ 1099511627776) (h2 : l2.length ≤ 1099511627776) (h3 : l3.length ≤ 1099511627776) (k : Nat) (hk : l1.length + l2.length + l3.length + 1 < k) : spec_RunLink.f k a0 l1 l2 l3 a4 = impl_RunLink.f a0 l1 l2 l3 a4:=by
  unfold spec_RunLink.f
  rw [l5l_eq a0 l1 l2 l3 h1 h2 h3 k hk,Option.bind_some,specIn,Option.bind_some]
  have hs:=linkB_split a0 a4 l1 l2 l3
  by_cases c1 : linkB a0 l1 l2 l3 0 = true
  · rw [if_pos c1]
    by_cases c2 : (decide (0 ≤ a4) && decide (a4 ≤ 400)) = true
    · rw [if_pos c2]
      have hl : linkB a0 l1 l2 l3 a4 = true:=by rw [hs,c1,c2];rfl
      rw [runI_yes hl hb]
      unfold spec_l5Run.f
      rw [if_pos ⟨hl,hb⟩,Option.bind_some]
      rfl
    · rw [if_neg c2,runI_no (by rw [hs,Bool.eq_false_iff.mpr c2,Bool.and_false])]
  · rw [if_neg c1,runI_no (by rw [hs,Bool.eq_false_iff.mpr c1,Bool.false_and])]
theorem wnT_l0 (l : List (List Int)) (hl : l.length ≤ 1000000) (d : Nat) : ∀ i : Nat,i + d = l.length → ∀ k,d < k → laws_wnTexts.l0 k l l (l.length : Int) (i : Int) = some true:=by
  induction d with
  | zero =>
    intro i hi k hk
    obtain ⟨k,rfl⟩ : ∃ m,k = m + 1:=⟨k - 1,by omega⟩
    simp only [laws_wnTexts.l0]
    rw [if_neg (by omega)]
  | succ d ih =>
    intro i hi k hk
    obtain ⟨k,rfl⟩ : ∃ m,k = m + 1:=⟨k - 1,by omega⟩
    simp only [laws_wnTexts.l0]
    rw [if_pos (by omega),if_pos (by omega),if_pos (by omega),if_pos (by omega),if_pos trivial,wrap_eq (by omega) (by omega)]
    exact ih (i + 1) (by omega) k (by omega)
theorem wnT_refl (l : List (List Int)) (hl : l.length ≤ 1000000) (k : Nat) (hk : l.length < k) : laws_wnTexts.f k l l = some true:=by
  unfold laws_wnTexts.f
  rw [if_pos rfl]
  exact wnT_l0 l hl l.length 0 (by omega) k hk
theorem bytesB_of {l : List (List Int)} (h : ∀ y ∈ l,BytesL y) : bytesB l = true:=bytesB_iff.2 h
/-- How many rounds a link needs. -/
def lrL (a0 : Int) (l1 : List (List Int)) (l2 l3 : List Int) : Int:=if linkB a0 l1 l2 l3 400 = true then (if l1.length ≤ (resL a0 l1 l2 l3 400).known then ((resL a0 l1 l2 l3 400).rounds : Int) else -1) else -1
theorem lrI_eq {a0 : Int} {l1 : List (List Int)} {l2 l3 : List Int} (hb : bytesB l1 = true) : impl_LinkRounds.f a0 l1 l2 l3 = some (lrL a0 l1 l2 l3):=by
  unfold impl_LinkRounds.f lrL
  by_cases h : linkB a0 l1 l2 l3 400 = true
  · rw [runI_yes h hb,Option.bind_some,if_pos h]
    simp only []
    by_cases hd : l1.length ≤ (resL a0 l1 l2 l3 400).known
    · rw [if_pos trivial,if_pos (decide_eq_true hd),if_pos hd]
    · rw [if_pos trivial,if_neg (by rw [decide_eq_false hd];decide),if_neg hd]
  · rw [runI_no (Bool.eq_false_iff.mpr h),Option.bind_some,if_neg h]
    simp
theorem lrS_eq {a0 : Int} {l1 : List (List Int)} {l2 l3 : List Int} (hb : bytesB l1 = true) (h1 : l1.length ≤ 1099511627776) (h2 : l2.length ≤ 1099511627776) (h3 : l3.length ≤ 1099511627776) (k : Nat) (hk : l1.length + l2.length + l3.length + 1 < k) : spec_LinkRounds.f k a0 l1 l2 l3 = some (lrL a0 l1 l2 l3):=by
  unfold spec_LinkRounds.f lrL
  have hs:=linkB_split a0 400 l1 l2 l3
  rw [decide_eq_true (show (0 : Int) ≤ 400 by omega),decide_eq_true (show (400 : Int) ≤ 400 by omega),Bool.and_true,Bool.and_true] at hs
  rw [l5l_eq a0 l1 l2 l3 h1 h2 h3 k hk,Option.bind_some,hs]
  by_cases h : linkB a0 l1 l2 l3 0 = true
  · have hl : linkB a0 l1 l2 l3 400 = true:=by rw [hs];exact h
    rw [if_pos h,if_pos h]
    unfold spec_l5Run.f
    rw [if_pos ⟨hl,hb⟩,Option.bind_some]
    show (if decide (l1.length ≤ (resL a0 l1 l2 l3 400).known) = true then some ((resL a0 l1 l2 l3 400).rounds : Int) else some (-1)) = _
    by_cases hd : l1.length ≤ (resL a0 l1 l2 l3 400).known
    · rw [if_pos (decide_eq_true hd),if_pos hd]
    · rw [if_neg (by rw [decide_eq_false hd];decide),if_neg hd]
  · rw [if_neg h,if_neg h]
theorem linkB_facts {a0 : Int} {l1 : List (List Int)} {l2 l3 : List Int} {a4 : Int} (h : linkB a0 l1 l2 l3 a4 = true) : (1 ≤ a0 ∧ a0 ≤ 8) ∧ l1.length ≤ 60 ∧ (∀ x ∈ l1,x.length ≤ 597) ∧ fatesB l2 = true ∧ fatesB l3 = true ∧ 0 ≤ a4 ∧ a4 ≤ 400:=by
  unfold linkB at h
  simp only [Bool.and_eq_true,decide_eq_true_eq,List.all_eq_true] at h
  obtain ⟨⟨h1,h2⟩,h3,h4,h5,h6,h7,h8⟩:=h
  exact ⟨⟨h1,h2⟩,h3,h4,h5,h6,h7,h8⟩

end Go.Proofs.Ytdpnloibbimblaa.PAll
