/- Proved here: contracts of functions of the given program, or lemmas on them, for the laws of this seat. Written by xprint.py, a program of this session, on the ground of the kit's print; parts by hand: wip/x/ext. -/
import Derived.Test.YtdpnloibbimblaaPAllx0
import Derived.Test.YtdpnloibbimblaaPAllx1
import Derived.Test.YtdpnloibbimblaaPAllx2
import Derived.Test.YtdpnloibbimblaaPAllx3
import Derived.Test.YtdpnloibbimblaaPAllx5
import Derived.Test.YtdpnloibbimblaaPAllx6
namespace Go.Proofs.Ytdpnloibbimblaa.PAll
open Go.RowKit Go.Proofs.YtdpnloibbimblaaW.PrintWords Go.Proofs.YtdpnloibbimblaaW.PrintLast Go.Proofs.YtdpnloibbimblaaW.PrintMore
attribute [local go_sem] max2_int min2_int max_two min_two max_three min_three max_four min_four   -- for this text's walks alone
set_option linter.unusedVariables false
set_option linter.unusedSimpArgs false

-- LIB linklaw
/-- What a run keeps: the receiver has the beginning of the list, and no more than a window beyond what the sender knows. -/
structure InvL (win : Nat) (list : List (List Int)) (s : LS) : Prop where
  pre : s.got = list.take s.got.length
  lo : s.known ≤ s.got.length
  hi : s.got.length ≤ list.length
  wi : s.got.length ≤ s.known + win
theorem take_snocL (list : List (List Int)) (n : Nat) (h : n < list.length) : list.take n ++ [list.getD n []] = list.take (n + 1):=by
  rw [List.take_succ_eq_append_getElem h]
  simp [List.getD_eq_getElem?_getD,h]
theorem takeL_inv (list : List (List Int)) (known m : Nat) (hm : m ≤ 8) (hl : known + m ≤ list.length) (fs : List Int) (r : List Int) (hr : ∀ x ∈ r, 0 ≤ x ∧ x < m) : ∀ g : List (List Int), g = list.take g.length → known ≤ g.length → g.length ≤ known + m →
    takeL list known fs r g = list.take (takeL list known fs r g).length ∧ g.length ≤ (takeL list known fs r g).length ∧ (takeL list known fs r g).length ≤ known + m:=by
  induction r with
  | nil => intro g hg h1 h2;exact ⟨hg,Nat.le_refl _,h2⟩
  | cons x r ih =>
    intro g hg h1 h2
    have hx:=hr x (List.mem_cons_self ..)
    have ih:=ih (fun y hy => hr y (List.mem_cons_of_mem _ hy))
    unfold takeL
    by_cases h4 : fs.getD x.toNat 0 = 4
    · rw [if_pos h4];exact ih g hg h1 h2
    · rw [if_neg h4]
      by_cases h5 : (known + x.toNat) % 16 = g.length % 16
      · rw [if_pos h5]
        have e : known + x.toNat = g.length:=by omega
        rw [e]
        have hs : g ++ [list.getD g.length []] = list.take (g.length + 1):=by
          have:=take_snocL list g.length (by omega)
          rw [← hg] at this
          exact this
        have hln : (g ++ [list.getD g.length []]).length = g.length + 1:=by simp
        obtain ⟨a,b,c⟩:=ih (g ++ [list.getD g.length []]) (by rw [hln];exact hs) (by rw [hln];omega) (by rw [hln];omega)
        rw [hln] at b
        exact ⟨a,by omega,c⟩
      · rw [if_neg h5];exact ih g hg h1 h2
theorem seekF_hit (q : Nat) (t : Nat) (hq : t % 16 = q) (f : Nat) : ∀ k d,k ≤ t → t < k + f → t < k + 16 → seekF q f k d = t:=by
  induction f with
  | zero => intro k d h1 h2;omega
  | succ f ih =>
    intro k d h1 h2 h3
    unfold seekF
    by_cases e : k = t
    · subst e;rw [if_pos hq]
    · rw [if_neg (by omega)]
      exact ih (k + 1) d (by omega) (by omega) (by omega)
theorem seekL_hit {kn win t : Nat} (h1 : kn ≤ t) (h2 : t ≤ kn + win) (hw : win ≤ 8) : seekL kn win (t % 16) = t:=seekF_hit _ t rfl _ kn kn h1 (by omega) (by omega)
theorem hearL_two {kn win t : Nat} (bad : Bool) (h1 : kn ≤ t) (h2 : t ≤ kn + win) (hw : win ≤ 8) (c : Nat) : hearL bad win (t % 16) c kn = kn ∨ hearL bad win (t % 16) c kn = t:=by
  induction c with
  | zero => exact Or.inl rfl
  | succ c ih =>
    rw [hearL_snoc]
    cases bad with
    | true => rw [if_pos rfl];exact ih
    | false =>
      rw [if_neg (by decide)]
      rcases ih with h | h
      · rw [h];exact Or.inr (seekL_hit h1 h2 hw)
      · rw [h];exact Or.inr (seekL_hit (Nat.le_refl t) (by omega) hw)
theorem manyL_le {list : List (List Int)} {win known : Nat} (hw : win ≤ 8) (hk : known < list.length) : manyL list win known ≤ 8 ∧ known + manyL list win known ≤ list.length ∧ known + manyL list win known ≤ known + win:=by
  unfold manyL
  omega
theorem round_inv {win : Nat} {list : List (List Int)} {there back : List Int} {s : LS} (hw : win ≤ 8) (hk : s.known < list.length) (h : InvL win list s) :
    InvL win list (roundL win list there back s) ∧ s.got.length ≤ (roundL win list there back s).got.length ∧ s.known ≤ (roundL win list there back s).known:=by
  obtain ⟨hm1,hm2,hm3⟩:=manyL_le hw hk
  have hgm : s.got.length ≤ s.known + manyL list win s.known:=by
    have a:=h.hi
    have b:=h.wi
    unfold manyL
    omega
  obtain ⟨a,b,c⟩:=takeL_inv list s.known (manyL list win s.known) hm1 hm2 (there.drop s.so) (arrI (there.drop s.so) (manyL list win s.known)) (arrI_in _ _) s.got h.pre h.lo hgm
  have hg : (roundL win list there back s).got = gotL win list there s:=rfl
  have e : takeL list s.known (there.drop s.so) (arrI (there.drop s.so) (manyL list win s.known)) s.got = gotL win list there s:=rfl
  rw [e] at a b c
  have hkn : (roundL win list there back s).known = s.known ∨ (roundL win list there back s).known = (gotL win list there s).length:=hearL_two _ (Nat.le_trans h.lo b) (by omega) hw _
  have hlo:=h.lo
  refine ⟨⟨by rw [hg];exact a,?_,?_,?_⟩,by rw [hg];exact b,?_⟩
  · rw [hg];rcases hkn with k | k <;> rw [k] <;> omega
  · rw [hg];omega
  · rw [hg];rcases hkn with k | k <;> rw [k] <;> omega
  · rcases hkn with k | k <;> rw [k] <;> omega
theorem run_inv {win : Nat} {list : List (List Int)} {there back : List Int} (hw : win ≤ 8) (f : Nat) : ∀ s,InvL win list s → InvL win list (runL win list there back f s) ∧ s.got.length ≤ (runL win list there back f s).got.length ∧ (runL win list there back f s).rounds ≤ s.rounds + f:=by
  induction f with
  | zero => intro s h;exact ⟨h,Nat.le_refl _,Nat.le_refl _⟩
  | succ f ih =>
    intro s h
    rw [runL]
    by_cases hk : s.known < list.length
    · rw [if_pos hk]
      obtain ⟨a,b,_⟩:=round_inv (there:=there) (back:=back) hw hk h
      obtain ⟨a2,b2,c2⟩:=ih _ a
      have hr : (roundL win list there back s).rounds = s.rounds + 1:=rfl
      exact ⟨a2,by omega,by omega⟩
    · rw [if_neg hk];exact ⟨h,Nat.le_refl _,by omega⟩
theorem inv_start (win : Nat) (list : List (List Int)) : InvL win list startL:=⟨by simp [startL],Nat.le_refl _,Nat.zero_le _,Nat.zero_le _⟩

-- LIB linkeq
theorem fvB_l0 (l : List Int) (hl : l.length ≤ 1099511627776) (d : Nat) : ∀ i : Nat,i + d = l.length → ∀ k,d < k → spec_FatesValid.l0 k l (i : Int) = some ((l.drop i).all (fun x => decide (0 ≤ x) && decide (x ≤ 4)) && decide ((l.length : Int) ≤ 200)):=by
  induction d with
  | zero =>
    intro i hi k hk
    obtain ⟨k,rfl⟩ : ∃ m,k = m + 1:=⟨k - 1,by omega⟩
    simp only [spec_FatesValid.l0]
    rw [if_neg (by omega),List.drop_eq_nil_of_le (by omega)]
    rfl
  | succ d ih =>
    intro i hi k hk
    obtain ⟨k,rfl⟩ : ∃ m,k = m + 1:=⟨k - 1,by omega⟩
    simp only [spec_FatesValid.l0]
    have hi2 : i < l.length:=by omega
    rw [if_pos (by omega),if_pos (by omega),rd_get l i hi2,specIn,Option.bind_some,List.drop_eq_getElem_cons hi2,List.all_cons,wrap_eq (by omega) (by omega)]
    by_cases h : (decide (0 ≤ l[i]) && decide (l[i] ≤ 4)) = true
    · rw [if_pos h,h,Bool.true_and]
      exact ih (i + 1) (by omega) k (by omega)
    · rw [if_neg h,Bool.eq_false_iff.mpr h,Bool.false_and,Bool.false_and]
theorem fvB_eq {l : List Int} (hl : l.length ≤ 1099511627776) (k : Nat) (hk : l.length < k) : spec_FatesValid.f k l = some (fatesB l):=by
  have h:=fvB_l0 l hl l.length 0 (by omega) k hk
  unfold spec_FatesValid.f
  rw [show (0 : Int) = ((0 : Nat) : Int) from rfl,h,List.drop_zero]
  unfold fatesB
  rw [Bool.and_comm]
  congr 2
  by_cases h2 : l.length ≤ 200
  · rw [decide_eq_true h2,decide_eq_true (by omega)]
  · rw [decide_eq_false h2,decide_eq_false (by omega)]
theorem linkB_split (a0 a4 : Int) (l1 : List (List Int)) (l2 l3 : List Int) : linkB a0 l1 l2 l3 a4 = (linkB a0 l1 l2 l3 0 && (decide (0 ≤ a4) && decide (a4 ≤ 400))):=by
  unfold linkB
  simp only [Bool.and_assoc]
  cases decide (1 ≤ a0) <;> cases decide (a0 ≤ 8) <;> cases decide (l1.length ≤ 60) <;> cases (l1.all fun x => decide (x.length ≤ 597)) <;> cases fatesB l2 <;> cases fatesB l3 <;> simp
theorem l5l_l0 (a0 : Int) (l1 : List (List Int)) (l2 l3 : List Int) (h1 : l1.length ≤ 1099511627776) (h2 : l2.length ≤ 1099511627776) (h3 : l3.length ≤ 1099511627776) (K : Nat) (hK2 : l2.length < K) (hK3 : l3.length < K) (d : Nat) : ∀ i : Nat, i + d = l1.length → ∀ k, K + d < k →
    spec_l5Link.l0 k a0 l1 l2 l3 (i : Int) = some (((l1.drop i).all fun x => decide (x.length ≤ 597)) && ((decide (1 ≤ a0) && decide (a0 ≤ 8)) && (decide (l1.length ≤ 60) && (fatesB l2 && fatesB l3)))):=by
  induction d with
  | zero =>
    intro i hi k hk
    obtain ⟨k,rfl⟩ : ∃ m,k = m + 1:=⟨k - 1,by omega⟩
    simp only [spec_l5Link.l0]
    rw [if_neg (by omega),List.drop_eq_nil_of_le (by omega),specIn,Option.bind_some,List.all_nil,Bool.true_and]
    by_cases c1 : (decide (1 ≤ a0) && decide (a0 ≤ 8)) = true
    · rw [if_pos c1,c1,Bool.true_and]
      by_cases c2 : l1.length ≤ 60
      · rw [if_pos (by omega),fvB_eq h2 k (by omega),Option.bind_some,decide_eq_true c2,Bool.true_and]
        by_cases c3 : fatesB l2 = true
        · rw [if_pos c3,fvB_eq h3 k (by omega),Option.bind_some,c3,Bool.true_and]
        · rw [if_neg c3,Bool.eq_false_iff.mpr c3,Bool.false_and]
      · rw [if_neg (by omega),decide_eq_false c2,Bool.false_and]
    · rw [if_neg c1,Bool.eq_false_iff.mpr c1,Bool.false_and]
  | succ d ih =>
    intro i hi k hk
    obtain ⟨k,rfl⟩ : ∃ m,k = m + 1:=⟨k - 1,by omega⟩
    simp only [spec_l5Link.l0]
    have hi2 : i < l1.length:=by omega
    have hr : rd_L4 l1 (i : Int) = l1[i]:=by simp [rd_L4,List.getD_eq_getElem?_getD,hi2]
    rw [if_pos (by omega),if_pos (by omega),hr,List.drop_eq_getElem_cons hi2,List.all_cons]
    by_cases c : l1[i].length ≤ 597
    · rw [if_neg (by omega),wrap_eq (by omega) (by omega),decide_eq_true c,Bool.true_and]
      exact ih (i + 1) (by omega) k (by omega)
    · rw [if_pos (by omega),decide_eq_false c,Bool.false_and,Bool.false_and]
theorem l5l_eq (a0 : Int) (l1 : List (List Int)) (l2 l3 : List Int) (h1 : l1.length ≤ 1099511627776) (h2 : l2.length ≤ 1099511627776) (h3 : l3.length ≤ 1099511627776) (k : Nat) (hk : l1.length + l2.length + l3.length + 1 < k) : spec_l5Link.f k a0 l1 l2 l3 = some (linkB a0 l1 l2 l3 0):=by
  have h:=l5l_l0 a0 l1 l2 l3 h1 h2 h3 (l2.length + l3.length + 1) (by omega) (by omega) l1.length 0 (by omega) k (by omega)
  unfold spec_l5Link.f
  rw [show (0 : Int) = ((0 : Nat) : Int) from rfl,h,List.drop_zero]
  unfold linkB
  cases decide (1 ≤ a0) <;> cases decide (a0 ≤ 8) <;> cases decide (l1.length ≤ 60) <;> cases (l1.all fun x => decide (x.length ≤ 597)) <;> cases fatesB l2 <;> cases fatesB l3 <;> simp
/-- What a run answers. -/
def resL (a0 : Int) (l1 : List (List Int)) (l2 l3 : List Int) (a4 : Int) : LS:=runL a0.toNat l1 l2 l3 a4.toNat startL
theorem runI_yes {a0 : Int} {l1 : List (List Int)} {l2 l3 : List Int} {a4 : Int} (h : linkB a0 l1 l2 l3 a4 = true) (hb : bytesB l1 = true) : impl_RunLink.f a0 l1 l2 l3 a4 = some ((resL a0 l1 l2 l3 a4).got,((resL a0 l1 l2 l3 a4).rounds : Int),((resL a0 l1 l2 l3 a4).so : Int) + ((resL a0 l1 l2 l3 a4).si : Int),decide (l1.length ≤ (resL a0 l1 l2 l3 a4).known),true):=by
  unfold impl_RunLink.f
  rw [if_pos h,if_pos hb]
  rfl
theorem runI_no {a0 : Int} {l1 : List (List Int)} {l2 l3 : List Int} {a4 : Int} (h : linkB a0 l1 l2 l3 a4 = false) : impl_RunLink.f a0 l1 l2 l3 a4 = some ([],0,0,false,false):=by
  unfold impl_RunLink.f
  rw [if_neg (by rw [h];decide)]
theorem run_eq {a0 : Int} {l1 : List (List Int)} {l2 l3 : List Int} {a4 : Int} (hb : bytesB l1 = true) (h1 : l1.length ≤ 1099511627776) (h2 : l2.length ≤ 1099511627776) (h3 : l3.length ≤ 1099511627776) (k : Nat) (hk : l1.length + l2.length + l3.length + 1 < k) : spec_RunLink.f k a0 l1 l2 l3 a4 = impl_RunLink.f a0 l1 l2 l3 a4:=by
  unfold spec_RunLink.f
  rw [l5l_eq a0 l1 l2 l3 h1 h2 h3 k hk,Option.bind_some,specIn,Option.bind_some]
  have hs:=linkB_split a0 a4 l1 l2 l3
  by_cases c1 : linkB a0 l1 l2 l3 0 = true
  · rw [if_pos c1]
    by_cases c2 : (decide (0 ≤ a4) && decide (a4 ≤ 400)) = true
    · rw [if_pos c2]
      have hl : linkB a0 l1 l2 l3 a4 = true:=by rw [hs,c1,c2];rfl
      rw [runI_yes hl hb]
      unfold spec_l5Run.f
      rw [if_pos ⟨hl,hb⟩,Option.bind_some]
      rfl
    · rw [if_neg c2,runI_no (by rw [hs,Bool.eq_false_iff.mpr c2,Bool.and_false])]
  · rw [if_neg c1,runI_no (by rw [hs,Bool.eq_false_iff.mpr c1,Bool.false_and])]
theorem bytesB_of {l : List (List Int)} (h : ∀ y ∈ l,BytesL y) : bytesB l = true:=bytesB_iff.2 h
theorem linkB_facts {a0 : Int} {l1 : List (List Int)} {l2 l3 : List Int} {a4 : Int} (h : linkB a0 l1 l2 l3 a4 = true) : (1 ≤ a0 ∧ a0 ≤ 8) ∧ l1.length ≤ 60 ∧ (∀ x ∈ l1,x.length ≤ 597) ∧ fatesB l2 = true ∧ fatesB l3 = true ∧ 0 ≤ a4 ∧ a4 ≤ 400:=by
  unfold linkB at h
  simp only [Bool.and_eq_true,decide_eq_true_eq,List.all_eq_true] at h
  obtain ⟨⟨h1,h2⟩,h3,h4,h5,h6,h7,h8⟩:=h
  exact ⟨⟨h1,h2⟩,h3,h4,h5,h6,h7,h8⟩

-- LIB pints
/-- A copy of a list of numbers is that list. -/
theorem toIntS_at (l : List Int) (hl : l.length ≤ 1048576) (d : Nat) : ∀ (k i : Nat) (x : List Int),i + d = l.length → x.length = l.length → x.take i = l.take i → d < k → laws_toIntS.l0 k l x (i : Int) = some l:=by
  induction d with
  | zero =>
    intro k i x h1 h2 h3 hk
    obtain ⟨k,rfl⟩ : ∃ m,k = m + 1:=⟨k - 1,by omega⟩
    simp only [laws_toIntS.l0]
    rw [if_neg (by omega)]
    have e1 : x.take i = x:=List.take_of_length_le (by omega)
    have e2 : l.take i = l:=List.take_of_length_le (by omega)
    rw [← e1,h3,e2]
  | succ d ih =>
    intro k i x h1 h2 h3 hk
    obtain ⟨k,rfl⟩ : ∃ m,k = m + 1:=⟨k - 1,by omega⟩
    simp only [laws_toIntS.l0]
    rw [if_pos (by omega),if_pos (by omega),if_pos (by omega),wrap_succ (show i < l.length by omega) (by omega),rd_get l i (by omega),Int.toNat_natCast]
    refine ih k (i + 1) (x.set i l[i]) (by omega) (by rw [List.length_set];exact h2) ?_ (by omega)
    rw [List.take_add_one,List.take_add_one,List.take_set,List.getElem?_set_self (by omega),List.getElem?_eq_getElem (by omega),List.set_eq_of_length_le (by rw [List.length_take];omega),h3]
theorem toIntS_eq (l : List Int) (hl : l.length ≤ 1048576) (k : Nat) (hk : l.length < k) : laws_toIntS.f k l = some l:=by
  unfold laws_toIntS.f
  rw [if_pos (by omega),if_pos (by omega)]
  exact toIntS_at l hl l.length k 0 _ (by omega) (by simp) (by simp) hk
theorem eqIntS_at (l : List Int) (hl : l.length ≤ 9223372036854775807) (d : Nat) : ∀ (k i : Nat),i + d = l.length → d < k → laws_eqIntS.l0 k l l (i : Int) = some true:=by
  induction d with
  | zero =>
    intro k i h1 hk
    obtain ⟨k,rfl⟩ : ∃ m,k = m + 1:=⟨k - 1,by omega⟩
    simp only [laws_eqIntS.l0]
    rw [if_neg (by omega)]
  | succ d ih =>
    intro k i h1 hk
    obtain ⟨k,rfl⟩ : ∃ m,k = m + 1:=⟨k - 1,by omega⟩
    simp only [laws_eqIntS.l0]
    rw [if_pos (by omega),if_pos (by omega),if_pos (by omega),if_pos trivial,wrap_succ (show i < l.length by omega) (by omega)]
    exact ih k (i + 1) (by omega) (by omega)
theorem eqIntS_eq (l : List Int) (hl : l.length ≤ 9223372036854775807) (k : Nat) (hk : l.length < k) : laws_eqIntS.f k l l = some true:=by
  unfold laws_eqIntS.f
  rw [if_pos rfl]
  exact eqIntS_at l hl l.length k 0 (by omega) hk

-- LIB pbytess
theorem tbS_at (l : List Int) (hl : l.length ≤ 1048576) (d : Nat) : ∀ (i : Nat) (x : List Int),i + d = l.length → x.length = l.length → x.take i = l.take i → ∀ k,d < k → laws_toByteS.l0 k l x (i : Int) = some l:=by
  induction d with
  | zero =>
    intro i x hi hx he k hk
    obtain ⟨k,rfl⟩ : ∃ m,k = m + 1:=⟨k - 1,by omega⟩
    simp only [laws_toByteS.l0]
    rw [if_neg (by omega)]
    rw [List.take_of_length_le (by omega),List.take_of_length_le (by omega)] at he
    rw [he]
  | succ d ih =>
    intro i x hi hx he k hk
    obtain ⟨k,rfl⟩ : ∃ m,k = m + 1:=⟨k - 1,by omega⟩
    have hi2 : i < l.length:=by omega
    have hi3 : i < x.length:=by omega
    simp only [laws_toByteS.l0]
    rw [if_pos (by omega),if_pos (by omega),if_pos (by omega),Int.toNat_natCast,wrap_eq (by omega) (by omega),rd_get l i hi2]
    refine ih (i + 1) _ (by omega) (by rw [List.length_set];exact hx) ?_ k (by omega)
    rw [List.take_succ_eq_append_getElem hi2,List.take_succ_eq_append_getElem (by rw [List.length_set];exact hi3),List.take_set_of_le (Nat.le_refl i),he,List.getElem_set_self]
theorem tbS_eq (l : List Int) (hl : l.length ≤ 1048576) (k : Nat) (hk : l.length < k) : laws_toByteS.f k l = some l:=by
  unfold laws_toByteS.f
  rw [if_pos (by omega),Int.toNat_natCast,if_pos (by omega)]
  exact tbS_at l hl l.length 0 (List.replicate l.length 0) (by omega) (by simp) (by simp) k hk
theorem tbSS_at (l : List (List Int)) (hl : l.length ≤ 1048576) (hb : ∀ y ∈ l,y.length ≤ 1048576) (d : Nat) : ∀ (i : Nat) (x : List (List Int)),i + d = l.length → x.length = l.length → x.take i = l.take i → ∀ k,1048576 + d < k → laws_toByteSS.l0 k l x (i : Int) = some l:=by
  induction d with
  | zero =>
    intro i x hi hx he k hk
    obtain ⟨k,rfl⟩ : ∃ m,k = m + 1:=⟨k - 1,by omega⟩
    simp only [laws_toByteSS.l0]
    rw [if_neg (by omega)]
    rw [List.take_of_length_le (by omega),List.take_of_length_le (by omega)] at he
    rw [he]
  | succ d ih =>
    intro i x hi hx he k hk
    obtain ⟨k,rfl⟩ : ∃ m,k = m + 1:=⟨k - 1,by omega⟩
    have hi2 : i < l.length:=by omega
    have hi3 : i < x.length:=by omega
    have hr : rd_L4 l (i : Int) = l[i]:=by simp [rd_L4,List.getD_eq_getElem?_getD,hi2]
    have hy:=hb _ (List.getElem_mem hi2)
    simp only [laws_toByteSS.l0]
    rw [if_pos (by omega),if_pos (by omega),hr,tbS_eq _ hy k (by omega),Option.bind_some,if_pos (by omega),Int.toNat_natCast,wrap_eq (by omega) (by omega)]
    refine ih (i + 1) _ (by omega) (by rw [List.length_set];exact hx) ?_ k (by omega)
    rw [List.take_succ_eq_append_getElem hi2,List.take_succ_eq_append_getElem (by rw [List.length_set];exact hi3),List.take_set_of_le (Nat.le_refl i),he,List.getElem_set_self]
theorem tbSS_eq (l : List (List Int)) (hl : l.length ≤ 1048576) (hb : ∀ y ∈ l,y.length ≤ 1048576) (k : Nat) (hk : 3000000 < k) : laws_toByteSS.f k l = some l:=by
  unfold laws_toByteSS.f
  rw [if_pos (by omega),Int.toNat_natCast,if_pos (by omega)]
  exact tbSS_at l hl hb l.length 0 (List.replicate l.length []) (by omega) (by simp) (by simp) k (by omega)
theorem eqS_at (l : List Int) (hl : l.length ≤ 1048576) (d : Nat) : ∀ i : Nat,i + d = l.length → ∀ k,d < k → laws_eqByteS.l0 k l l (i : Int) = some true:=by
  induction d with
  | zero =>
    intro i hi k hk
    obtain ⟨k,rfl⟩ : ∃ m,k = m + 1:=⟨k - 1,by omega⟩
    simp only [laws_eqByteS.l0]
    rw [if_neg (by omega)]
  | succ d ih =>
    intro i hi k hk
    obtain ⟨k,rfl⟩ : ∃ m,k = m + 1:=⟨k - 1,by omega⟩
    simp only [laws_eqByteS.l0]
    rw [if_pos (by omega),if_pos (by omega),if_pos (by omega),if_pos trivial,wrap_eq (by omega) (by omega)]
    exact ih (i + 1) (by omega) k (by omega)
theorem eqS_eq (l : List Int) (hl : l.length ≤ 1048576) (k : Nat) (hk : l.length < k) : laws_eqByteS.f k l l = some true:=by
  unfold laws_eqByteS.f
  rw [if_pos rfl]
  exact eqS_at l hl l.length 0 (by omega) k hk
theorem eqSS_at (l : List (List Int)) (hl : l.length ≤ 1048576) (hb : ∀ y ∈ l,y.length ≤ 1048576) (d : Nat) : ∀ i : Nat,i + d = l.length → ∀ k,1048576 + d < k → laws_eqByteSS.l0 k l l (i : Int) = some true:=by
  induction d with
  | zero =>
    intro i hi k hk
    obtain ⟨k,rfl⟩ : ∃ m,k = m + 1:=⟨k - 1,by omega⟩
    simp only [laws_eqByteSS.l0]
    rw [if_neg (by omega)]
  | succ d ih =>
    intro i hi k hk
    obtain ⟨k,rfl⟩ : ∃ m,k = m + 1:=⟨k - 1,by omega⟩
    have hi2 : i < l.length:=by omega
    have hr : rd_L4 l (i : Int) = l[i]:=by simp [rd_L4,List.getD_eq_getElem?_getD,hi2]
    have hy:=hb _ (List.getElem_mem hi2)
    simp only [laws_eqByteSS.l0]
    rw [if_pos (by omega),if_pos (by omega),if_pos (by omega),hr,eqS_eq _ hy k (by omega),Option.bind_some,if_pos rfl,wrap_eq (by omega) (by omega)]
    exact ih (i + 1) (by omega) k (by omega)
theorem eqSS_eq (l : List (List Int)) (hl : l.length ≤ 1048576) (hb : ∀ y ∈ l,y.length ≤ 1048576) (k : Nat) (hk : 3000000 < k) : laws_eqByteSS.f k l l = some true:=by
  unfold laws_eqByteSS.f
  rw [if_pos rfl]
  exact eqSS_at l hl hb l.length 0 (by omega) k (by omega)
theorem szSS_at (l : List (List Int)) (hm : ∀ y ∈ l,y.length ≤ maxLen) (hl : l.length ≤ 1048576) (d : Nat) : ∀ (i : Nat) (left : Int),i + d = l.length → 0 ≤ left → left ≤ 1048576 → ∃ t,(∀ k,d < k → laws_szByteSS.l0 k l left (i : Int) = some t) ∧ (0 ≤ t → ∀ y ∈ l.drop i,y.length ≤ 1048576):=by
  induction d with
  | zero =>
    intro i left hi h0 h1
    refine ⟨left,fun k hk => ?_,fun _ y hy => ?_⟩
    · obtain ⟨k,rfl⟩ : ∃ m,k = m + 1:=⟨k - 1,by omega⟩
      simp only [laws_szByteSS.l0]
      rw [if_neg (by omega)]
    · rw [List.drop_eq_nil_of_le (by omega)] at hy;simp at hy
  | succ d ih =>
    intro i left hi h0 h1
    have hi2 : i < l.length:=by omega
    have hr : rd_L4 l (i : Int) = l[i]:=by simp [rd_L4,List.getD_eq_getElem?_getD,hi2]
    have hy:=hm _ (List.getElem_mem hi2)
    unfold maxLen at hy
    have hw : wrap64 (left - (l[i].length : Int)) = left - (l[i].length : Int):=wrap_eq (by omega) (by omega)
    by_cases c : left - (l[i].length : Int) < 0
    · refine ⟨-1,fun k hk => ?_,fun h => by omega⟩
      obtain ⟨k,rfl⟩ : ∃ m,k = m + 1:=⟨k - 1,by omega⟩
      simp only [laws_szByteSS.l0]
      unfold laws_szByteS.f
      rw [if_pos (by omega),if_pos (by omega),hr,hw,if_pos c,Option.bind_some,if_pos (by omega)]
    · obtain ⟨t,ht,hq⟩:=ih (i + 1) (left - (l[i].length : Int)) (by omega) (by omega) (by omega)
      refine ⟨t,fun k hk => ?_,fun h y hy2 => ?_⟩
      · obtain ⟨k,rfl⟩ : ∃ m,k = m + 1:=⟨k - 1,by omega⟩
        simp only [laws_szByteSS.l0]
        unfold laws_szByteS.f
        rw [if_pos (by omega),if_pos (by omega),hr,hw,if_neg c,Option.bind_some,if_neg c,wrap_eq (x:=(i : Int) + 1) (by omega) (by omega)]
        exact ht k (by omega)
      · rw [List.drop_eq_getElem_cons hi2] at hy2
        rcases List.mem_cons.1 hy2 with rfl | hy2
        · omega
        · exact hq h y hy2
theorem szSS_eq (l : List (List Int)) (hl : l.length ≤ maxLen) (hm : ∀ y ∈ l,y.length ≤ maxLen) : ∃ t,(∀ k,2000000 < k → laws_szByteSS.f k l 1048576 = some t) ∧ (¬ t < 0 → l.length ≤ 1048576 ∧ ∀ y ∈ l,y.length ≤ 1048576):=by
  unfold maxLen at hl
  have hw : wrap64 (1048576 - (l.length : Int)) = 1048576 - (l.length : Int):=wrap_eq (by omega) (by omega)
  by_cases c : 1048576 - (l.length : Int) < 0
  · refine ⟨-1,fun k hk => ?_,fun h => by omega⟩
    unfold laws_szByteSS.f
    rw [hw,if_pos c]
  · obtain ⟨t,ht,hq⟩:=szSS_at l hm (by omega) l.length 0 (1048576 - (l.length : Int)) (by omega) (by omega) (by omega)
    refine ⟨t,fun k hk => ?_,fun h => ⟨by omega,fun y hy => hq (by omega) y (by simpa using hy)⟩⟩
    unfold laws_szByteSS.f
    rw [hw,if_neg c]
    exact ht k (by omega)
theorem byteWf {l : List (List Int)} (h : ∀ y ∈ l,∀ x ∈ y,(Lit.int .u8 x).wf = true) : ∀ y ∈ l,∀ x ∈ y,0 ≤ x ∧ x < 256:=by
  intro y hy x hx
  have h':=h y hy x hx
  simp [Lit.wf,IntKind.min,IntKind.max,IntKind.signed,IntKind.bits] at h'
  omega

-- LIB pmarkss
theorem heldS_at (n : Nat) (a : Int) (h0 : 0 ≤ a) (hm : a + (n : Int) ≤ 1000000000000) (d : Nat) : ∀ i : Nat,i + d = n → ∀ k,d < k → laws_heldByteS.l0 k (mkB n a) (a + (i : Int)) (i : Int) = some (a + (n : Int)):=by
  induction d with
  | zero =>
    intro i hi k hk
    obtain ⟨k,rfl⟩ : ∃ m,k = m + 1:=⟨k - 1,by omega⟩
    simp only [laws_heldByteS.l0]
    rw [if_neg (by rw [mkB_len];omega),show i = n by omega]
  | succ d ih =>
    intro i hi k hk
    obtain ⟨k,rfl⟩ : ∃ m,k = m + 1:=⟨k - 1,by omega⟩
    simp only [laws_heldByteS.l0]
    have hr : rd (mkB n a) (i : Int) = (a + (i : Int)) % 256:=by
      rw [rd_get _ i (by rw [mkB_len];omega)]
      simp [mkB]
    rw [if_pos (by rw [mkB_len];omega),if_pos (by omega),hr,if_pos rfl,wrap_eq (by omega) (by omega),wrap_eq (by omega) (by omega),show a + (i : Int) + 1 = a + ((i + 1 : Nat) : Int) by omega]
    exact ih (i + 1) (by omega) k (by omega)
theorem heldS_eq (n : Nat) (a : Int) (h0 : 0 ≤ a) (hm : a + (n : Int) ≤ 1000000000000) (k : Nat) (hk : n < k) : laws_heldByteS.f k (mkB n a) a = some (a + (n : Int)):=by
  have h:=heldS_at n a h0 hm n 0 (by omega) k hk
  unfold laws_heldByteS.f
  rw [show a + ((0 : Nat) : Int) = a by omega] at h
  exact h
theorem mkSS_get (l : List (List Int)) (i : Nat) (hi : i < l.length) : ∀ a,(mkSS l a)[i]? = some (mkB l[i].length (mkN (l.take i) a)):=by
  induction l generalizing i with
  | nil => simp at hi
  | cons r l ih =>
    intro a
    cases i with
    | zero => rfl
    | succ i => exact ih i (by simpa using hi) _
theorem heldSS_at (l : List (List Int)) (hl : l.length ≤ 1048576) (a : Int) (h0 : 0 ≤ a) (hm : mkN l a ≤ 1000000000) (K : Nat) (hK : ∀ y ∈ l,y.length < K) (d : Nat) : ∀ i : Nat,i + d = l.length → ∀ k,K + d < k → laws_heldByteSS.l0 k (mkSS l a) (mkN (l.take i) a) (i : Int) = some (mkN l a):=by
  induction d with
  | zero =>
    intro i hi k hk
    obtain ⟨k,rfl⟩ : ∃ m,k = m + 1:=⟨k - 1,by omega⟩
    simp only [laws_heldByteSS.l0]
    rw [if_neg (by rw [mkSS_len];omega),List.take_of_length_le (by omega)]
  | succ d ih =>
    intro i hi k hk
    obtain ⟨k,rfl⟩ : ∃ m,k = m + 1:=⟨k - 1,by omega⟩
    have hi2 : i < l.length:=by omega
    simp only [laws_heldByteSS.l0]
    have hr : rd_L4 (mkSS l a) (i : Int) = mkB l[i].length (mkN (l.take i) a):=by
      unfold rd_L4
      rw [Int.toNat_natCast,List.getD_eq_getElem?_getD,mkSS_get l i hi2]
      rfl
    have h1:=mkN_take l i hi2 a
    have h2:=mkN_le (l.take i) a
    have h3:=hK _ (List.getElem_mem hi2)
    rw [if_pos (by rw [mkSS_len];omega),if_pos (by omega),hr,heldS_eq _ _ (by omega) (by omega) k (by omega),Option.bind_some,if_neg (by omega),wrap_eq (by omega) (by omega)]
    have h:=ih (i + 1) (by omega) k (by omega)
    rw [List.take_succ_eq_append_getElem hi2,mkN_snoc] at h
    exact h
theorem heldSS_eq (l : List (List Int)) (hl : l.length ≤ 1048576) (a : Int) (h0 : 0 ≤ a) (hm : mkN l a ≤ 1000000000) (hK : ∀ y ∈ l,y.length ≤ 1048576) (k : Nat) (hk : 3000000 < k) : laws_heldByteSS.f k (mkSS l a) a = some (mkN l a):=by
  unfold laws_heldByteSS.f
  exact heldSS_at l hl a h0 hm 1048577 (fun y hy => Nat.lt_succ_of_le (hK y hy)) l.length 0 (by omega) k (by omega)
/-- What szByteSS lets through is small enough to be marked. -/
theorem szN_at (l : List (List Int)) (hl : l.length ≤ 1048576) (hm : ∀ y ∈ l,y.length ≤ maxLen) (d : Nat) : ∀ (i : Nat) (left t : Int),i + d = l.length → 0 ≤ left → left ≤ 1048576 → ∀ k,laws_szByteSS.l0 k l left (i : Int) = some t → 0 ≤ t → ∀ a,mkN (l.drop i) a ≤ a + left:=by
  induction d with
  | zero =>
    intro i left t hi h0 h1 k hk ht a
    rw [List.drop_eq_nil_of_le (by omega)]
    unfold mkN
    omega
  | succ d ih =>
    intro i left t hi h0 h1 k hk ht a
    have hi2 : i < l.length:=by omega
    have hr : rd_L4 l (i : Int) = l[i]:=by simp [rd_L4,List.getD_eq_getElem?_getD,hi2]
    have hy:=hm _ (List.getElem_mem hi2)
    unfold maxLen at hy
    have hw : wrap64 (left - (l[i].length : Int)) = left - (l[i].length : Int):=wrap_eq (by omega) (by omega)
    cases k with
    | zero => simp only [laws_szByteSS.l0] at hk;cases hk
    | succ k =>
      simp only [laws_szByteSS.l0] at hk
      unfold laws_szByteS.f at hk
      rw [if_pos (by omega),if_pos (by omega),hr,hw] at hk
      by_cases c : left - (l[i].length : Int) < 0
      · rw [if_pos c,Option.bind_some,if_pos (by omega)] at hk
        have:=Option.some.inj hk
        omega
      · rw [if_neg c,Option.bind_some,if_neg c,wrap_eq (x:=(i : Int) + 1) (by omega) (by omega)] at hk
        have h:=ih (i + 1) (left - (l[i].length : Int)) t (by omega) (by omega) (by omega) k hk ht (a + (l[i].length : Int))
        rw [List.drop_eq_getElem_cons hi2]
        show mkN (l.drop (i + 1)) (a + (l[i].length : Int)) ≤ a + left
        omega
theorem szN_le (l : List (List Int)) (hl : l.length ≤ maxLen) (hm : ∀ y ∈ l,y.length ≤ maxLen) (k : Nat) (t : Int) (h : laws_szByteSS.f k l 1048576 = some t) (ht : 0 ≤ t) (a : Int) : mkN l a ≤ a + 1048576:=by
  unfold maxLen at hl
  have hw : wrap64 (1048576 - (l.length : Int)) = 1048576 - (l.length : Int):=wrap_eq (by omega) (by omega)
  unfold laws_szByteSS.f at h
  rw [hw] at h
  by_cases c : 1048576 - (l.length : Int) < 0
  · rw [if_pos c] at h;have:=Option.some.inj h;omega
  · rw [if_neg c] at h
    have:=szN_at l (by omega) hm l.length 0 (1048576 - (l.length : Int)) t (by omega) (by omega) (by omega) k h ht a
    rw [List.drop_zero] at this
    omega

-- LIB pmarkint
/-- Numbers in a row, from m on. -/
def mkI (m : Int) : Nat → List Int
  | 0 => []
  | n + 1 => m :: mkI (m + 1) n
theorem markInt_at (d : Nat) : ∀ (k i : Nat) (m : Int) (l : List Int),i + d = l.length → l.length ≤ 4611686018427387904 → d < k → 0 ≤ m → m + d ≤ 4611686018427387904 → laws_markIntS.l0 k l m i = some (m + d,l.take i ++ mkI m d):=by
  induction d with
  | zero =>
    intro k i m l h1 hl hk h2 h3
    obtain ⟨k,rfl⟩ : ∃ m,k = m + 1:=⟨k - 1,by omega⟩
    simp only [laws_markIntS.l0]
    have e : l.take i = l:=List.take_of_length_le (by omega)
    rw [if_neg (by omega),e,mkI,List.append_nil,show m + ((0 : Nat) : Int) = m by omega]
  | succ d ih =>
    intro k i m l h1 hl hk h2 h3
    obtain ⟨k,rfl⟩ : ∃ m,k = m + 1:=⟨k - 1,by omega⟩
    simp only [laws_markIntS.l0]
    have e2 : (l.set i m).take (i + 1) = l.take i ++ [m]:=by
      rw [List.take_add_one,List.take_set,List.getElem?_set_self (by omega),List.set_eq_of_length_le (by rw [List.length_take];omega)]
      rfl
    rw [if_pos (by omega),if_pos (by omega),wrap_eq (by omega) (by omega),wrap_succ (show i < l.length by omega) (by omega),Int.toNat_natCast,ih k (i + 1) (m + 1) _ (by rw [List.length_set];omega) (by rw [List.length_set];omega) (by omega) (by omega) (by omega),e2,mkI,List.append_assoc,show m + 1 + (d : Int) = m + ((d + 1 : Nat) : Int) by omega]
    rfl
theorem markInt_eq (l : List Int) (m : Int) (hl : l.length ≤ 2305843009213693952) (h0 : 0 ≤ m) (h1 : m ≤ 2305843009213693952) (k : Nat) (hk : l.length < k) : laws_markIntS.f k l m = some (m + l.length,mkI m l.length) :=
  markInt_at l.length k 0 m l (by omega) (by omega) hk h0 (by omega)

end Go.Proofs.Ytdpnloibbimblaa.PAll
