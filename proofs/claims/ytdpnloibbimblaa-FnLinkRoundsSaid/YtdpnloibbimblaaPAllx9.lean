/- Proved here: contracts of functions of the given program, or lemmas on them, for the laws of this seat. Written by xprint.py, a program of this session, on the ground of the kit's print; parts by hand: wip/x/ext. -/
import Derived.Test.YtdpnloibbimblaaPAllx0
import Derived.Test.YtdpnloibbimblaaPAllx1
import Derived.Test.YtdpnloibbimblaaPAllx2
import Derived.Test.YtdpnloibbimblaaPAllx3
import Derived.Test.YtdpnloibbimblaaPAllx4
import Derived.Test.YtdpnloibbimblaaPAllx6
namespace Go.Proofs.Ytdpnloibbimblaa.PAll
open Go.RowKit Go.Proofs.YtdpnloibbimblaaW.PrintWords Go.Proofs.YtdpnloibbimblaaW.PrintLast Go.Proofs.YtdpnloibbimblaaW.PrintMore
attribute [local go_sem] max2_int min2_int max_two min_two max_three min_three max_four min_four   -- for this text's walks alone
set_option linter.unusedVariables false
set_option linter.unusedSimpArgs false

-- LIB linklaw
/-- What a run keeps: the receiver has the beginning of the list, and no more than a window beyond what the sender knows. -/
structure InvL (win : Nat) (list : List (List Int)) (s : LS) : Prop where
  pre : s.got = list.take s.got.length
  lo : s.known ≤ s.got.length
  hi : s.got.length ≤ list.length
  wi : s.got.length ≤ s.known + win
theorem take_snocL (list : List (List Int)) (n : Nat) (h : n < list.length) : list.take n ++ [list.getD n []] = list.take (n + 1):=by
  rw [List.take_succ_eq_append_getElem h]
  simp [List.getD_eq_getElem?_getD,h]
theorem takeL_inv (list : List (List Int)) (known m : Nat) (hm : m ≤ 8) (hl : known + m ≤ list.length) (fs : List Int) (r : List Int) (hr : ∀ x ∈ r, 0 ≤ x ∧ x < m) : ∀ g : List (List Int), g = list.take g.length → known ≤ g.length → g.length ≤ known + m →
    takeL list known fs r g = list.take (takeL list known fs r g).length ∧ g.length ≤ (takeL list known fs r g).length ∧ (takeL list known fs r g).length ≤ known + m:=by
  induction r with
  | nil => intro g hg h1 h2;exact ⟨hg,Nat.le_refl _,h2⟩
  | cons x r ih =>
    intro g hg h1 h2
    have hx:=hr x (List.mem_cons_self ..)
    have ih:=ih (fun y hy => hr y (List.mem_cons_of_mem _ hy))
    unfold takeL
    by_cases h4 : fs.getD x.toNat 0 = 4
    · rw [if_pos h4];exact ih g hg h1 h2
    · rw [if_neg h4]
      by_cases h5 : (known + x.toNat) % 16 = g.length % 16
      · rw [if_pos h5]
        have e : known + x.toNat = g.length:=by omega
        rw [e]
        have hs : g ++ [list.getD g.length []] = list.take (g.length + 1):=by
          have:=take_snocL list g.length (by omega)
          rw [← hg] at this
          exact this
        have hln : (g ++ [list.getD g.length []]).length = g.length + 1:=by simp
        obtain ⟨a,b,c⟩:=ih (g ++ [list.getD g.length []]) (by rw [hln];exact hs) (by rw [hln];omega) (by rw [hln];omega)
        rw [hln] at b
        exact ⟨a,by omega,c⟩
      · rw [if_neg h5];exact ih g hg h1 h2
theorem seekF_hit (q : Nat) (t : Nat) (hq : t % 16 = q) (f : Nat) : ∀ k d,k ≤ t → t < k + f → t < k + 16 → seekF q f k d = t:=by
  induction f with
  | zero => intro k d h1 h2;omega
  | succ f ih =>
    intro k d h1 h2 h3
    unfold seekF
    by_cases e : k = t
    · subst e;rw [if_pos hq]
    · rw [if_neg (by omega)]
      exact ih (k + 1) d (by omega) (by omega) (by omega)
theorem seekL_hit {kn win t : Nat} (h1 : kn ≤ t) (h2 : t ≤ kn + win) (hw : win ≤ 8) : seekL kn win (t % 16) = t:=seekF_hit _ t rfl _ kn kn h1 (by omega) (by omega)
theorem hearL_two {kn win t : Nat} (bad : Bool) (h1 : kn ≤ t) (h2 : t ≤ kn + win) (hw : win ≤ 8) (c : Nat) : hearL bad win (t % 16) c kn = kn ∨ hearL bad win (t % 16) c kn = t:=by
  induction c with
  | zero => exact Or.inl rfl
  | succ c ih =>
    rw [hearL_snoc]
    cases bad with
    | true => rw [if_pos rfl];exact ih
    | false =>
      rw [if_neg (by decide)]
      rcases ih with h | h
      · rw [h];exact Or.inr (seekL_hit h1 h2 hw)
      · rw [h];exact Or.inr (seekL_hit (Nat.le_refl t) (by omega) hw)
theorem manyL_le {list : List (List Int)} {win known : Nat} (hw : win ≤ 8) (hk : known < list.length) : manyL list win known ≤ 8 ∧ known + manyL list win known ≤ list.length ∧ known + manyL list win known ≤ known + win:=by
  unfold manyL
  omega
theorem round_inv {win : Nat} {list : List (List Int)} {there back : List Int} {s : LS} (hw : win ≤ 8) (hk : s.known < list.length) (h : InvL win list s) :
    InvL win list (roundL win list there back s) ∧ s.got.length ≤ (roundL win list there back s).got.length ∧ s.known ≤ (roundL win list there back s).known:=by
  obtain ⟨hm1,hm2,hm3⟩:=manyL_le hw hk
  have hgm : s.got.length ≤ s.known + manyL list win s.known:=by
    have a:=h.hi
    have b:=h.wi
    unfold manyL
    omega
  obtain ⟨a,b,c⟩:=takeL_inv list s.known (manyL list win s.known) hm1 hm2 (there.drop s.so) (arrI (there.drop s.so) (manyL list win s.known)) (arrI_in _ _) s.got h.pre h.lo hgm
  have hg : (roundL win list there back s).got = gotL win list there s:=rfl
  have e : takeL list s.known (there.drop s.so) (arrI (there.drop s.so) (manyL list win s.known)) s.got = gotL win list there s:=rfl
  rw [e] at a b c
  have hkn : (roundL win list there back s).known = s.known ∨ (roundL win list there back s).known = (gotL win list there s).length:=hearL_two _ (Nat.le_trans h.lo b) (by omega) hw _
  have hlo:=h.lo
  refine ⟨⟨by rw [hg];exact a,?_,?_,?_⟩,by rw [hg];exact b,?_⟩
  · rw [hg];rcases hkn with k | k <;> rw [k] <;> omega
  · rw [hg];omega
  · rw [hg];rcases hkn with k | k <;> rw [k] <;> omega
  · rcases hkn with k | k <;> rw [k] <;> omega
theorem run_inv {win : Nat} {list : List (List Int)} {there back : List Int} (hw : win ≤ 8) (f : Nat) : ∀ s,InvL win list s → InvL win list (runL win list there back f s) ∧ s.got.length ≤ (runL win list there back f s).got.length ∧ (runL win list there back f s).rounds ≤ s.rounds + f:=by
  induction f with
  | zero => intro s h;exact ⟨h,Nat.le_refl _,Nat.le_refl _⟩
  | succ f ih =>
    intro s h
    rw [runL]
    by_cases hk : s.known < list.length
    · rw [if_pos hk]
      obtain ⟨a,b,_⟩:=round_inv (there:=there) (back:=back) hw hk h
      obtain ⟨a2,b2,c2⟩:=ih _ a
      have hr : (roundL win list there back s).rounds = s.rounds + 1:=rfl
      exact ⟨a2,by omega,by omega⟩
    · rw [if_neg hk];exact ⟨h,Nat.le_refl _,by omega⟩
theorem inv_start (win : Nat) (list : List (List Int)) : InvL win list startL:=⟨by simp [startL],Nat.le_refl _,Nat.zero_le _,Nat.zero_le _⟩
theorem run_done {win : Nat} {list : List (List Int)} {there back : List Int} {s : LS} (h : list.length ≤ s.known) (f : Nat) : runL win list there back f s = s:=by
  cases f with
  | zero => rfl
  | succ f => rw [runL,if_neg (by omega)]
theorem run_add {win : Nat} {list : List (List Int)} {there back : List Int} (a b : Nat) : ∀ s,runL win list there back (a + b) s = runL win list there back b (runL win list there back a s):=by
  induction a with
  | zero => intro s;rw [Nat.zero_add];rfl
  | succ a ih =>
    intro s
    rw [Nat.succ_add,runL,runL]
    by_cases hk : s.known < list.length
    · rw [if_pos hk,if_pos hk];exact ih _
    · rw [if_neg hk,if_neg hk,run_done (by omega)]
/-- A run that is not done has used all its rounds. -/
theorem run_rounds {win : Nat} {list : List (List Int)} {there back : List Int} (f : Nat) : ∀ s,(runL win list there back f s).known < list.length → (runL win list there back f s).rounds = s.rounds + f:=by
  induction f with
  | zero => intro s _;rfl
  | succ f ih =>
    intro s h
    rw [runL] at h ⊢
    by_cases hk : s.known < list.length
    · rw [if_pos hk] at h ⊢
      rw [ih _ h]
      show s.rounds + 1 + f = _
      omega
    · rw [if_neg hk] at h;omega
theorem done_got {win : Nat} {list : List (List Int)} {s : LS} (h : InvL win list s) (hd : list.length ≤ s.known) : s.got = list:=by
  have e : s.got.length = list.length:=by have:=h.lo;have:=h.hi;omega
  rw [h.pre,e,List.take_length]
/-! Clear wires -/
theorem arrAll_nil (n : Nat) : arrAll [] n = (List.range n).map fun i : Nat => (2 * (i : Int),(i : Int)):=by
  induction n with
  | zero => rfl
  | succ n ih =>
    rw [arrAll,ih,List.range_succ,List.map_append]
    rfl
theorem arrI_nil (n : Nat) : arrI [] n = (List.range n).map fun i : Nat => (i : Int):=by
  have hs : (arrAll [] n).Pairwise leA:=by
    rw [arrAll_nil,List.pairwise_map]
    refine List.pairwise_lt_range.imp ?_
    intro a b hab
    exact Or.inl (by show (2 * (a : Int)) < 2 * (b : Int);omega)
  unfold arrI
  rw [List.Perm.eq_of_pairwise (fun a b _ _ h1 h2 => leA_anti h1 h2) (outA_sorted _) hs (outA_perm _),arrAll_nil,List.map_map]
  rfl
theorem takeL_clear (list : List (List Int)) (known m : Nat) (hm : m ≤ 8) (d : Nat) : ∀ (j : Nat) (g : List (List Int)), j + d = m → known + j ≤ g.length → g.length ≤ known + m →
    known + m ≤ (takeL list known [] ((List.range' j d).map fun i : Nat => (i : Int)) g).length:=by
  induction d with
  | zero => intro j g hj h1 h2;simp only [List.range'_zero,List.map_nil,takeL];omega
  | succ d ih =>
    intro j g hj h1 h2
    rw [List.range'_succ,List.map_cons]
    unfold takeL
    rw [if_neg (by simp),Int.toNat_natCast]
    by_cases h5 : (known + j) % 16 = g.length % 16
    · rw [if_pos h5]
      exact ih (j + 1) _ (by omega) (by simp;omega) (by simp;omega)
    · rw [if_neg h5]
      exact ih (j + 1) _ (by omega) (by omega) (by omega)
theorem round_clear {win : Nat} {list : List (List Int)} {there back : List Int} {s : LS} (hw : win ≤ 8) (hk : s.known < list.length) (h : InvL win list s) (ht : there.length ≤ s.so) (hb : back.length ≤ s.si) :
    (roundL win list there back s).known = s.known + manyL list win s.known:=by
  obtain ⟨hm1,hm2,hm3⟩:=manyL_le hw hk
  have hgm : s.got.length ≤ s.known + manyL list win s.known:=by
    have a:=h.hi
    have b:=h.wi
    unfold manyL
    omega
  obtain ⟨a,b,c⟩:=takeL_inv list s.known (manyL list win s.known) hm1 hm2 (there.drop s.so) (arrI (there.drop s.so) (manyL list win s.known)) (arrI_in _ _) s.got h.pre h.lo hgm
  have hd : there.drop s.so = []:=List.drop_eq_nil_of_le ht
  have hbd : back.drop s.si = []:=List.drop_eq_nil_of_le hb
  have hlen : (gotL win list there s).length = s.known + manyL list win s.known:=by
    have h1:=takeL_clear list s.known (manyL list win s.known) hm1 (manyL list win s.known) 0 s.got (by omega) (by have:=h.lo;omega) hgm
    unfold gotL
    rw [hd] at c ⊢
    rw [arrI_nil,List.range_eq_range'] at c ⊢
    omega
  show knownL win list there back s = _
  unfold knownL
  rw [hbd,hlen,arrI_nil]
  have e : (([] : List Int).getD 0 0 = 4) = False:=by simp
  simp only [e,decide_false,List.length_map,List.length_range]
  unfold hearL
  rw [if_neg (by decide)]
  unfold hearL
  exact seekL_hit (by omega) (by omega) hw
/-- How many windows are left. -/
def ceilL (n win : Nat) : Nat:=(n + win - 1) / win
theorem ceil_pos {n win : Nat} (hw : 1 ≤ win) (hn : 0 < n) : 1 ≤ ceilL n win:=by
  unfold ceilL
  exact (Nat.le_div_iff_mul_le (by omega)).2 (by omega)
theorem ceil_step {n win : Nat} (hw : 1 ≤ win) (hn : 0 < n) : ceilL (n - min n win) win + 1 = ceilL n win:=by
  unfold ceilL
  by_cases h : n ≤ win
  · rw [Nat.min_eq_left h,Nat.sub_self,Nat.zero_add,Nat.div_eq_of_lt (by omega)]
    symm
    refine (Nat.div_eq_iff (by omega)).2 ?_
    constructor <;> omega
  · rw [Nat.min_eq_right (by omega),show n + win - 1 = (n - win + win - 1) + win from by omega,Nat.add_div_right _ (by omega)]
/-- Over clear wires: what is known, sent and answered. -/
theorem run_clear {win : Nat} {list : List (List Int)} (hw1 : 1 ≤ win) (hw : win ≤ 8) (f : Nat) : ∀ s, InvL win list s → s.known ≤ list.length → s.so = s.known → s.si = s.rounds → ceilL (list.length - s.known) win ≤ f →
    (runL win list [] [] f s).known = list.length ∧ (runL win list [] [] f s).so = list.length ∧ (runL win list [] [] f s).si = (runL win list [] [] f s).rounds ∧ (runL win list [] [] f s).rounds = s.rounds + ceilL (list.length - s.known) win:=by
  induction f with
  | zero =>
    intro s h hkl hso hsi hf
    by_cases hk : s.known < list.length
    · have:=ceil_pos (n:=list.length - s.known) hw1 (by omega)
      omega
    · show s.known = list.length ∧ s.so = list.length ∧ s.si = s.rounds ∧ s.rounds = _
      omega
  | succ f ih =>
    intro s h hkl hso hsi hf
    rw [runL]
    by_cases hk : s.known < list.length
    · rw [if_pos hk]
      obtain ⟨a,_,c⟩:=round_inv (there:=[]) (back:=[]) hw hk h
      have hr : (roundL win list [] [] s).rounds = s.rounds + 1:=rfl
      have hs : (roundL win list [] [] s).so = s.so + manyL list win s.known:=rfl
      have hi : (roundL win list [] [] s).si = s.si + 1:=rfl
      have hcl:=round_clear (there:=[]) (back:=[]) hw hk h (by simp) (by simp)
      have e : list.length - (roundL win list [] [] s).known = (list.length - s.known) - min (list.length - s.known) win:=by rw [hcl];unfold manyL;omega
      have h1:=ceil_step (n:=list.length - s.known) hw1 (by omega)
      have hm:=manyL_le (list:=list) hw hk
      obtain ⟨b1,b2,b3,b4⟩:=ih (roundL win list [] [] s) a (by omega) (by omega) (by omega) (by rw [e];omega)
      rw [e] at b4
      exact ⟨b1,b2,b3,by omega⟩
    · rw [if_neg hk]
      have e : list.length - s.known = 0:=by omega
      rw [e]
      have : ceilL 0 win = 0:=by unfold ceilL;exact Nat.div_eq_of_lt (by omega)
      omega

-- LIB pdraw
/-- What a draw reads: at most 2000 bytes. -/
def Bytes (b : List Int) : Prop:=b.length ≤ 2000 ∧ ∀ x ∈ b,0 ≤ x ∧ x ≤ 255
theorem bits_xor_nonneg (a b : Int) (h1 : 0 ≤ a) (h2 : a < 4611686018427387904) (h3 : 0 ≤ b) (h4 : b < 4611686018427387904) : 0 ≤ Go.bits .xor .i64 a b:=by
  obtain ⟨A,rfl⟩:=Int.eq_ofNat_of_zero_le h1
  obtain ⟨B,rfl⟩:=Int.eq_ofNat_of_zero_le h3
  have hx : A ^^^ B < 2 ^ 62:=Nat.xor_lt_two_pow (by omega) (by omega)
  have eA : (BitVec.ofInt 64 (A : Int)).toNat = A:=by rw [BitVec.ofInt_natCast,BitVec.toNat_ofNat];exact Nat.mod_eq_of_lt (by omega)
  have eB : (BitVec.ofInt 64 (B : Int)).toNat = B:=by rw [BitVec.ofInt_natCast,BitVec.toNat_ofNat];exact Nat.mod_eq_of_lt (by omega)
  show 0 ≤ IntKind.i64.wrap ((BitVec.ofInt 64 (A : Int) ^^^ BitVec.ofInt 64 (B : Int)).toNat : Int)
  rw [BitVec.toNat_xor,eA,eB,IntKind.wrap_i64]
  omega
theorem open_ok (l : List Int) (h : ∀ x ∈ l,(Lit.int .u8 x).wf = true) : ∃ b,spec_l21Open.f l = some (b,0) ∧ Bytes b:=by
  have hb : ∀ x ∈ l,0 ≤ x ∧ x ≤ 255:=by
    intro x hx
    have h':=h x hx
    simp [Lit.wf,IntKind.min,IntKind.max,IntKind.signed,IntKind.bits] at h'
    omega
  unfold spec_l21Open.f
  by_cases hl : (l.length : Int) > 2000
  · rw [if_pos hl,if_pos (by omega)]
    exact ⟨_,rfl,by rw [List.length_take];omega,fun x hx => hb x (List.mem_of_mem_take hx)⟩
  · rw [if_neg hl]
    exact ⟨_,rfl,by omega,hb⟩
theorem rd_mem {b : List Int} {i : Int} (h0 : 0 ≤ i) (h1 : i < b.length) : rd b i ∈ b:=by
  obtain ⟨j,rfl⟩:=Int.eq_ofNat_of_zero_le h0
  rw [rd_get b j (by omega)]
  exact List.getElem_mem _
theorem tmod_range {a n : Int} (h0 : 0 ≤ a) (h1 : 1 ≤ n) : 0 ≤ Int.tmod a n ∧ Int.tmod a n < n:=by
  rw [Int.tmod_eq_emod_of_nonneg h0]
  exact ⟨Int.emod_nonneg _ (by omega),Int.emod_lt_of_pos _ (by omega)⟩
/-- A draw of a number below n. -/
theorem pick_ok {b : List Int} (hb : Bytes b) {p : Int} (n : Int) (h0 : 0 ≤ p) (h1 : p ≤ 1099511627776) :
    ∃ r,0 ≤ r ∧ (1 ≤ n → r < n) ∧ (n < 1 → r = 0) ∧ ∀ k,1 ≤ k → spec_l21Rd_pick.f k b p n = some (r,p + 1):=by
  have e1 : wrap64 (p + 1) = p + 1:=wrap_eq (by omega) (by omega)
  have e2 : wrap64 (p + 1 - 1) = p:=by rw [wrap_eq (by omega) (by omega)];omega
  by_cases hn : n < 1
  · refine ⟨0,by omega,fun h => by omega,fun _ => rfl,fun k hk => ?_⟩
    obtain ⟨k,rfl⟩ : ∃ m,k = m + 1:=⟨k - 1,by omega⟩
    unfold spec_l21Rd_pick.f
    simp only [spec_l21Rd_pick.j0]
    rw [if_pos hn,if_pos trivial,e1]
  by_cases hl : b.length = 0
  · refine ⟨0,by omega,fun h => by omega,fun _ => rfl,fun k hk => ?_⟩
    obtain ⟨k,rfl⟩ : ∃ m,k = m + 1:=⟨k - 1,by omega⟩
    unfold spec_l21Rd_pick.f
    simp only [spec_l21Rd_pick.j0]
    rw [if_neg hn,if_pos (by simp [hl]),e1]
  obtain ⟨hb1,hb2⟩:=hb
  have hl0 : ((b.length : Int) == 0) = false:=beq_eq_false_iff_ne.2 (by omega)
  by_cases hp : p < b.length
  · have hv:=hb2 _ (rd_mem h0 hp)
    have ht:=tmod_range hv.1 (show 1 ≤ n by omega)
    refine ⟨Int.tmod (rd b p) n,ht.1,fun _ => ht.2,fun h => by omega,fun k hk => ?_⟩
    obtain ⟨k,rfl⟩ : ∃ m,k = m + 1:=⟨k - 1,by omega⟩
    unfold spec_l21Rd_pick.f
    simp only [spec_l21Rd_pick.j0]
    rw [if_neg hn,hl0,if_neg (by decide),e1,e2,if_pos hp,if_pos h0,if_neg (by omega),wrap_eq (by omega) (by omega)]
  · have hi1:=tmod_range h0 (show (1 : Int) ≤ b.length by omega)
    have hi2:=tmod_range (show 0 ≤ p * 7 + 3 by omega) (show (1 : Int) ≤ b.length by omega)
    have e3 : wrap64 (wrap64 (p * 7) + 3) = p * 7 + 3:=by rw [wrap_eq (x:=p * 7) (by omega) (by omega),wrap_eq (by omega) (by omega)]
    have hv1:=hb2 _ (rd_mem hi1.1 hi1.2)
    have hv2:=hb2 _ (rd_mem hi2.1 hi2.2)
    have hd : Int.tdiv p b.length = p / b.length:=Int.tdiv_eq_ediv_of_nonneg h0
    have hd0 : 0 ≤ p / (b.length : Int):=Int.ediv_nonneg h0 (by omega)
    have hd1 : p / (b.length : Int) ≤ p:=Int.ediv_le_self _ h0
    generalize hx1 : rd b (Int.tmod p b.length) = v1 at hv1
    generalize hx2 : rd b (Int.tmod (p * 7 + 3) b.length) = v2 at hv2
    generalize hx3 : p / (b.length : Int) = q at hd hd0 hd1
    have e4 : wrap64 (wrap64 (wrap64 (wrap64 (wrap64 v1 * 131) + wrap64 (wrap64 v2 * 1117)) + wrap64 (p * 29)) + wrap64 (wrap64 q * 53)) = v1 * 131 + v2 * 1117 + p * 29 + q * 53:=by
      rw [wrap_eq (x:=v1) (by omega) (by omega),wrap_eq (x:=v2) (by omega) (by omega),wrap_eq (x:=q) (by omega) (by omega),wrap_eq (x:=v1 * 131) (by omega) (by omega),wrap_eq (x:=v2 * 1117) (by omega) (by omega),wrap_eq (x:=p * 29) (by omega) (by omega),wrap_eq (x:=q * 53) (by omega) (by omega),wrap_eq (x:=v1 * 131 + v2 * 1117) (by omega) (by omega),wrap_eq (x:=v1 * 131 + v2 * 1117 + p * 29) (by omega) (by omega),wrap_eq (by omega) (by omega)]
    have hX : 0 ≤ v1 * 131 + v2 * 1117 + p * 29 + q * 53 ∧ v1 * 131 + v2 * 1117 + p * 29 + q * 53 ≤ 4000000000000000:=by omega
    generalize v1 * 131 + v2 * 1117 + p * 29 + q * 53 = X at e4 hX
    have hY : Int.tdiv X 64 = X / 64:=Int.tdiv_eq_ediv_of_nonneg hX.1
    have e5 : wrap64 (X / 64) = X / 64:=wrap_eq (by omega) (by omega)
    have hZ:=bits_xor_nonneg X (X / 64) hX.1 (by omega) (by omega) (by omega)
    have ht:=tmod_range hZ (show 1 ≤ n by omega)
    refine ⟨Int.tmod (Go.bits .xor .i64 X (X / 64)) n,ht.1,fun _ => ht.2,fun h => by omega,fun k hk => ?_⟩
    obtain ⟨k,rfl⟩ : ∃ m,k = m + 1:=⟨k - 1,by omega⟩
    unfold spec_l21Rd_pick.f
    simp only [spec_l21Rd_pick.j0]
    rw [if_neg hn,hl0,if_neg (by decide),e1,e2,e3,if_neg hp,if_neg (by omega),if_pos hi1.1,if_pos hi1.2,if_pos hi2.1,if_pos hi2.2,if_neg (by omega),hx1,hx2,hd,e4,hY,e5]
/-- A draw of one of a list's numbers. -/
theorem num_ok {b : List Int} (hb : Bytes b) {p : Int} (l : List Int) (h0 : 0 ≤ p) (h1 : p ≤ 1099511627776) (hl : 0 < l.length) :
    ∃ x,x ∈ l ∧ ∀ k,1 ≤ k → spec_l21Rd_num.f k b p l = some (x,p + 1):=by
  obtain ⟨r,hr0,hr1,_,hr⟩:=pick_ok hb (l.length : Int) h0 h1
  have hr2:=hr1 (by omega)
  refine ⟨rd l r,rd_mem hr0 hr2,fun k hk => ?_⟩
  unfold spec_l21Rd_num.f
  rw [hr k hk,Option.bind_some]
  simp only []
  rw [if_pos hr0,if_pos hr2]

-- LIB linkdraw
theorem l1s_at {b : List Int} (hb : Bytes b) (n : Nat) (d : Nat) : ∀ (i : Nat) (x : List Int) (p : Int), i + d = n → n ≤ 1000 → 0 ≤ p → p + 2 * d ≤ 1000000 → BytesL x → x.length + d ≤ 100000 →
    ∃ x' p',BytesL x' ∧ x'.length = x.length + d ∧ p ≤ p' ∧ p' ≤ p + 2 * d ∧ ∀ k,d + 2 < k → spec_l1Some.l0 k (n : Int) x (i : Int) b p = some (x',p'):=by
  induction d with
  | zero =>
    intro i x p hi hn hp0 hp1 hx hl
    refine ⟨x,p,hx,rfl,Int.le_refl _,by omega,fun k hk => ?_⟩
    obtain ⟨k,rfl⟩ : ∃ m,k = m + 1:=⟨k - 1,by omega⟩
    simp only [spec_l1Some.l0]
    rw [if_neg (by omega)]
  | succ d ih =>
    intro i x p hi hn hp0 hp1 hx hl
    obtain ⟨r1,q1,q2,_,e1⟩:=pick_ok hb 4 hp0 (by omega)
    have hb1 : ∀ y : Int,BytesL (x ++ [y % 256]):=by
      intro y z hz
      rcases List.mem_append.1 hz with hz | hz
      · exact hx z hz
      · rw [List.mem_singleton.1 hz];omega
    by_cases h0 : r1 = 0
    · obtain ⟨r2,_,e2⟩:=num_ok hb [0,1,125,126,127,128,255,94,93] (show 0 ≤ p + 1 by omega) (by omega) (by simp)
      obtain ⟨x',p',a1,a2,a3,a4,a5⟩:=ih (i + 1) (x ++ [r2 % 256]) (p + 1 + 1) (by omega) hn (by omega) (by omega) (hb1 r2) (by simp;omega)
      simp only [List.length_append,List.length_singleton] at a2
      refine ⟨x',p',a1,by omega,by omega,by omega,fun k hk => ?_⟩
      obtain ⟨k,rfl⟩ : ∃ m,k = m + 1:=⟨k - 1,by omega⟩
      simp only [spec_l1Some.l0]
      rw [if_pos (by omega),e1 k (by omega),Option.bind_some,if_pos h0,e2 k (by omega),Option.bind_some,if_pos (by omega),wrap_eq (x:=(i : Int) + 1) (by omega) (by omega)]
      exact a5 k (by omega)
    · obtain ⟨r2,_,_,_,e2⟩:=pick_ok hb 256 (show 0 ≤ p + 1 by omega) (by omega)
      obtain ⟨x',p',a1,a2,a3,a4,a5⟩:=ih (i + 1) (x ++ [r2 % 256]) (p + 1 + 1) (by omega) hn (by omega) (by omega) (hb1 r2) (by simp;omega)
      simp only [List.length_append,List.length_singleton] at a2
      refine ⟨x',p',a1,by omega,by omega,by omega,fun k hk => ?_⟩
      obtain ⟨k,rfl⟩ : ∃ m,k = m + 1:=⟨k - 1,by omega⟩
      simp only [spec_l1Some.l0]
      rw [if_pos (by omega),e1 k (by omega),Option.bind_some,if_neg h0,e2 k (by omega),Option.bind_some,if_pos (by omega),wrap_eq (x:=(i : Int) + 1) (by omega) (by omega)]
      exact a5 k (by omega)
theorem l4s_at {b : List Int} (hb : Bytes b) (d : Nat) : ∀ (x : List (List Int)) (p : Int), d ≤ 100 → 0 ≤ p → p + 9 * d ≤ 100000 → (∀ y ∈ x, BytesL y) → x.length + d ≤ 1000 →
    ∃ x' p',(∀ y ∈ x',BytesL y) ∧ x'.length = x.length + d ∧ p ≤ p' ∧ p' ≤ p + 9 * d ∧ ∀ k,d + 20 < k → spec_l4Sent.l0 k x (d : Int) b p = some (x',p'):=by
  induction d with
  | zero =>
    intro x p hd hp0 hp1 hx hl
    refine ⟨x,p,hx,rfl,Int.le_refl _,by omega,fun k hk => ?_⟩
    obtain ⟨k,rfl⟩ : ∃ m,k = m + 1:=⟨k - 1,by omega⟩
    simp only [spec_l4Sent.l0]
    rw [if_neg (by omega)]
  | succ d ih =>
    intro x p hd hp0 hp1 hx hl
    obtain ⟨n,hn,e1⟩:=num_ok hb [1,2,0,4] hp0 (by omega) (by simp)
    have hn2 : 0 ≤ n ∧ n ≤ 4:=by simp at hn;omega
    obtain ⟨N,rfl⟩:=Int.eq_ofNat_of_zero_le hn2.1
    obtain ⟨y,p1,b1,b2,b3,b4,b5⟩:=l1s_at hb N N 0 [] (p + 1) (by omega) (by omega) (by omega) (by omega) (fun z hz => by simp at hz) (by simp;omega)
    obtain ⟨x',p',a1,a2,a3,a4,a5⟩:=ih (x ++ [y]) p1 (by omega) (by omega) (by omega) (fun z hz => by
      rcases List.mem_append.1 hz with hz | hz
      · exact hx z hz
      · rw [List.mem_singleton.1 hz];exact b1) (by simp;omega)
    simp only [List.length_append,List.length_singleton] at a2
    refine ⟨x',p',a1,by omega,by omega,by omega,fun k hk => ?_⟩
    obtain ⟨k,rfl⟩ : ∃ m,k = m + 1:=⟨k - 1,by omega⟩
    simp only [spec_l4Sent.l0]
    have b6 : spec_l1Some.f k b (p + 1) (N : Int) = some (y,p1):=by
      have:=b5 k (by omega)
      unfold spec_l1Some.f
      exact this
    rw [if_pos (by omega),e1 k (by omega),Option.bind_some,b6,Option.bind_some,if_pos (by omega),wrap_eq (x:=((d + 1 : Nat) : Int) - 1) (by omega) (by omega),show ((d + 1 : Nat) : Int) - 1 = (d : Int) by omega]
    exact a5 k (by omega)
theorem sent_ok {b : List Int} (hb : Bytes b) {p : Int} (h0 : 0 ≤ p) (h1 : p ≤ 10000) : ∃ x p',(∀ y ∈ x,BytesL y) ∧ x.length ≤ 14 ∧ p ≤ p' ∧ p' ≤ p + 200 ∧ ∀ k,100 < k → spec_l4Sent.f k b p = some (x,p'):=by
  obtain ⟨n,hn,e1⟩:=num_ok hb [3,5,0,8,1,14] h0 (by omega) (by simp)
  have hn2 : 0 ≤ n ∧ n ≤ 14:=by simp at hn;omega
  obtain ⟨N,rfl⟩:=Int.eq_ofNat_of_zero_le hn2.1
  obtain ⟨x',p',a1,a2,a3,a4,a5⟩:=l4s_at hb N [] (p + 1) (by omega) (by omega) (by omega) (fun z hz => by simp at hz) (by simp;omega)
  refine ⟨x',p',a1,by simp at a2;omega,by omega,by omega,fun k hk => ?_⟩
  unfold spec_l4Sent.f
  rw [e1 k (by omega),Option.bind_some]
  exact a5 k (by omega)
theorem l4f_at {b : List Int} (hb : Bytes b) (bad : Int) (d : Nat) : ∀ (x : List Int) (p : Int), d ≤ 100 → 0 ≤ p → p + 2 * d ≤ 100000 → x.length + d ≤ 1000 →
    ∃ x' p',x'.length = x.length + d ∧ p ≤ p' ∧ p' ≤ p + 2 * d ∧ ∀ k,d + 2 < k → spec_l4Fates.l0 k x bad (d : Int) b p = some (x',p'):=by
  induction d with
  | zero =>
    intro x p hd hp0 hp1 hl
    refine ⟨x,p,rfl,Int.le_refl _,by omega,fun k hk => ?_⟩
    obtain ⟨k,rfl⟩ : ∃ m,k = m + 1:=⟨k - 1,by omega⟩
    simp only [spec_l4Fates.l0]
    rw [if_neg (by omega)]
  | succ d ih =>
    intro x p hd hp0 hp1 hl
    obtain ⟨r1,_,_,_,e1⟩:=pick_ok hb bad hp0 (by omega)
    by_cases h0 : r1 = 0
    · obtain ⟨r2,_,_,_,e2⟩:=pick_ok hb 5 (show 0 ≤ p + 1 by omega) (by omega)
      obtain ⟨x',p',a2,a3,a4,a5⟩:=ih (x ++ [r2]) (p + 1 + 1) (by omega) (by omega) (by omega) (by simp;omega)
      simp only [List.length_append,List.length_singleton] at a2
      refine ⟨x',p',by omega,by omega,by omega,fun k hk => ?_⟩
      obtain ⟨k,rfl⟩ : ∃ m,k = m + 1:=⟨k - 1,by omega⟩
      simp only [spec_l4Fates.l0]
      rw [if_pos (by omega),e1 k (by omega),Option.bind_some,if_pos h0,e2 k (by omega),Option.bind_some,if_pos (by omega),wrap_eq (x:=((d + 1 : Nat) : Int) - 1) (by omega) (by omega),show ((d + 1 : Nat) : Int) - 1 = (d : Int) by omega]
      exact a5 k (by omega)
    · obtain ⟨x',p',a2,a3,a4,a5⟩:=ih (x ++ [0]) (p + 1) (by omega) (by omega) (by omega) (by simp;omega)
      simp only [List.length_append,List.length_singleton] at a2
      refine ⟨x',p',by omega,by omega,by omega,fun k hk => ?_⟩
      obtain ⟨k,rfl⟩ : ∃ m,k = m + 1:=⟨k - 1,by omega⟩
      simp only [spec_l4Fates.l0]
      rw [if_pos (by omega),e1 k (by omega),Option.bind_some,if_neg h0,if_pos (by omega),wrap_eq (x:=((d + 1 : Nat) : Int) - 1) (by omega) (by omega),show ((d + 1 : Nat) : Int) - 1 = (d : Int) by omega]
      exact a5 k (by omega)
theorem fates_ok {b : List Int} (hb : Bytes b) {p : Int} (h0 : 0 ≤ p) (h1 : p ≤ 10000) : ∃ x p',x.length ≤ 30 ∧ p ≤ p' ∧ p' ≤ p + 100 ∧ ∀ k,100 < k → spec_l4Fates.f k b p = some (x,p'):=by
  obtain ⟨bad,_,e0⟩:=num_ok hb [2,1,3,8] h0 (by omega) (by simp)
  obtain ⟨n,hn,e1⟩:=num_ok hb [6,0,12,3,30] (show 0 ≤ p + 1 by omega) (by omega) (by simp)
  have hn2 : 0 ≤ n ∧ n ≤ 30:=by simp at hn;omega
  obtain ⟨N,rfl⟩:=Int.eq_ofNat_of_zero_le hn2.1
  obtain ⟨x',p',a2,a3,a4,a5⟩:=l4f_at hb bad N [] (p + 1 + 1) (by omega) (by omega) (by omega) (by simp;omega)
  refine ⟨x',p',by simp at a2;omega,by omega,by omega,fun k hk => ?_⟩
  unfold spec_l4Fates.f
  rw [e0 k (by omega),Option.bind_some,e1 k (by omega),Option.bind_some]
  exact a5 k (by omega)
/-- What l5Draw draws. -/
theorem l5d_ok {b : List Int} (hb : Bytes b) {p : Int} (h0 : 0 ≤ p) (h1 : p ≤ 1000) : ∃ (w : Int) (x : List (List Int)) (f g : List Int) (p' : Int),(∀ y ∈ x,BytesL y) ∧ x.length ≤ 15 ∧ f.length ≤ 31 ∧ g.length ≤ 31 ∧ 0 ≤ p' ∧ p' ≤ p + 1000 ∧ ∀ k,100 < k → spec_l5Draw.f k b p = some (w,x,f,g,p'):=by
  obtain ⟨x,p1,a1,a2,a3,a4,a5⟩:=sent_ok hb h0 (by omega)
  obtain ⟨w,_,e1⟩:=num_ok hb [4,1,2,8,3] (show 0 ≤ p1 by omega) (by omega) (by simp)
  obtain ⟨f,p2,f1,f2,f3,f4⟩:=fates_ok hb (show 0 ≤ p1 + 1 by omega) (by omega)
  obtain ⟨g,p3,g1,g2,g3,g4⟩:=fates_ok hb (show 0 ≤ p2 by omega) (by omega)
  obtain ⟨r,_,_,_,e2⟩:=pick_ok hb 48 (show 0 ≤ p3 by omega) (by omega)
  obtain ⟨w2,_,e3⟩:=num_ok hb [0,9] (show 0 ≤ p3 + 1 by omega) (by omega) (by simp)
  by_cases h : r = 0
  · refine ⟨w2,x,f,g,p3 + 1 + 1,a1,by omega,by omega,by omega,by omega,by omega,fun k hk => ?_⟩
    unfold spec_l5Draw.f
    rw [a5 k hk,Option.bind_some,e1 k (by omega),Option.bind_some,f4 k hk,Option.bind_some,g4 k hk,Option.bind_some,e2 k (by omega),Option.bind_some,if_pos h,e3 k (by omega),Option.bind_some]
  · by_cases h2 : r = 1
    · refine ⟨w,x ++ [List.replicate 598 0],f,g,p3 + 1,?_,by rw [List.length_append];show _ + 1 ≤ _;omega,by omega,by omega,by omega,by omega,fun k hk => ?_⟩
      · intro y hy
        rcases List.mem_append.1 hy with hy | hy
        · exact a1 y hy
        · rw [List.mem_singleton.1 hy]
          intro z hz
          rw [(List.mem_replicate.1 hz).2]
          omega
      · unfold spec_l5Draw.f
        rw [a5 k hk,Option.bind_some,e1 k (by omega),Option.bind_some,f4 k hk,Option.bind_some,g4 k hk,Option.bind_some,e2 k (by omega),Option.bind_some,if_neg h,if_pos h2,if_pos (by omega),if_pos (by show x.length < 5864062014805;omega)]
    · by_cases h3 : r = 2
      · refine ⟨w,x,f ++ [7],g,p3 + 1,a1,by omega,by simp;omega,by omega,by omega,by omega,fun k hk => ?_⟩
        unfold spec_l5Draw.f
        rw [a5 k hk,Option.bind_some,e1 k (by omega),Option.bind_some,f4 k hk,Option.bind_some,g4 k hk,Option.bind_some,e2 k (by omega),Option.bind_some,if_neg h,if_neg h2,if_pos h3,if_pos (by show f.length < 17592186044416;omega)]
      · by_cases h4 : r = 3
        · refine ⟨w,x,f,g ++ [-1],p3 + 1,a1,by omega,by omega,by simp;omega,by omega,by omega,fun k hk => ?_⟩
          unfold spec_l5Draw.f
          rw [a5 k hk,Option.bind_some,e1 k (by omega),Option.bind_some,f4 k hk,Option.bind_some,g4 k hk,Option.bind_some,e2 k (by omega),Option.bind_some,if_neg h,if_neg h2,if_neg h3,if_pos h4,if_pos (by show g.length < 17592186044416;omega)]
        · refine ⟨w,x,f,g,p3 + 1,a1,by omega,by omega,by omega,by omega,by omega,fun k hk => ?_⟩
          unfold spec_l5Draw.f
          rw [a5 k hk,Option.bind_some,e1 k (by omega),Option.bind_some,f4 k hk,Option.bind_some,g4 k hk,Option.bind_some,e2 k (by omega),Option.bind_some,if_neg h,if_neg h2,if_neg h3,if_neg h4]
theorem drawRounds_ok (l : List Int) (h : ∀ x ∈ l,(Lit.int .u8 x).wf = true) : ∃ (w : Int) (x : List (List Int)) (f g : List Int),(∀ y ∈ x,BytesL y) ∧ x.length ≤ 15 ∧ f.length ≤ 31 ∧ g.length ≤ 31 ∧ ∀ k,100 < k → spec_DrawLinkRounds.f k l = some (w,x,f,g):=by
  obtain ⟨b,e0,hb⟩:=open_ok l h
  obtain ⟨w,x,f,g,p,a1,a2,a3,a4,a5,a6,a7⟩:=l5d_ok hb (show (0 : Int) ≤ 0 by omega) (by omega)
  refine ⟨w,x,f,g,a1,a2,a3,a4,fun k hk => ?_⟩
  unfold spec_DrawLinkRounds.f
  rw [e0,Option.bind_some,a7 k hk,Option.bind_some]

-- LIB linkeq
theorem fvB_l0 (l : List Int) (hl : l.length ≤ 1099511627776) (d : Nat) : ∀ i : Nat,i + d = l.length → ∀ k,d < k → spec_FatesValid.l0 k l (i : Int) = some ((l.drop i).all (fun x => decide (0 ≤ x) && decide (x ≤ 4)) && decide ((l.length : Int) ≤ 200)):=by
  induction d with
  | zero =>
    intro i hi k hk
    obtain ⟨k,rfl⟩ : ∃ m,k = m + 1:=⟨k - 1,by omega⟩
    simp only [spec_FatesValid.l0]
    rw [if_neg (by omega),List.drop_eq_nil_of_le (by omega)]
    rfl
  | succ d ih =>
    intro i hi k hk
    obtain ⟨k,rfl⟩ : ∃ m,k = m + 1:=⟨k - 1,by omega⟩
    simp only [spec_FatesValid.l0]
    have hi2 : i < l.length:=by omega
    rw [if_pos (by omega),if_pos (by omega),rd_get l i hi2,specIn,Option.bind_some,List.drop_eq_getElem_cons hi2,List.all_cons,wrap_eq (by omega) (by omega)]
    by_cases h : (decide (0 ≤ l[i]) && decide (l[i] ≤ 4)) = true
    · rw [if_pos h,h,Bool.true_and]
      exact ih (i + 1) (by omega) k (by omega)
    · rw [if_neg h,Bool.eq_false_iff.mpr h,Bool.false_and,Bool.false_and]
theorem fvB_eq {l : List Int} (hl : l.length ≤ 1099511627776) (k : Nat) (hk : l.length < k) : spec_FatesValid.f k l = some (fatesB l):=by
  have h:=fvB_l0 l hl l.length 0 (by omega) k hk
  unfold spec_FatesValid.f
  rw [show (0 : Int) = ((0 : Nat) : Int) from rfl,h,List.drop_zero]
  unfold fatesB
  rw [Bool.and_comm]
  congr 2
  by_cases h2 : l.length ≤ 200
  · rw [decide_eq_true h2,decide_eq_true (by omega)]
  · rw [decide_eq_false h2,decide_eq_false (by omega)]
theorem linkB_split (a0 a4 : Int) (l1 : List (List Int)) (l2 l3 : List Int) : linkB a0 l1 l2 l3 a4 = (linkB a0 l1 l2 l3 0 && (decide (0 ≤ a4) && decide (a4 ≤ 400))):=by
  unfold linkB
  simp only [Bool.and_assoc]
  cases decide (1 ≤ a0) <;> cases decide (a0 ≤ 8) <;> cases decide (l1.length ≤ 60) <;> cases (l1.all fun x => decide (x.length ≤ 597)) <;> cases fatesB l2 <;> cases fatesB l3 <;> simp
theorem l5l_l0 (a0 : Int) (l1 : List (List Int)) (l2 l3 : List Int) (h1 : l1.length ≤ 1099511627776) (h2 : l2.length ≤ 1099511627776) (h3 : l3.length ≤ 1099511627776) (K : Nat) (hK2 : l2.length < K) (hK3 : l3.length < K) (d : Nat) : ∀ i : Nat, i + d = l1.length → ∀ k, K + d < k →
    spec_l5Link.l0 k a0 l1 l2 l3 (i : Int) = some (((l1.drop i).all fun x => decide (x.length ≤ 597)) && ((decide (1 ≤ a0) && decide (a0 ≤ 8)) && (decide (l1.length ≤ 60) && (fatesB l2 && fatesB l3)))):=by
  induction d with
  | zero =>
    intro i hi k hk
    obtain ⟨k,rfl⟩ : ∃ m,k = m + 1:=⟨k - 1,by omega⟩
    simp only [spec_l5Link.l0]
    rw [if_neg (by omega),List.drop_eq_nil_of_le (by omega),specIn,Option.bind_some,List.all_nil,Bool.true_and]
    by_cases c1 : (decide (1 ≤ a0) && decide (a0 ≤ 8)) = true
    · rw [if_pos c1,c1,Bool.true_and]
      by_cases c2 : l1.length ≤ 60
      · rw [if_pos (by omega),fvB_eq h2 k (by omega),Option.bind_some,decide_eq_true c2,Bool.true_and]
        by_cases c3 : fatesB l2 = true
        · rw [if_pos c3,fvB_eq h3 k (by omega),Option.bind_some,c3,Bool.true_and]
        · rw [if_neg c3,Bool.eq_false_iff.mpr c3,Bool.false_and]
      · rw [if_neg (by omega),decide_eq_false c2,Bool.false_and]
    · rw [if_neg c1,Bool.eq_false_iff.mpr c1,Bool.false_and]
  | succ d ih =>
    intro i hi k hk
    obtain ⟨k,rfl⟩ : ∃ m,k = m + 1:=⟨k - 1,by omega⟩
    simp only [spec_l5Link.l0]
    have hi2 : i < l1.length:=by omega
    have hr : rd_L2 l1 (i : Int) = l1[i]:=by simp [rd_L2,List.getD_eq_getElem?_getD,hi2]
    rw [if_pos (by omega),if_pos (by omega),hr,List.drop_eq_getElem_cons hi2,List.all_cons]
    by_cases c : l1[i].length ≤ 597
    · rw [if_neg (by omega),wrap_eq (by omega) (by omega),decide_eq_true c,Bool.true_and]
      exact ih (i + 1) (by omega) k (by omega)
    · rw [if_pos (by omega),decide_eq_false c,Bool.false_and,Bool.false_and]
theorem l5l_eq (a0 : Int) (l1 : List (List Int)) (l2 l3 : List Int) (h1 : l1.length ≤ 1099511627776) (h2 : l2.length ≤ 1099511627776) (h3 : l3.length ≤ 1099511627776) (k : Nat) (hk : l1.length + l2.length + l3.length + 1 < k) : spec_l5Link.f k a0 l1 l2 l3 = some (linkB a0 l1 l2 l3 0):=by
  have h:=l5l_l0 a0 l1 l2 l3 h1 h2 h3 (l2.length + l3.length + 1) (by omega) (by omega) l1.length 0 (by omega) k (by omega)
  unfold spec_l5Link.f
  rw [show (0 : Int) = ((0 : Nat) : Int) from rfl,h,List.drop_zero]
  unfold linkB
  cases decide (1 ≤ a0) <;> cases decide (a0 ≤ 8) <;> cases decide (l1.length ≤ 60) <;> cases (l1.all fun x => decide (x.length ≤ 597)) <;> cases fatesB l2 <;> cases fatesB l3 <;> simp
/-- What a run answers. -/
def resL (a0 : Int) (l1 : List (List Int)) (l2 l3 : List Int) (a4 : Int) : LS:=runL a0.toNat l1 l2 l3 a4.toNat startL
theorem runI_yes {a0 : Int} {l1 : List (List Int)} {l2 l3 : List Int} {a4 : Int} (h : linkB a0 l1 l2 l3 a4 = true) (hb : bytesB l1 = true) : impl_RunLink.f a0 l1 l2 l3 a4 = some ((resL a0 l1 l2 l3 a4).got,((resL a0 l1 l2 l3 a4).rounds : Int),((resL a0 l1 l2 l3 a4).so : Int) + ((resL a0 l1 l2 l3 a4).si : Int),decide (l1.length ≤ (resL a0 l1 l2 l3 a4).known),true):=by
  unfold impl_RunLink.f
  rw [if_pos h,if_pos hb]
  rfl
theorem runI_no {a0 : Int} {l1 : List (List Int)} {l2 l3 : List Int} {a4 : Int} (h : linkB a0 l1 l2 l3 a4 = false) : impl_RunLink.f a0 l1 l2 l3 a4 = some ([],0,0,false,false):=by
  unfold impl_RunLink.f
  rw [if_neg (by rw [h];decide)]
theorem run_eq {a0 : Int} {l1 : List (List Int)} {l2 l3 : List Int} {a4 : Int} (hb : bytesB l1 = true) (h1 : l1.length ≤ 1099511627776) (h2 : l2.length ≤ 1099511627776) (h3 : l3.length ≤ 1099511627776) (k : Nat) (hk : l1.length + l2.length + l3.length + 1 < k) : spec_RunLink.f k a0 l1 l2 l3 a4 = impl_RunLink.f a0 l1 l2 l3 a4:=by
  unfold spec_RunLink.f
  rw [l5l_eq a0 l1 l2 l3 h1 h2 h3 k hk,Option.bind_some,specIn,Option.bind_some]
  have hs:=linkB_split a0 a4 l1 l2 l3
  by_cases c1 : linkB a0 l1 l2 l3 0 = true
  · rw [if_pos c1]
    by_cases c2 : (decide (0 ≤ a4) && decide (a4 ≤ 400)) = true
    · rw [if_pos c2]
      have hl : linkB a0 l1 l2 l3 a4 = true:=by rw [hs,c1,c2];rfl
      rw [runI_yes hl hb]
      unfold spec_l5Run.f
      rw [if_pos ⟨hl,hb⟩,Option.bind_some]
      rfl
    · rw [if_neg c2,runI_no (by rw [hs,Bool.eq_false_iff.mpr c2,Bool.and_false])]
  · rw [if_neg c1,runI_no (by rw [hs,Bool.eq_false_iff.mpr c1,Bool.false_and])]
theorem wnT_l0 (l : List (List Int)) (hl : l.length ≤ 1000000) (d : Nat) : ∀ i : Nat,i + d = l.length → ∀ k,d < k → laws_wnTexts.l0 k l l (l.length : Int) (i : Int) = some true:=by
  induction d with
  | zero =>
    intro i hi k hk
    obtain ⟨k,rfl⟩ : ∃ m,k = m + 1:=⟨k - 1,by omega⟩
    simp only [laws_wnTexts.l0]
    rw [if_neg (by omega)]
  | succ d ih =>
    intro i hi k hk
    obtain ⟨k,rfl⟩ : ∃ m,k = m + 1:=⟨k - 1,by omega⟩
    simp only [laws_wnTexts.l0]
    rw [if_pos (by omega),if_pos (by omega),if_pos (by omega),if_pos (by omega),if_pos trivial,wrap_eq (by omega) (by omega)]
    exact ih (i + 1) (by omega) k (by omega)
theorem wnT_refl (l : List (List Int)) (hl : l.length ≤ 1000000) (k : Nat) (hk : l.length < k) : laws_wnTexts.f k l l = some true:=by
  unfold laws_wnTexts.f
  rw [if_pos rfl]
  exact wnT_l0 l hl l.length 0 (by omega) k hk
theorem bytesB_of {l : List (List Int)} (h : ∀ y ∈ l,BytesL y) : bytesB l = true:=bytesB_iff.2 h
/-- How many rounds a link needs. -/
def lrL (a0 : Int) (l1 : List (List Int)) (l2 l3 : List Int) : Int:=if linkB a0 l1 l2 l3 400 = true then (if l1.length ≤ (resL a0 l1 l2 l3 400).known then ((resL a0 l1 l2 l3 400).rounds : Int) else -1) else -1
theorem lrI_eq {a0 : Int} {l1 : List (List Int)} {l2 l3 : List Int} (hb : bytesB l1 = true) : impl_LinkRounds.f a0 l1 l2 l3 = some (lrL a0 l1 l2 l3):=by
  unfold impl_LinkRounds.f lrL
  by_cases h : linkB a0 l1 l2 l3 400 = true
  · rw [runI_yes h hb,Option.bind_some,if_pos h]
    simp only []
    by_cases hd : l1.length ≤ (resL a0 l1 l2 l3 400).known
    · rw [if_pos trivial,if_pos (decide_eq_true hd),if_pos hd]
    · rw [if_pos trivial,if_neg (by rw [decide_eq_false hd];decide),if_neg hd]
  · rw [runI_no (Bool.eq_false_iff.mpr h),Option.bind_some,if_neg h]
    simp
theorem lrS_eq {a0 : Int} {l1 : List (List Int)} {l2 l3 : List Int} (hb : bytesB l1 = true) (h1 : l1.length ≤ 1099511627776) (h2 : l2.length ≤ 1099511627776) (h3 : l3.length ≤ 1099511627776) (k : Nat) (hk : l1.length + l2.length + l3.length + 1 < k) : spec_LinkRounds.f k a0 l1 l2 l3 = some (lrL a0 l1 l2 l3):=by
  unfold spec_LinkRounds.f lrL
  have hs:=linkB_split a0 400 l1 l2 l3
  rw [decide_eq_true (show (0 : Int) ≤ 400 by omega),decide_eq_true (show (400 : Int) ≤ 400 by omega),Bool.and_true,Bool.and_true] at hs
  rw [l5l_eq a0 l1 l2 l3 h1 h2 h3 k hk,Option.bind_some,hs]
  by_cases h : linkB a0 l1 l2 l3 0 = true
  · have hl : linkB a0 l1 l2 l3 400 = true:=by rw [hs];exact h
    rw [if_pos h,if_pos h]
    unfold spec_l5Run.f
    rw [if_pos ⟨hl,hb⟩,Option.bind_some]
    show (if decide (l1.length ≤ (resL a0 l1 l2 l3 400).known) = true then some ((resL a0 l1 l2 l3 400).rounds : Int) else some (-1)) = _
    by_cases hd : l1.length ≤ (resL a0 l1 l2 l3 400).known
    · rw [if_pos (decide_eq_true hd),if_pos hd]
    · rw [if_neg (by rw [decide_eq_false hd];decide),if_neg hd]
  · rw [if_neg h,if_neg h]
theorem linkB_facts {a0 : Int} {l1 : List (List Int)} {l2 l3 : List Int} {a4 : Int} (h : linkB a0 l1 l2 l3 a4 = true) : (1 ≤ a0 ∧ a0 ≤ 8) ∧ l1.length ≤ 60 ∧ (∀ x ∈ l1,x.length ≤ 597) ∧ fatesB l2 = true ∧ fatesB l3 = true ∧ 0 ≤ a4 ∧ a4 ≤ 400:=by
  unfold linkB at h
  simp only [Bool.and_eq_true,decide_eq_true_eq,List.all_eq_true] at h
  obtain ⟨⟨h1,h2⟩,h3,h4,h5,h6,h7,h8⟩:=h
  exact ⟨⟨h1,h2⟩,h3,h4,h5,h6,h7,h8⟩

end Go.Proofs.Ytdpnloibbimblaa.PAll
