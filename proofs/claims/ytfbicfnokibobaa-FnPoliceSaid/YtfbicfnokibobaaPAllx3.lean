/- Proved here: contracts of functions of the given program, or lemmas on them, for the laws of this seat. Written by xprint.py, a program of this session, on the ground of the kit's print; parts by hand: wip/x/ext. -/
import Derived.Test.YtfbicfnokibobaaPAllx0
import Derived.Test.YtfbicfnokibobaaPAllx1
namespace Go.Proofs.Ytfbicfnokibobaa.PAll
open Go.RowKit Go.Proofs.YtfbicfnokibobaaW.PrintWords Go.Proofs.YtfbicfnokibobaaW.PrintLast Go.Proofs.YtfbicfnokibobaaW.PrintMore
attribute [local go_sem] max2_int min2_int max_two min_two max_three min_three max_four min_four   -- for this text's walks alone
set_option linter.unusedVariables false
set_option linter.unusedSimpArgs false

-- LIB p14mono
theorem untilT_fit {r b T a t : Int} (h1 : 1 ≤ r ∧ r ≤ 20) (h2 : 1 ≤ b ∧ b ≤ 100) (h3 : 0 ≤ T ∧ T ≤ 100) (h4 : 0 ≤ a) (h5 : a ≤ t) (h6 : t ≤ 100000) : untilT r b T a t = mn b (T + r * (t - a)) ∧ 0 ≤ r * (t - a) ∧ r * (t - a) ≤ 2000000:=by
  have e1 : wrap64 (t - a) = t - a:=wrap_eq (by omega) (by omega)
  have g1 : 0 ≤ r * (t - a):=Int.mul_nonneg (by omega) (by omega)
  have g2 : r * (t - a) ≤ 20 * 100000:=Int.mul_le_mul (by omega) (by omega) (by omega) (by omega)
  refine ⟨?_,g1,by omega⟩
  unfold untilT
  rw [e1,wrap_eq (x:=r * (t - a)) (by omega) (by omega),wrap_eq (by omega) (by omega)]
theorem mn_eq (a b : Int) : mn a b = if b < a then b else a:=rfl
/-- The frames of a list that are right at or behind a time. -/
def fromB (a : Int) : List S35 → Bool
  | [] => true
  | p :: l => (decide (a ≤ p.f0) && pulseB p) && fromB p.f0 l
theorem fromB_of (l : List S35) : ∀ a,l.all pulseB = true → nondec l = true → (∀ p ∈ l.head?,a ≤ p.f0) → fromB a l = true:=by
  induction l with
  | nil => intro _ _ _ _;rfl
  | cons p l ih =>
    intro a h1 h2 h3
    rw [List.all_cons,Bool.and_eq_true] at h1
    have h4 : nondec l = true ∧ ∀ q ∈ l.head?,p.f0 ≤ q.f0:=by
      match l,h2 with
      | [],_ => exact ⟨rfl,by simp⟩
      | q :: t,h2 =>
        rw [nondec,Bool.and_eq_true] at h2
        exact ⟨h2.2,by simpa using h2.1⟩
    have h5 : a ≤ p.f0:=h3 p (by simp)
    rw [fromB,decide_eq_true h5,h1.1,ih p.f0 h1.2 h4.1 h4.2]
    rfl
theorem pv_from {l : List S35} (h : pvB l = true) : fromB 0 l = true:=by
  unfold pvB at h
  rw [Bool.and_eq_true,Bool.and_eq_true] at h
  refine fromB_of l 0 h.1.1 h.1.2 ?_
  intro p hp
  have hm : p ∈ l:=List.mem_of_mem_head? hp
  have:=List.all_eq_true.1 h.1.1 p hm
  unfold pulseB at this
  simp at this
  omega
theorem fromB_cons {a : Int} {p : S35} {l : List S35} (h : fromB a (p :: l) = true) : a ≤ p.f0 ∧ 0 ≤ p.f0 ∧ p.f0 ≤ 2000 ∧ 1 ≤ p.f1 ∧ p.f1 ≤ 50 ∧ fromB p.f0 l = true:=by
  rw [fromB,pulseB,Bool.and_eq_true] at h
  obtain ⟨h1,h2⟩:=h
  simp at h1
  exact ⟨by omega,by omega,by omega,by omega,by omega,h2⟩

-- LIB p14po
/-- The tokens and the time behind a list. -/
def pst (r b : Int) : Int → Int → List S35 → Int × Int
  | T,a,[] => (T,a)
  | T,a,p :: l => pst r b (takeT r b T a p.f0 p.f1) p.f0 l
theorem polL_app (r b : Int) (xs ys : List S35) : ∀ T a,polL r b T a (xs ++ ys) = polL r b T a xs ++ polL r b (pst r b T a xs).1 (pst r b T a xs).2 ys:=by
  induction xs with
  | nil => exact fun _ _ => rfl
  | cons p l ih => intro T a;rw [List.cons_append,polL,polL,pst,ih,List.cons_append]
theorem pst_app (r b : Int) (xs ys : List S35) : ∀ T a,pst r b T a (xs ++ ys) = pst r b (pst r b T a xs).1 (pst r b T a xs).2 ys:=by
  induction xs with
  | nil => exact fun _ _ => rfl
  | cons p l ih => intro T a;rw [List.cons_append,pst,pst,ih]
theorem nondec_pair (l : List S35) : nondec l = true ↔ l.Pairwise (fun x y => x.f0 ≤ y.f0):=by
  induction l with
  | nil => exact ⟨fun _ => List.Pairwise.nil,fun _ => rfl⟩
  | cons p l ih =>
    match l,ih with
    | [],_ => exact ⟨fun _ => List.pairwise_singleton _ _,fun _ => rfl⟩
    | q :: t,ih =>
      rw [nondec,Bool.and_eq_true,decide_eq_true_eq,ih]
      constructor
      · rintro ⟨h1,h2⟩
        refine List.Pairwise.cons (fun x hx => ?_) h2
        rcases List.mem_cons.1 hx with rfl | hx
        · exact h1
        · exact Int.le_trans h1 ((List.pairwise_cons.1 h2).1 x hx)
      · intro h
        obtain ⟨h1,h2⟩:=List.pairwise_cons.1 h
        exact ⟨h1 q List.mem_cons_self,h2⟩
/-- Some of the frames are frames. -/
theorem pvB_sub {s l : List S35} (h : s.Sublist l) (hl : pvB l = true) : pvB s = true:=by
  unfold pvB at hl ⊢
  rw [Bool.and_eq_true,Bool.and_eq_true,decide_eq_true_eq] at hl ⊢
  obtain ⟨⟨h1,h2⟩,h3⟩:=hl
  refine ⟨⟨List.all_eq_true.2 (fun x hx => List.all_eq_true.1 h1 x (h.subset hx)),(nondec_pair s).2 (((nondec_pair l).1 h2).sublist h)⟩,?_⟩
  have:=h.length_le
  omega
theorem mn_again (r b T a c t : Int) (h1 : 0 ≤ r * (t - a)) : mn b (mn b (T + r * (a - c)) + r * (t - a)) = mn b (T + r * (t - c)):=by
  have e : r * (t - c) = r * (t - a) + r * (a - c):=by
    rw [← Int.mul_add];congr 1;omega
  rw [e]
  generalize r * (t - a) = y at *
  generalize r * (a - c) = z
  rw [mn_eq,mn_eq,mn_eq]
  split <;> split <;> split <;> omega
/-- What is told of a shaper that all frames have come to, and of one that those have come to that it let through. -/
structure Pol (r b : Int) (l s : List S35) (i : Nat) (T a T' a' : Int) : Prop where
  sub : s.Sublist (l.take i)
  all : (polL r b b 0 s).all id = true
  st : pst r b b 0 s = (T',a')
  rest : ∀ o,o = polL r b b 0 l → o.drop i = polL r b T a (l.drop i)
  bT : 0 ≤ T ∧ T ≤ b
  bT' : 0 ≤ T' ∧ T' ≤ b
  ba : 0 ≤ a' ∧ a' ≤ a
  tie : T = mn b (T' + r * (a - a'))
  frm : fromB a (l.drop i) = true
theorem Pol.start {r b : Int} {l : List S35} (hb : 1 ≤ b) (hl : pvB l = true) : Pol r b l [] 0 b 0 b 0 :=
  ⟨List.Sublist.refl _,rfl,rfl,fun o h => by rw [h];rfl,by omega,by omega,by omega,by rw [Int.sub_self,Int.mul_zero,mn_eq];split <;> omega,by rw [List.drop_zero];exact pv_from hl⟩
theorem Pol.step {r b : Int} (hr : 1 ≤ r ∧ r ≤ 20) (hb : 1 ≤ b ∧ b ≤ 100) {l s : List S35} {i : Nat} {T a T' a' : Int} (h : Pol r b l s i T a T' a') (hi : i < l.length) :
    takeOk r b T' a' l[i].f0 l[i].f1 = takeOk r b T a l[i].f0 l[i].f1 ∧ ∃ T2 a2 T2' a2',Pol r b l (if takeOk r b T a l[i].f0 l[i].f1 = true then s ++ [l[i]] else s) (i + 1) T2 a2 T2' a2':=by
  obtain ⟨h1,h2,h3,h4,h5,h6,h7,h8,h9⟩:=h
  rw [List.drop_eq_getElem_cons hi] at h9
  obtain ⟨f1,f2,f3,f4,f5,f6⟩:=fromB_cons h9
  obtain ⟨u1,u2,u3⟩:=untilT_fit (r:=r) (b:=b) (T:=T) (a:=a) (t:=l[i].f0) hr hb (by omega) (by omega) f1 (by omega)
  obtain ⟨v1,v2,v3⟩:=untilT_fit (r:=r) (b:=b) (T:=T') (a:=a') (t:=l[i].f0) hr hb (by omega) (by omega) (by omega) (by omega)
  have hu : untilT r b T' a' l[i].f0 = untilT r b T a l[i].f0:=by rw [u1,v1,h8,mn_again r b T' a a' l[i].f0 u2]
  have hub : 0 ≤ untilT r b T a l[i].f0 ∧ untilT r b T a l[i].f0 ≤ b:=by rw [u1,mn_eq];split <;> omega
  have hok : takeOk r b T' a' l[i].f0 l[i].f1 = takeOk r b T a l[i].f0 l[i].f1:=by unfold takeOk;rw [hu]
  have hrest : ∀ o,o = polL r b b 0 l → o.drop (i + 1) = polL r b (takeT r b T a l[i].f0 l[i].f1) l[i].f0 (l.drop (i + 1)):=by
    intro o ho
    have:=h4 o ho
    rw [List.drop_eq_getElem_cons hi,polL] at this
    have e:=congrArg List.tail this
    rw [List.tail_drop,List.tail_cons] at e
    exact e
  have htk : l.take (i + 1) = l.take i ++ [l[i]]:=List.take_succ_eq_append_getElem hi
  refine ⟨hok,?_⟩
  by_cases c : takeOk r b T a l[i].f0 l[i].f1 = true
  · rw [if_pos c]
    have hc:=c
    unfold takeOk at hc
    rw [decide_eq_true_eq] at hc
    have t1 : takeT r b T a l[i].f0 l[i].f1 = untilT r b T a l[i].f0 - l[i].f1:=by unfold takeT;rw [if_pos hc,wrap_eq (by omega) (by omega)]
    have t2 : takeT r b T' a' l[i].f0 l[i].f1 = untilT r b T a l[i].f0 - l[i].f1:=by unfold takeT;rw [hu,if_pos hc,wrap_eq (by omega) (by omega)]
    refine ⟨_,_,_,_,⟨by rw [htk];exact h1.append (List.Sublist.refl _),?_,by rw [pst_app,h3],hrest,by rw [t1];omega,by simp only [pst];rw [t2];omega,by simp only [pst];omega,?_,f6⟩⟩
    · rw [polL_app,List.all_append,h2,Bool.true_and,h3]
      simp only [polL,List.all_cons,List.all_nil,Bool.and_true,id]
      rw [hok,c]
    · simp only [pst]
      rw [t1,t2,Int.sub_self,Int.mul_zero,mn_eq]
      split <;> omega
  · rw [if_neg c]
    have hc:=c
    unfold takeOk at hc
    rw [decide_eq_true_eq] at hc
    have t1 : takeT r b T a l[i].f0 l[i].f1 = untilT r b T a l[i].f0:=by unfold takeT;rw [if_neg hc]
    refine ⟨_,_,T',a',⟨by rw [htk];exact h1.trans (List.sublist_append_left _ _),h2,h3,hrest,by rw [t1];exact hub,h6,by omega,by rw [t1,← hu,v1],f6⟩⟩

-- LIB pdraw
/-- What a draw reads: at most 2000 bytes. -/
def Bytes (b : List Int) : Prop:=b.length ≤ 2000 ∧ ∀ x ∈ b,0 ≤ x ∧ x ≤ 255
theorem bits_xor_nonneg (a b : Int) (h1 : 0 ≤ a) (h2 : a < 4611686018427387904) (h3 : 0 ≤ b) (h4 : b < 4611686018427387904) : 0 ≤ Go.bits .xor .i64 a b:=by
  obtain ⟨A,rfl⟩:=Int.eq_ofNat_of_zero_le h1
  obtain ⟨B,rfl⟩:=Int.eq_ofNat_of_zero_le h3
  have hx : A ^^^ B < 2 ^ 62:=Nat.xor_lt_two_pow (by omega) (by omega)
  have eA : (BitVec.ofInt 64 (A : Int)).toNat = A:=by rw [BitVec.ofInt_natCast,BitVec.toNat_ofNat];exact Nat.mod_eq_of_lt (by omega)
  have eB : (BitVec.ofInt 64 (B : Int)).toNat = B:=by rw [BitVec.ofInt_natCast,BitVec.toNat_ofNat];exact Nat.mod_eq_of_lt (by omega)
  show 0 ≤ IntKind.i64.wrap ((BitVec.ofInt 64 (A : Int) ^^^ BitVec.ofInt 64 (B : Int)).toNat : Int)
  rw [BitVec.toNat_xor,eA,eB,IntKind.wrap_i64]
  omega
theorem open_ok (l : List Int) (h : ∀ x ∈ l,(Lit.int .u8 x).wf = true) : ∃ b,spec_l21Open.f l = some (b,0) ∧ Bytes b:=by
  have hb : ∀ x ∈ l,0 ≤ x ∧ x ≤ 255:=by
    intro x hx
    have h':=h x hx
    simp [Lit.wf,IntKind.min,IntKind.max,IntKind.signed,IntKind.bits] at h'
    omega
  unfold spec_l21Open.f
  by_cases hl : (l.length : Int) > 2000
  · rw [if_pos hl,if_pos (by omega)]
    exact ⟨_,rfl,by rw [List.length_take];omega,fun x hx => hb x (List.mem_of_mem_take hx)⟩
  · rw [if_neg hl]
    exact ⟨_,rfl,by omega,hb⟩
theorem rd_mem {b : List Int} {i : Int} (h0 : 0 ≤ i) (h1 : i < b.length) : rd b i ∈ b:=by
  obtain ⟨j,rfl⟩:=Int.eq_ofNat_of_zero_le h0
  rw [rd_get b j (by omega)]
  exact List.getElem_mem _
theorem tmod_range {a n : Int} (h0 : 0 ≤ a) (h1 : 1 ≤ n) : 0 ≤ Int.tmod a n ∧ Int.tmod a n < n:=by
  rw [Int.tmod_eq_emod_of_nonneg h0]
  exact ⟨Int.emod_nonneg _ (by omega),Int.emod_lt_of_pos _ (by omega)⟩
/-- A draw of a number below n. -/
theorem pick_ok {b : List Int} (hb : Bytes b) {p : Int} (n : Int) (h0 : 0 ≤ p) (h1 : p ≤ 1099511627776) :
    ∃ r,0 ≤ r ∧ (1 ≤ n → r < n) ∧ (n < 1 → r = 0) ∧ ∀ k,1 ≤ k → spec_l21Rd_pick.f k b p n = some (r,p + 1):=by
  have e1 : wrap64 (p + 1) = p + 1:=wrap_eq (by omega) (by omega)
  have e2 : wrap64 (p + 1 - 1) = p:=by rw [wrap_eq (by omega) (by omega)];omega
  by_cases hn : n < 1
  · refine ⟨0,by omega,fun h => by omega,fun _ => rfl,fun k hk => ?_⟩
    obtain ⟨k,rfl⟩ : ∃ m,k = m + 1:=⟨k - 1,by omega⟩
    unfold spec_l21Rd_pick.f
    simp only [spec_l21Rd_pick.j0]
    rw [if_pos hn,if_pos trivial,e1]
  by_cases hl : b.length = 0
  · refine ⟨0,by omega,fun h => by omega,fun _ => rfl,fun k hk => ?_⟩
    obtain ⟨k,rfl⟩ : ∃ m,k = m + 1:=⟨k - 1,by omega⟩
    unfold spec_l21Rd_pick.f
    simp only [spec_l21Rd_pick.j0]
    rw [if_neg hn,if_pos (by simp [hl]),e1]
  obtain ⟨hb1,hb2⟩:=hb
  have hl0 : ((b.length : Int) == 0) = false:=beq_eq_false_iff_ne.2 (by omega)
  by_cases hp : p < b.length
  · have hv:=hb2 _ (rd_mem h0 hp)
    have ht:=tmod_range hv.1 (show 1 ≤ n by omega)
    refine ⟨Int.tmod (rd b p) n,ht.1,fun _ => ht.2,fun h => by omega,fun k hk => ?_⟩
    obtain ⟨k,rfl⟩ : ∃ m,k = m + 1:=⟨k - 1,by omega⟩
    unfold spec_l21Rd_pick.f
    simp only [spec_l21Rd_pick.j0]
    rw [if_neg hn,hl0,if_neg (by decide),e1,e2,if_pos hp,if_pos h0,if_neg (by omega),wrap_eq (by omega) (by omega)]
  · have hi1:=tmod_range h0 (show (1 : Int) ≤ b.length by omega)
    have hi2:=tmod_range (show 0 ≤ p * 7 + 3 by omega) (show (1 : Int) ≤ b.length by omega)
    have e3 : wrap64 (wrap64 (p * 7) + 3) = p * 7 + 3:=by rw [wrap_eq (x:=p * 7) (by omega) (by omega),wrap_eq (by omega) (by omega)]
    have hv1:=hb2 _ (rd_mem hi1.1 hi1.2)
    have hv2:=hb2 _ (rd_mem hi2.1 hi2.2)
    have hd : Int.tdiv p b.length = p / b.length:=Int.tdiv_eq_ediv_of_nonneg h0
    have hd0 : 0 ≤ p / (b.length : Int):=Int.ediv_nonneg h0 (by omega)
    have hd1 : p / (b.length : Int) ≤ p:=Int.ediv_le_self _ h0
    generalize hx1 : rd b (Int.tmod p b.length) = v1 at hv1
    generalize hx2 : rd b (Int.tmod (p * 7 + 3) b.length) = v2 at hv2
    generalize hx3 : p / (b.length : Int) = q at hd hd0 hd1
    have e4 : wrap64 (wrap64 (wrap64 (wrap64 (wrap64 v1 * 131) + wrap64 (wrap64 v2 * 1117)) + wrap64 (p * 29)) + wrap64 (wrap64 q * 53)) = v1 * 131 + v2 * 1117 + p * 29 + q * 53:=by
      rw [wrap_eq (x:=v1) (by omega) (by omega),wrap_eq (x:=v2) (by omega) (by omega),wrap_eq (x:=q) (by omega) (by omega),wrap_eq (x:=v1 * 131) (by omega) (by omega),wrap_eq (x:=v2 * 1117) (by omega) (by omega),wrap_eq (x:=p * 29) (by omega) (by omega),wrap_eq (x:=q * 53) (by omega) (by omega),wrap_eq (x:=v1 * 131 + v2 * 1117) (by omega) (by omega),wrap_eq (x:=v1 * 131 + v2 * 1117 + p * 29) (by omega) (by omega),wrap_eq (by omega) (by omega)]
    have hX : 0 ≤ v1 * 131 + v2 * 1117 + p * 29 + q * 53 ∧ v1 * 131 + v2 * 1117 + p * 29 + q * 53 ≤ 4000000000000000:=by omega
    generalize v1 * 131 + v2 * 1117 + p * 29 + q * 53 = X at e4 hX
    have hY : Int.tdiv X 64 = X / 64:=Int.tdiv_eq_ediv_of_nonneg hX.1
    have e5 : wrap64 (X / 64) = X / 64:=wrap_eq (by omega) (by omega)
    have hZ:=bits_xor_nonneg X (X / 64) hX.1 (by omega) (by omega) (by omega)
    have ht:=tmod_range hZ (show 1 ≤ n by omega)
    refine ⟨Int.tmod (Go.bits .xor .i64 X (X / 64)) n,ht.1,fun _ => ht.2,fun h => by omega,fun k hk => ?_⟩
    obtain ⟨k,rfl⟩ : ∃ m,k = m + 1:=⟨k - 1,by omega⟩
    unfold spec_l21Rd_pick.f
    simp only [spec_l21Rd_pick.j0]
    rw [if_neg hn,hl0,if_neg (by decide),e1,e2,e3,if_neg hp,if_neg (by omega),if_pos hi1.1,if_pos hi1.2,if_pos hi2.1,if_pos hi2.2,if_neg (by omega),hx1,hx2,hd,e4,hY,e5]
/-- A draw of one of a list's numbers. -/
theorem num_ok {b : List Int} (hb : Bytes b) {p : Int} (l : List Int) (h0 : 0 ≤ p) (h1 : p ≤ 1099511627776) (hl : 0 < l.length) :
    ∃ x,x ∈ l ∧ ∀ k,1 ≤ k → spec_l21Rd_num.f k b p l = some (x,p + 1):=by
  obtain ⟨r,hr0,hr1,_,hr⟩:=pick_ok hb (l.length : Int) h0 h1
  have hr2:=hr1 (by omega)
  refine ⟨rd l r,rd_mem hr0 hr2,fun k hk => ?_⟩
  unfold spec_l21Rd_num.f
  rw [hr k hk,Option.bind_some]
  simp only []
  rw [if_pos hr0,if_pos hr2]

-- LIB pdraw14
theorem l14_at {b : List Int} (hb : Bytes b) (rate burst : Int) (d : Nat) : ∀ (i : Int) (p at_ : Int) (x : List S35), i = d → d ≤ 30 → 0 ≤ p → p + 3 * (d : Int) ≤ 1000000000 → x.length + d ≤ 60 →
    ∃ r1 r2 l p',l.length ≤ 61 ∧ p ≤ p' ∧ p' ≤ p + 3 * d + 2 ∧ ∀ k,d + 1 < k → spec_l14Draw.l0 k rate burst x at_ i b p = some (r1,r2,l,p'):=by
  induction d with
  | zero =>
    intro i p at_ x hi _ h0 h1 hx
    obtain ⟨r,hr0,_,_,hr⟩:=pick_ok hb 75 h0 (by omega)
    obtain ⟨n1,_,hn1⟩:=num_ok hb [0,21] (show 0 ≤ p + 1 by omega) (by omega) (by simp)
    obtain ⟨n2,_,hn2⟩:=num_ok hb [0,101] (show 0 ≤ p + 1 by omega) (by omega) (by simp)
    obtain ⟨n3,_,hn3⟩:=num_ok hb [0,51] (show 0 ≤ p + 1 by omega) (by omega) (by simp)
    have go : ∀ {r1 r2 : Int} {l : List S35} {p' : Int}, l.length ≤ 61 → p ≤ p' → p' ≤ p + 2 → (∀ k, 1 ≤ k → (if r = 0 then ((spec_l21Rd_num.f k b (p + 1) (([0, 21] : List Int))).bind fun bt211 => (some (bt211.1, burst, x, bt211.2))) else (if r = 1 then ((spec_l21Rd_num.f k b (p + 1) (([0, 101] : List Int))).bind fun bt216 => (some (rate, bt216.1, x, bt216.2))) else (if r = 2 then (if x.length < 8796093022208 then (some (rate, burst, (x ++ [(⟨0, 1⟩ : S35)]), p + 1)) else (none)) else (if r = 3 then ((spec_l21Rd_num.f k b (p + 1) (([0, 51] : List Int))).bind fun bt224 => (if x.length < 8796093022208 then (some (rate, burst, (x ++ [(⟨at_, bt224.1⟩ : S35)]), bt224.2)) else (none))) else (if r = 4 then (if x.length < 8796093022208 then (some (rate, burst, (x ++ [(⟨2001, 1⟩ : S35)]), p + 1)) else (none)) else (some (rate, burst, x, p + 1))))))) = some (r1, r2, l, p')) →
        ∃ r1 r2 l p',l.length ≤ 61 ∧ p ≤ p' ∧ p' ≤ p + 3 * ((0 : Nat) : Int) + 2 ∧ ∀ k,0 + 1 < k → spec_l14Draw.l0 k rate burst x at_ i b p = some (r1,r2,l,p'):=by
      intro r1 r2 l p' a1 a2 a3 a4
      refine ⟨r1,r2,l,p',a1,a2,by omega,fun k hk => ?_⟩
      obtain ⟨k,rfl⟩ : ∃ m,k = m + 1:=⟨k - 1,by omega⟩
      simp only [spec_l14Draw.l0]
      rw [if_neg (by omega),hr k (by omega),Option.bind_some]
      exact a4 k (by omega)
    have hx1 : x.length < 8796093022208:=by omega
    by_cases c0 : r = 0
    · exact go (l:=x) (by omega) (show p ≤ p + 1 + 1 by omega) (by omega) (fun k hk => by rw [if_pos c0,hn1 k hk,Option.bind_some])
    by_cases c1 : r = 1
    · exact go (l:=x) (by omega) (show p ≤ p + 1 + 1 by omega) (by omega) (fun k hk => by rw [if_neg c0,if_pos c1,hn2 k hk,Option.bind_some])
    by_cases c2 : r = 2
    · exact go (l:=x ++ [⟨0,1⟩]) (by simp;omega) (show p ≤ p + 1 by omega) (by omega) (fun k hk => by rw [if_neg c0,if_neg c1,if_pos c2,if_pos hx1])
    by_cases c3 : r = 3
    · exact go (l:=x ++ [⟨at_,n3⟩]) (by simp;omega) (show p ≤ p + 1 + 1 by omega) (by omega) (fun k hk => by rw [if_neg c0,if_neg c1,if_neg c2,if_pos c3,hn3 k hk,Option.bind_some,if_pos hx1])
    by_cases c4 : r = 4
    · exact go (l:=x ++ [⟨2001,1⟩]) (by simp;omega) (show p ≤ p + 1 by omega) (by omega) (fun k hk => by rw [if_neg c0,if_neg c1,if_neg c2,if_neg c3,if_pos c4,if_pos hx1])
    · exact go (l:=x) (by omega) (show p ≤ p + 1 by omega) (by omega) (fun k hk => by rw [if_neg c0,if_neg c1,if_neg c2,if_neg c3,if_neg c4])
  | succ d ih =>
    intro i p at_ x hi hd h0 h1 hx
    obtain ⟨n,hn,hnum⟩:=num_ok hb [5,10,50] h0 (by omega) (by simp)
    obtain ⟨r,hr0,_,_,hr⟩:=pick_ok hb n (show 0 ≤ p + 1 by omega) (by omega)
    obtain ⟨m,hm,hmum⟩:=num_ok hb [0,1,2,0,7,30] (show 0 ≤ p + 1 + 1 by omega) (by omega) (by simp)
    obtain ⟨r1,r2,l,p',h2,h3,h4,h5⟩:=ih (wrap64 (i - 1)) (p + 1 + 1 + 1) (wrap64 (at_ + m)) (x ++ [⟨at_,wrap64 (1 + r)⟩]) (by rw [wrap_eq (by omega) (by omega)];omega) (by omega) (by omega) (by omega) (by simp;omega)
    refine ⟨r1,r2,l,p',h2,by omega,by omega,fun k hk => ?_⟩
    obtain ⟨k,rfl⟩ : ∃ m,k = m + 1:=⟨k - 1,by omega⟩
    simp only [spec_l14Draw.l0]
    rw [if_pos (by omega),hnum k (by omega),Option.bind_some]
    simp only []
    rw [hr k (by omega),Option.bind_some]
    simp only []
    rw [if_pos (by omega),hmum k (by omega),Option.bind_some]
    simp only []
    rw [h5 k (by omega)]
theorem l14_ok {b : List Int} (hb : Bytes b) : ∃ r1 r2 l p',l.length ≤ 61 ∧ 0 ≤ p' ∧ p' ≤ 1000 ∧ ∀ k,40 < k → spec_l14Draw.f k b 0 = some (r1,r2,l,p'):=by
  obtain ⟨a,_,ha⟩:=num_ok hb [1,2,5,20,3] (show (0 : Int) ≤ 0 by omega) (by omega) (by simp)
  obtain ⟨c,_,hc⟩:=num_ok hb [10,5,50,100,1,20] (show (0 : Int) ≤ 0 + 1 by omega) (by omega) (by simp)
  obtain ⟨r,hr0,_,_,hr⟩:=pick_ok hb 5 (show (0 : Int) ≤ 0 + 1 + 1 by omega) (by omega)
  obtain ⟨n,hn,hnum⟩:=num_ok hb [5,9,2,0,20] (show (0 : Int) ≤ 0 + 1 + 1 + 1 by omega) (by omega) (by simp)
  have hn2 : 0 ≤ n ∧ n ≤ 20:=by simp at hn;omega
  obtain ⟨r1,r2,l,p',h2,h3,h4,h5⟩:=l14_at hb a c n.toNat n (0 + 1 + 1 + 1 + 1) r [] (by omega) (by omega) (by omega) (by omega) (by simp;omega)
  refine ⟨r1,r2,l,p',h2,by omega,by omega,fun k hk => ?_⟩
  unfold spec_l14Draw.f
  rw [ha k (by omega),Option.bind_some]
  simp only []
  rw [hc k (by omega),Option.bind_some]
  simp only []
  rw [hr k (by omega),Option.bind_some]
  simp only []
  rw [hnum k (by omega),Option.bind_some]
  simp only []
  exact h5 k (by omega)
theorem drawPol_ok {l0 : List Int} (h : ∀ x ∈ l0,(Lit.int .u8 x).wf = true) : ∃ r b l,l.length ≤ 61 ∧ (∀ k,40 < k → spec_DrawPolicePulses.f k l0 = some (r,b,l)):=by
  obtain ⟨b,hb,hB⟩:=open_ok l0 h
  obtain ⟨r1,r2,l,p',h1,h2,h3,h4⟩:=l14_ok hB
  refine ⟨r1,r2,l,h1,fun k hk => ?_⟩
  unfold spec_DrawPolicePulses.f
  rw [hb,Option.bind_some]
  simp only []
  rw [h4 k hk,Option.bind_some]

end Go.Proofs.Ytfbicfnokibobaa.PAll
