/- Proved here: contracts of functions of the given program, or lemmas on them, for the laws of this seat. Written by xprint.py, a program of this session, on the ground of the kit's print; parts by hand: wip/x/ext. -/
import Derived.Test.YtblcnbnphjnhdaaPAllx0
import Derived.Test.YtblcnbnphjnhdaaPAllx1
import Derived.Test.YtblcnbnphjnhdaaPAllx2
import Derived.Test.YtblcnbnphjnhdaaPAllx5
import Derived.Test.YtblcnbnphjnhdaaPAllx6
import Derived.Test.YtblcnbnphjnhdaaPAllx7
import Derived.Test.YtblcnbnphjnhdaaPAllx8
import Derived.Test.YtblcnbnphjnhdaaPAllx9
namespace Go.Proofs.Ytblcnbnphjnhdaa.PAll
open Go.RowKit Go.Proofs.YtblcnbnphjnhdaaW.PrintWords Go.Proofs.YtblcnbnphjnhdaaW.PrintLast Go.Proofs.YtblcnbnphjnhdaaW.PrintMore
attribute [local go_sem] max2_int min2_int max_two min_two max_three min_three max_four min_four   -- for this text's walks alone
set_option linter.unusedVariables false
set_option linter.unusedSimpArgs false
def Bytes (b : List Int) : Prop:=b.length ≤ 2000 ∧ ∀ x ∈ b,0 ≤ x ∧ x ≤ 255
theorem bits_xor_nonneg (a b : Int) (h1 : 0 ≤ a) (h2 : a < 4611686018427387904) (h3 : 0 ≤ b) (h4 : b < 4611686018427387904) : 0 ≤ Go.bits .xor .i64 a b:=by
 obtain ⟨A,rfl⟩:=Int.eq_ofNat_of_zero_le h1
 obtain ⟨B,rfl⟩:=Int.eq_ofNat_of_zero_le h3
 have hx : A ^^^ B < 2 ^ 62:=Nat.xor_lt_two_pow (by omega) (by omega)
 have eA : (BitVec.ofInt 64 (A : Int)).toNat = A:=by rw [BitVec.ofInt_natCast,BitVec.toNat_ofNat];exact Nat.mod_eq_of_lt (by omega)
 have eB : (BitVec.ofInt 64 (B : Int)).toNat = B:=by rw [BitVec.ofInt_natCast,BitVec.toNat_ofNat];exact Nat.mod_eq_of_lt (by omega)
 show 0 ≤ IntKind.i64.wrap ((BitVec.ofInt 64 (A : Int) ^^^ BitVec.ofInt 64 (B : Int)).toNat : Int)
 rw [BitVec.toNat_xor,eA,eB,IntKind.wrap_i64]
 omega
theorem open_ok (l : List Int) (h : ∀ x ∈ l,(Lit.int .u8 x).wf = true) : ∃ b,spec_l21Open.f l = some (b,0) ∧ Bytes b:=by
 have hb : ∀ x ∈ l,0 ≤ x ∧ x ≤ 255:=by
  intro x hx
  have h':=h x hx
  simp [Lit.wf,IntKind.min,IntKind.max,IntKind.signed,IntKind.bits] at h'
  omega
 unfold spec_l21Open.f
 by_cases hl : (l.length : Int) > 2000
 ·rw [if_pos hl,if_pos (by omega)]
  exact ⟨_,rfl,by rw [List.length_take];omega,fun x hx => hb x (List.mem_of_mem_take hx)⟩
 ·rw [if_neg hl]
  exact ⟨_,rfl,by omega,hb⟩
theorem rd_mem {b : List Int} {i : Int} (h0 : 0 ≤ i) (h1 : i < b.length) : rd b i ∈ b:=by
 obtain ⟨j,rfl⟩:=Int.eq_ofNat_of_zero_le h0
 rw [rd_get b j (by omega)]
 exact List.getElem_mem _
theorem tmod_range {a n : Int} (h0 : 0 ≤ a) (h1 : 1 ≤ n) : 0 ≤ Int.tmod a n ∧ Int.tmod a n < n:=by
 rw [Int.tmod_eq_emod_of_nonneg h0]
 exact ⟨Int.emod_nonneg _ (by omega),Int.emod_lt_of_pos _ (by omega)⟩
theorem pick_ok {b : List Int} (hb : Bytes b) {p : Int} (n : Int) (h0 : 0 ≤ p) (h1 : p ≤ 1099511627776) :
  ∃ r,0 ≤ r ∧ (1 ≤ n → r < n) ∧ (n < 1 → r = 0) ∧ ∀ k,1 ≤ k → spec_l21Rd_pick.f k b p n = some (r,p + 1):=by
 have e1 : wrap64 (p + 1) = p + 1:=wrap_eq (by omega) (by omega)
 have e2 : wrap64 (p + 1 - 1) = p:=by rw [wrap_eq (by omega) (by omega)];omega
 by_cases hn : n < 1
 ·refine ⟨0,by omega,fun h => by omega,fun _ => rfl,fun k hk => ?_⟩
  obtain ⟨k,rfl⟩ : ∃ m,k = m + 1:=⟨k - 1,by omega⟩
  unfold spec_l21Rd_pick.f
  simp only [spec_l21Rd_pick.j0]
  rw [if_pos hn,if_pos trivial,e1]
 by_cases hl : b.length = 0
 ·refine ⟨0,by omega,fun h => by omega,fun _ => rfl,fun k hk => ?_⟩
  obtain ⟨k,rfl⟩ : ∃ m,k = m + 1:=⟨k - 1,by omega⟩
  unfold spec_l21Rd_pick.f
  simp only [spec_l21Rd_pick.j0]
  rw [if_neg hn,if_pos (by simp [hl]),e1]
 obtain ⟨hb1,hb2⟩:=hb
 have hl0 : ((b.length : Int) == 0) = false:=beq_eq_false_iff_ne.2 (by omega)
 by_cases hp : p < b.length
 ·have hv:=hb2 _ (rd_mem h0 hp)
  have ht:=tmod_range hv.1 (show 1 ≤ n by omega)
  refine ⟨Int.tmod (rd b p) n,ht.1,fun _ => ht.2,fun h => by omega,fun k hk => ?_⟩
  obtain ⟨k,rfl⟩ : ∃ m,k = m + 1:=⟨k - 1,by omega⟩
  unfold spec_l21Rd_pick.f
  simp only [spec_l21Rd_pick.j0]
  rw [if_neg hn,hl0,if_neg (by decide),e1,e2,if_pos hp,if_pos h0,if_neg (by omega),wrap_eq (by omega) (by omega)]
 ·have hi1:=tmod_range h0 (show (1 : Int) ≤ b.length by omega)
  have hi2:=tmod_range (show 0 ≤ p * 7 + 3 by omega) (show (1 : Int) ≤ b.length by omega)
  have e3 : wrap64 (wrap64 (p * 7) + 3) = p * 7 + 3:=by rw [wrap_eq (x:=p * 7) (by omega) (by omega),wrap_eq (by omega) (by omega)]
  have hv1:=hb2 _ (rd_mem hi1.1 hi1.2)
  have hv2:=hb2 _ (rd_mem hi2.1 hi2.2)
  have hd : Int.tdiv p b.length = p / b.length:=Int.tdiv_eq_ediv_of_nonneg h0
  have hd0 : 0 ≤ p / (b.length : Int):=Int.ediv_nonneg h0 (by omega)
  have hd1 : p / (b.length : Int) ≤ p:=Int.ediv_le_self _ h0
  generalize hx1 : rd b (Int.tmod p b.length) = v1 at hv1
  generalize hx2 : rd b (Int.tmod (p * 7 + 3) b.length) = v2 at hv2
  generalize hx3 : p / (b.length : Int) = q at hd hd0 hd1
  have e4 : wrap64 (wrap64 (wrap64 (wrap64 (wrap64 v1 * 131) + wrap64 (wrap64 v2 * 1117)) + wrap64 (p * 29)) + wrap64 (wrap64 q * 53)) = v1 * 131 + v2 * 1117 + p * 29 + q * 53:=by
   rw [wrap_eq (x:=v1) (by omega) (by omega),wrap_eq (x:=v2) (by omega) (by omega),wrap_eq (x:=q) (by omega) (by omega),wrap_eq (x:=v1 * 131) (by omega) (by omega),wrap_eq (x:=v2 * 1117) (by omega) (by omega),wrap_eq (x:=p * 29) (by omega) (by omega),wrap_eq (x:=q * 53) (by omega) (by omega),wrap_eq (x:=v1 * 131 + v2 * 1117) (by omega) (by omega),wrap_eq (x:=v1 * 131 + v2 * 1117 + p * 29) (by omega) (by omega),wrap_eq (by omega) (by omega)]
  have hX : 0 ≤ v1 * 131 + v2 * 1117 + p * 29 + q * 53 ∧ v1 * 131 + v2 * 1117 + p * 29 + q * 53 ≤ 4000000000000000:=by omega
  generalize v1 * 131 + v2 * 1117 + p * 29 + q * 53 = X at e4 hX
  have hY : Int.tdiv X 64 = X / 64:=Int.tdiv_eq_ediv_of_nonneg hX.1
  have e5 : wrap64 (X / 64) = X / 64:=wrap_eq (by omega) (by omega)
  have hZ:=bits_xor_nonneg X (X / 64) hX.1 (by omega) (by omega) (by omega)
  have ht:=tmod_range hZ (show 1 ≤ n by omega)
  refine ⟨Int.tmod (Go.bits .xor .i64 X (X / 64)) n,ht.1,fun _ => ht.2,fun h => by omega,fun k hk => ?_⟩
  obtain ⟨k,rfl⟩ : ∃ m,k = m + 1:=⟨k - 1,by omega⟩
  unfold spec_l21Rd_pick.f
  simp only [spec_l21Rd_pick.j0]
  rw [if_neg hn,hl0,if_neg (by decide),e1,e2,e3,if_neg hp,if_neg (by omega),if_pos hi1.1,if_pos hi1.2,if_pos hi2.1,if_pos hi2.2,if_neg (by omega),hx1,hx2,hd,e4,hY,e5]
theorem num_ok {b : List Int} (hb : Bytes b) {p : Int} (l : List Int) (h0 : 0 ≤ p) (h1 : p ≤ 1099511627776) (hl : 0 < l.length) :
  ∃ x,x ∈ l ∧ ∀ k,1 ≤ k → spec_l21Rd_num.f k b p l = some (x,p + 1):=by
 obtain ⟨r,hr0,hr1,_,hr⟩:=pick_ok hb (l.length : Int) h0 h1
 have hr2:=hr1 (by omega)
 refine ⟨rd l r,rd_mem hr0 hr2,fun k hk => ?_⟩
 unfold spec_l21Rd_num.f
 rw [hr k hk,Option.bind_some]
 simp only []
 rw [if_pos hr0,if_pos hr2]
theorem l7c_at {b : List Int} (hb : Bytes b) (n : Int) (h1 : 1 ≤ n) (h8 : n ≤ 8) (d : Nat) : ∀ (p : Int) (c : List S83), 0 ≤ p → p + 3 * d ≤ 100000 → c.length + d ≤ 1000 →
  ∃ c' p',c'.length ≤ c.length + d ∧ p ≤ p' ∧ p' ≤ p + 3 * d ∧ ∀ k,2 * d + 2 < k → spec_l7Cables.l0 k n c (d : Int) b p = some (n,c',p'):=by
 induction d with
 | zero =>
  intro p c hp0 hp1 hx
  refine ⟨c,p,by omega,by omega,by omega,fun k hk => ?_⟩
  obtain ⟨k,rfl⟩ : ∃ m,k = m + 1 + 1:=⟨k - 2,by omega⟩
  simp only [spec_l7Cables.l0,spec_l7Cables.j1]
  rw [if_neg (by omega),if_neg (by decide)]
 | succ d ih =>
  intro p c hp0 hp1 hx
  by_cases hn : n > 1
  ·obtain ⟨r1,_,_,_,e1⟩:=pick_ok hb n hp0 (by omega)
   obtain ⟨r2,_,_,_,e2⟩:=pick_ok hb (wrap64 (n - 1)) (show 0 ≤ p + 1 by omega) (by omega)
   obtain ⟨r3,_,e3⟩:=num_ok hb [1,1,2,5,10,99] (show 0 ≤ p + 1 + 1 by omega) (by omega) (by simp)
   obtain ⟨c',p',q1,q2,q3,q4⟩:=ih (p + 1 + 1 + 1) (c ++ [⟨r1,Int.tmod (wrap64 ((wrap64 (r1 + 1)) + r2)) n,r3⟩]) (by omega) (by omega) (by simp;omega)
   simp only [List.length_append,List.length_singleton] at q1
   refine ⟨c',p',by omega,by omega,by omega,fun k hk => ?_⟩
   obtain ⟨k,rfl⟩ : ∃ m,k = m + 1 + 1:=⟨k - 2,by omega⟩
   simp only [spec_l7Cables.l0,spec_l7Cables.j1]
   rw [if_pos (by omega),if_pos (decide_eq_true hn),e1 k (by omega),Option.bind_some]
   simp only []
   rw [e2 k (by omega),Option.bind_some,if_neg (by omega)]
   simp only []
   rw [e3 k (by omega),Option.bind_some,if_pos (by omega),wrap_eq (x:=((d + 1 : Nat) : Int) - 1) (by omega) (by omega),show ((d + 1 : Nat) : Int) - 1 = (d : Int) by omega]
   exact q4 k (by omega)
  ·refine ⟨c,p,by omega,by omega,by omega,fun k hk => ?_⟩
   obtain ⟨k,rfl⟩ : ∃ m,k = m + 1 + 1:=⟨k - 2,by omega⟩
   simp only [spec_l7Cables.l0,spec_l7Cables.j1]
   rw [if_pos (by omega),decide_eq_false hn,if_neg (by decide)]
theorem l7c_ok {b : List Int} (hb : Bytes b) {p : Int} (h0 : 0 ≤ p) (h1 : p ≤ 10000) : ∃ n c p',c.length ≤ 20 ∧ 1 ≤ n ∧ n ≤ 8 ∧ p ≤ p' ∧ p' ≤ p + 62 ∧ ∀ k,50 < k → spec_l7Cables.f k b p = some (n,c,p'):=by
 obtain ⟨n,hn,e1⟩:=num_ok hb [4,6,3,8,2,1,5] h0 (by omega) (by simp)
 have hn2 : 1 ≤ n ∧ n ≤ 8:=by simp at hn;omega
 obtain ⟨i,hi,e2⟩:=num_ok hb [5,8,12,3,0,20] (show 0 ≤ p + 1 by omega) (by omega) (by simp)
 have hi2 : 0 ≤ i ∧ i ≤ 20:=by simp at hi;omega
 obtain ⟨I,rfl⟩:=Int.eq_ofNat_of_zero_le hi2.1
 obtain ⟨c',p',q1,q2,q3,q4⟩:=l7c_at hb n hn2.1 hn2.2 I (p + 1 + 1) [] (by omega) (by omega) (by simp;omega)
 refine ⟨n,c',p',by simp at q1;omega,hn2.1,hn2.2,by omega,by omega,fun k hk => ?_⟩
 unfold spec_l7Cables.f
 rw [e1 k (by omega),Option.bind_some]
 simp only []
 rw [e2 k (by omega),Option.bind_some]
 exact q4 k (by omega)
theorem l19_at {b : List Int} (hb : Bytes b) (m n : Int) (cs : List S83) (hn1 : 1 ≤ n) (hn : n ≤ 8) (d : Nat) : ∀ (p : Int) (hs vs : List Int), 0 ≤ p → p + 3 * d ≤ 100000 → 1 ≤ hs.length + d → hs.length = vs.length → hs.length + d ≤ 15 →
  ∃ n' hs' vs' p',hs'.length ≤ 15 ∧ vs'.length ≤ 15 ∧ 1 ≤ n' ∧ n' ≤ 9 ∧ p ≤ p' ∧ p' ≤ p + 3 * d + 1 ∧ ∀ k,d + 3 < k → spec_l19Net.l0 k m (d : Int) b p n cs hs vs = some (n',cs,hs',vs',p'):=by
 induction d with
 | zero =>
  intro p hs vs hp0 hp1 hx hy hz
  obtain ⟨r,_,_,_,hr⟩:=pick_ok hb 80 hp0 (by omega)
  have key : ∃ n' hs' vs',hs'.length ≤ 15 ∧ vs'.length ≤ 15 ∧ 1 ≤ n' ∧ n' ≤ 9 ∧ ∀ k,3 < k → spec_l19Net.l0 k m ((0 : Nat) : Int) b p n cs hs vs = some (n',cs,hs',vs',p + 1):=by
   by_cases c0 : r = 0
   ·refine ⟨n,hs.set 0 m,vs,by rw [List.length_set];omega,by omega,hn1,by omega,fun k hk => ?_⟩
    obtain ⟨k,rfl⟩ : ∃ m,k = m + 1:=⟨k - 1,by omega⟩
    simp only [spec_l19Net.l0]
    rw [if_neg (by omega),hr k (by omega),Option.bind_some,if_pos c0,if_pos (by omega)]
    rfl
   by_cases c1 : r = 1
   ·refine ⟨n,hs,vs.set 0 0,by omega,by rw [List.length_set];omega,hn1,by omega,fun k hk => ?_⟩
    obtain ⟨k,rfl⟩ : ∃ m,k = m + 1:=⟨k - 1,by omega⟩
    simp only [spec_l19Net.l0]
    rw [if_neg (by omega),hr k (by omega),Option.bind_some,if_neg c0,if_pos c1,if_pos (by omega)]
    rfl
   by_cases c2 : r = 2
   ·refine ⟨n,hs,vs.drop 1,by omega,by rw [List.length_drop];omega,hn1,by omega,fun k hk => ?_⟩
    obtain ⟨k,rfl⟩ : ∃ m,k = m + 1:=⟨k - 1,by omega⟩
    simp only [spec_l19Net.l0]
    rw [if_neg (by omega),hr k (by omega),Option.bind_some,if_neg c0,if_neg c1,if_pos c2,if_pos (by omega)]
    rfl
   by_cases c3 : r = 3
   ·refine ⟨9,hs,vs,by omega,by omega,by omega,by omega,fun k hk => ?_⟩
    obtain ⟨k,rfl⟩ : ∃ m,k = m + 1:=⟨k - 1,by omega⟩
    simp only [spec_l19Net.l0]
    rw [if_neg (by omega),hr k (by omega),Option.bind_some,if_neg c0,if_neg c1,if_neg c2,if_pos c3]
   ·refine ⟨n,hs,vs,by omega,by omega,hn1,by omega,fun k hk => ?_⟩
    obtain ⟨k,rfl⟩ : ∃ m,k = m + 1:=⟨k - 1,by omega⟩
    simp only [spec_l19Net.l0]
    rw [if_neg (by omega),hr k (by omega),Option.bind_some,if_neg c0,if_neg c1,if_neg c2,if_neg c3]
  obtain ⟨n',hs',vs',g1,g2,g3,g4,g5⟩:=key
  exact ⟨n',hs',vs',p + 1,g1,g2,g3,g4,by omega,by omega,fun k hk => g5 k (by omega)⟩
 | succ d ih =>
  intro p hs vs hp0 hp1 hx hy hz
  obtain ⟨r1,_,_,_,e1⟩:=pick_ok hb m hp0 (by omega)
  obtain ⟨r2,_,e2⟩:=num_ok hb [1,2,3] (show 0 ≤ p + 1 by omega) (by omega) (by simp)
  obtain ⟨r3,_,_,_,e3⟩:=pick_ok hb r2 (show 0 ≤ p + 1 + 1 by omega) (by omega)
  obtain ⟨n',hs',vs',p',q1,q2,q3,q4,q5,q6,q7⟩:=ih (p + 1 + 1 + 1) (hs ++ [r1]) (vs ++ [wrap64 (1 + r3)]) (by omega) (by omega) (by simp;omega) (by simp [hy]) (by simp;omega)
  refine ⟨n',hs',vs',p',q1,q2,q3,q4,by omega,by omega,fun k hk => ?_⟩
  obtain ⟨k,rfl⟩ : ∃ m,k = m + 1:=⟨k - 1,by omega⟩
  simp only [spec_l19Net.l0]
  rw [if_pos (by omega),e1 k (by omega),Option.bind_some,if_pos (by omega)]
  simp only []
  rw [e2 k (by omega),Option.bind_some]
  simp only []
  rw [e3 k (by omega),Option.bind_some,if_pos (by omega),wrap_eq (x:=((d + 1 : Nat) : Int) - 1) (by omega) (by omega),show ((d + 1 : Nat) : Int) - 1 = (d : Int) by omega]
  exact q7 k (by omega)
theorem l19_ok {b : List Int} (hb : Bytes b) {p : Int} (h0 : 0 ≤ p) (h1 : p ≤ 1000) : ∃ n cs hs vs p',cs.length ≤ 20 ∧ hs.length ≤ 15 ∧ vs.length ≤ 15 ∧ 1 ≤ n ∧ n ≤ 9 ∧ p ≤ p' ∧ p' ≤ p + 200 ∧ ∀ k,100 < k → spec_l19Net.f k b p = some (n,cs,hs,vs,p'):=by
 obtain ⟨n,c,p1,q1,q2,q3,q4,q5,q6⟩:=l7c_ok hb h0 (by omega)
 obtain ⟨i,hi,e2⟩:=num_ok hb [4,6,3,10,2,1,15] (show 0 ≤ p1 by omega) (by omega) (by simp)
 have hi2 : 1 ≤ i ∧ i ≤ 15:=by simp at hi;omega
 obtain ⟨I,rfl⟩:=Int.eq_ofNat_of_zero_le (show 0 ≤ i by omega)
 obtain ⟨n',hs',vs',p',g1,g2,g3,g4,g5,g6,g7⟩:=l19_at hb n n c q2 q3 I (p1 + 1) [] [] (by omega) (by omega) (by simp;omega) rfl (by simp;omega)
 refine ⟨n',c,hs',vs',p',q1,g1,g2,g3,g4,by omega,by omega,fun k hk => ?_⟩
 unfold spec_l19Net.f
 rw [q6 k (by omega),Option.bind_some]
 simp only []
 rw [e2 k (by omega),Option.bind_some]
 exact g7 k (by omega)
theorem hopInfo : (Try.prog.info? 37).map (fun i => (i.zero,i.size,i.bytes)) = some (some (.agg #[(.int .i64 0),(.int .i64 0),(.int .i64 0)]),3,24):=by kernel_rfl
theorem hop4_ {P : Prop} (r : Int) (a : r = 0 → P) (b : r = 1 → P) (c : r = 2 → P) (d : r ≠ 0 → r ≠ 1 → r ≠ 2 → P) : P:=by
 by_cases h0 : r = 0
 ·exact a h0
 ·by_cases h1 : r = 1
  ·exact b h1
  ·by_cases h2 : r = 2
   ·exact c h2
   ·exact d h0 h1 h2
theorem C_ints {W : World} {b t : Nat} (xs : List Int) (h : W.heap[b]? = some (.cells (xs.map (Value.int .i64)).toArray t (0,0))) (hl : xs.length ≤ 1000) : Kd.C (Kd.int .i64) W (some ⟨b,0,none⟩) xs.length xs:=by
 refine Kd.C_of_reads (d:=(0 : Int)) (h1:=fun _ => rfl) ⟨rfl,by omega,fun _ => ⟨_,rfl,fun i hi => ?_⟩⟩
 have e:=bc_ h i
 have ea : (⟨b,0,none⟩ : Addr).add i = ⟨b,i,none⟩:=by
  unfold Addr.add
  split
  ·next h0 => rw [h0]
  ·simp
 rw [ea,e]
 simp [List.getD_eq_getElem?_getD,List.getElem?_map,hi]
theorem nbx4 {W : World} {b t : Nat} {a0 a1 a2 a3 : Value} (h : W.heap[b]? = some (.cells #[a0,a1,a2,a3] t (0,0))) : W.cell? ⟨b,2,none⟩ = some a2:=(blk_cell h 2).trans rfl
theorem nbx3 {W : World} {b t : Nat} {a0 a1 a2 : Value} (h : W.heap[b]? = some (.cells #[a0,a1,a2] t (0,0))) : W.cell? ⟨b,0,none⟩ = some a0 ∧ W.cell? ⟨b,1,none⟩ = some a1 ∧ W.cell? ⟨b,2,none⟩ = some a2:=⟨(blk_cell h 0).trans rfl,(blk_cell h 1).trans rfl,(blk_cell h 2).trans rfl⟩
theorem R_nilRow {α : Type} (d : Kd α) {e : Nat} {w : World} {base g : Nat} (hb : base ≤ g) (hg : w.heap[g]? = some (.cells #[] e (0,0))) : Kd.R d e w base (fun _ => True) (.slice (some ⟨g,0,none⟩) 0 0) []:=by
 exact ⟨fun _ _ => trivial,[],⟨by simp,Or.inr ⟨g,0,#[],rfl,hb,hg,Nat.le_refl _,by unfold maxLen;omega,by simp,by simp⟩⟩,Reps.none _ _⟩
structure HSt (w0 w : World) (g bx : Nat) (b : List Int) (nb : Obj) (W : World) (p : Int) (okv : Nat → Prop) (v : Value) (l : List S37) : Prop where
 is : IsS94 w0 W g b p
 bel : Below w0.heap.size w0 W
 kp : KeepBut w W g none
 hbx : W.heap[bx]? = some nb
 ne : bx ≠ g
 row : Kd.R k37 37 W w.heap.size okv v l
section
variable {w0 w W W' : World} {g bx : Nat} {b : List Int} {nb : Obj} {p p' : Int} {okv : Nat → Prop} {v v2 : Value} {l l2 : List S37}
theorem HSt.drew (h : HSt w0 w g bx b nb W p okv v l) : HSt w0 w g bx b nb W.drew p okv v l:=⟨h.is.drew,below_drew1 h.bel,keep_drew h.kp,h.hbx,h.ne,Kd.R_drew h.row⟩
theorem HSt.alloc (h : HSt w0 w g bx b nb W p okv v l) (o : Obj) : HSt w0 w g bx b nb (W.alloc o) p okv v l:=⟨h.is.alloc o,below_alloc h.bel o,keep_alloc h.kp o,blk_alloc h.hbx o,h.ne,Kd.R_alloc h.row o⟩
theorem HSt.box (h : HSt w0 w g bx b nb W p (fun _ => True) v l) (o : Obj) : HSt w0 w g bx b nb (W.alloc o) p (fun k => k ≠ W.heap.size) v l :=
 ⟨h.is.alloc o,ba_ h.bel o,keep_alloc h.kp o,ka_ h.hbx o,h.ne,ra_ (rm_ (Kd.R_bound h.row) (fun k hk => by have:=hk.2.2.1;omega)) o⟩
theorem HSt.keep (h : HSt w0 w g bx b nb W p okv v l) (hk : KeepBut W W' g none) (hi : IsS94 w0 W' g b p') (hb : Below w0.heap.size w0 W') : HSt w0 w g bx b nb W' p' okv v l :=
 ⟨hi,hb,KeepBut.trans h.kp hk (.inl rfl),KeepBut.blk hk h.hbx h.ne (by simp),h.ne,rm_ (Kd.R_keep (IsS94.apart h.is h.row (by decide)) hk (fun _ h => h.2)) (fun _ h => h.1)⟩
theorem HSt.set {sb : Nat} (h : HSt w0 w g bx b nb W p (fun k => k ≠ sb) v l) (hL : w0.heap.size ≤ w.heap.size) (h1 : w.heap.size ≤ sb) (h2 : sb ≠ g) (h3 : sb ≠ bx) (i : Nat) (u : Value) : HSt w0 w g bx b nb (W.setCell ⟨sb,i,none⟩ u) p (fun k => k ≠ sb) v l :=
 ⟨h.is.far (fun e => h2 e.symm) u,bs_ h.bel (Nat.le_trans hL h1),keep_far h.kp h1 u,nb_seto h.hbx (fun e => h3 e.symm) i u,h.ne,rf_ (p:=⟨sb,i,none⟩) h.row (fun _ hk => hk) u⟩
theorem HSt.grown {n : Int} {A1 A2 A3 : Option Addr} {m1 c1 m2 c2 m3 c3 : Nat} (h : HSt w0 w g bx b (.cells #[.int .i64 n,.slice A1 m1 c1,.slice A2 m2 c2,.slice A3 m3 c3] 26 (0,0)) W p okv v l) (hL : w0.heap.size ≤ w.heap.size) (ho : Kd.R k37 37 W' w.heap.size okv v2 l2) (hb : Below w.heap.size W W') (hg : W.grownBy W' v.ownBlock) : HSt w0 w g bx b (.cells #[.int .i64 n,.slice A1 m1 c1,.slice A2 m2 c2,.slice A3 m3 c3] 26 (0,0)) W' p okv v2 l2 :=
 ⟨IsS94.grown h.is hg (IsS94.own_ne h.is h.row (by decide)),below_weaken h.bel hL hb,KeepBut.trans h.kp (KeepBut.of_grown hg g) (Kd.R_base2 h.row),blk_grown h.hbx hg (Kd.R_ne h.row h.hbx (by decide)),h.ne,ho⟩
end
set_option maxHeartbeats 4000000 in
set_option maxRecDepth 100000 in
theorem x_hops (w0 w : World) (g : Nat) (b : List Int) (p0 : Int) (hb : Bytes b) (hp0 : 0 ≤ p0) (hp1 : p0 ≤ 10000) (n : Int) (A1 : Option Addr) (m1 c1 : Nat) (A2 : Option Addr) (m2 c2 : Nat) (A3 : Option Addr) (m3 c3 : Nat) (hm2 : m2 ≤ 1000) (hI : IsS94 w0 w g b p0) (hB : Below w0.heap.size w0 w) :
  Calls Try.prog 30 #[.pointer (some ⟨g,0,none⟩),.agg #[.int .i64 n,.slice A1 m1 c1,.slice A2 m2 c2,.slice A3 m3 c3]] w fun e w' => ∃ (v : Value) (l : List S37) (p' : Int),e = .returned v ∧ Kd.R k37 37 w' w.heap.size (fun _ => True) v l ∧ IsS94 w0 w' g b p' ∧ Below w0.heap.size w0 w' ∧ KeepBut w w' g none:=by
 have hu:=Try.underlying26
 have hu3:=Try.underlying37
 have HL:=mk_ hB.size
 have hgl:=hI.lt
 obtain ⟨q,hq,hnum⟩:=num_ok hb [4,6,2,10,1,0] hp0 (by omega) (by simp)
 have hq10 : 0 ≤ q ∧ q ≤ 10:=by simp at hq;omega
 obtain ⟨q,rfl⟩:=Int.eq_ofNat_of_zero_le hq10.1
 have hz1 : (w.alloc (.cells #[.int .i64 n,.slice A1 m1 c1,.slice A2 m2 c2,.slice A3 m3 c3] 26)).heap.size = w.heap.size + 1:=by simp
 have hz2 : ((w.alloc (.cells #[.int .i64 n,.slice A1 m1 c1,.slice A2 m2 c2,.slice A3 m3 c3] 26)).alloc (.cells #[] 37)).heap.size = w.heap.size + 2:=by simp
 have hr0:=R_nilRow k37 (w:=(w.alloc (.cells #[.int .i64 n,.slice A1 m1 c1,.slice A2 m2 c2,.slice A3 m3 c3] 26)).alloc (.cells #[] 37)) (base:=w.heap.size) (g:=w.heap.size + 1) (by omega) (by have:=blk_new (w.alloc (.cells #[.int .i64 n,.slice A1 m1 c1,.slice A2 m2 c2,.slice A3 m3 c3] 26)) (.cells #[] 37);rw [hz1] at this;exact this)
 have hs0 : HSt w0 w g w.heap.size b (.cells #[.int .i64 n,.slice A1 m1 c1,.slice A2 m2 c2,.slice A3 m3 c3] 26 (0,0)) ((w.alloc (.cells #[.int .i64 n,.slice A1 m1 c1,.slice A2 m2 c2,.slice A3 m3 c3] 26)).alloc (.cells #[] 37)) p0 (fun _ => True) (.slice (some ⟨w.heap.size + 1,0,none⟩) 0 0) [] :=
  ⟨(hI.alloc _).alloc _,ba_ (ba_ hB _) _,keep_alloc (keep_alloc (KeepBut.refl _ _ _) _) _,ka_ (blk_new w (.cells #[.int .i64 n,.slice A1 m1 c1,.slice A2 m2 c2,.slice A3 m3 c3] 26)) _,by omega,hr0⟩
 have hc6:=C_ints (W:=((w.alloc (.cells #[.int .i64 n,.slice A1 m1 c1,.slice A2 m2 c2,.slice A3 m3 c3] 26)).alloc (.cells #[] 37)).alloc (.cells #[.int .i64 4,.int .i64 6,.int .i64 2,.int .i64 10,.int .i64 1,.int .i64 0] 3)) (b:=w.heap.size + 2) (t:=3) [4,6,2,10,1,0] (by have:=blk_new ((w.alloc (.cells #[.int .i64 n,.slice A1 m1 c1,.slice A2 m2 c2,.slice A3 m3 c3] 26)).alloc (.cells #[] 37)) (.cells #[.int .i64 4,.int .i64 6,.int .i64 2,.int .i64 10,.int .i64 1,.int .i64 0] 3);rw [hz2] at this;exact this) (by simp)
 have HS:=mk_ (hs0.alloc (.cells #[.int .i64 4,.int .i64 6,.int .i64 2,.int .i64 10,.int .i64 1,.int .i64 0] 3))
 have hcall:=spec_l21Rd_num.calls 100 g b p0 (some ⟨w.heap.size + 2,0,none⟩) 6 [4,6,2,10,1,0] (q : Int) (p0 + 1) w0 _ HS.out.is HS.out.bel hc6 (by simp) (fun ad e _ => by injection e with e;subst e;show w.heap.size + 2 ≠ g;omega) (hnum 100 (by omega))
 have HC:=mk_ hcall
 clear hcall hc6 hs0 hr0 hnum hq hI hB
 go_enter Try.func30,Try.ntmps30
 go_wp2_with fail
 refine HC.out.mono ?_
 rintro e w1 ⟨rfl,hi,hb_,hk⟩
 replace HS:=mk_ (HS.out.keep hk hi hb_)
 clear hi hb_ hk HC
 go_wp2_with fail
 go_loopg [5,6] q (fun gg s5 s6 wr => ∃ (l : List S37) (i : Nat) (p : Int),i ≤ gg ∧ i ≤ 10 ∧ s6 = .int .i64 (i : Int) ∧ l.length + 2 * i ≤ 20 ∧ 0 ≤ p ∧ p + 10 * i ≤ 10200 ∧ Aside0 (HSt w0 w g w.heap.size b (.cells #[.int .i64 n,.slice A1 m1 c1,.slice A2 m2 c2,.slice A3 m3 c3] 26 (0,0)) wr (p) (fun _ => True) s5 l))
 case atStart => exact ⟨[],q,p0 + 1,by omega,by omega,rfl,by simp;omega,by omega,by omega,HS⟩
 case round =>
  clear HS
  obtain ⟨l,i,p,hig,hi10,rfl,hl20,hp0',hp1',HS⟩:=hrel
  cases i with
  | zero =>
   have p1 : ((0 : Int) < ((0 : Nat) : Int)) = False:=eq_false (by omega)
   go_wp2
   go_ret
   exact ⟨_,l,p,rfl,HS.out.row,HS.out.is,HS.out.bel,HS.out.kp⟩
  | succ j =>
   have HLN:=mk_ hl20
   have p1 : ((0 : Int) < ((j + 1 : Nat) : Int)) = True:=eq_true (by omega)
   have p2 : wrap64 (((j + 1 : Nat) : Int) - 1) = (j : Int):=by rw [wrap_eq (by omega) (by omega)];omega
   obtain ⟨ji,hji⟩ : ∃ j_ : Int,(if (m2 : Int) < 1 then 1 else (m2 : Int)) = j_:=⟨_,rfl⟩
   obtain ⟨r1,_,_,_,hk1_⟩:=pick_ok hb ji (p:=p) (by omega) (by omega)
   obtain ⟨r2,_,_,_,hk2_⟩:=pick_ok hb ji (p:=p + 1) (by omega) (by omega)
   obtain ⟨r3,_,_,_,hk3_⟩:=pick_ok hb 12 (p:=p + 1 + 1) (by omega) (by omega)
   have hk1:=mk_ hk1_
   have hk2:=mk_ hk2_
   have hk3:=mk_ hk3_
   clear hk1_ hk2_ hk3_
   go_upto_region 5 with (fail)
   have kz:=nbx4 HS.out.hbx
   refine start_ (n:=15) (S:=fun w' => w'.cell? ⟨w.heap.size,2,none⟩ = some (.slice A2 m2 c2)) (ds:=[]) #[false,false,false,false,false,false,false,false,false,false,false,false,false,false,false] (by kernel_rfl) rfl rfl (kz) (fun hHeld => ?_)
   refine pu_ (i:=0) (N:=some 16) 15 1 ?_
   refine pu_ (i:=1) (N:=some 17) 15 3 ?_
   refine pu_ (i:=6) (N:=some 22) 15 67 ?_
   refine pu_ (i:=7) (N:=some 23) 15 195 ?_
   refine take_ (i:=2) (N:=some 18) (v:=?_) (a':=?_) #[true,true,true,false,false,false,true,true,false,false,false,false,false,false,false] rfl rfl (by kernel_rfl) (fun _ _ _ h => h) (Or.inl ⟨by rfl,?_⟩) hHeld ?_ ?_
   rotate_left
   ·intro w' s0
    go_simp
    with_reducible rfl
   rotate_left
   ·simp only [Act.put,sx_,sy_,sz_,i64_w,i32_w]
    rfl
   refine pu_ (i:=3) (N:=some 19) 15 207 ?_
   refine pu_ (i:=4) (N:=some 20) 15 223 ?_
   refine take_ (i:=8) (N:=some 24) (v:=?_) (a':=?_) #[true,true,true,true,true,false,true,true,true,false,false,false,false,false,false] rfl rfl (by kernel_rfl) (fun _ _ _ h => h) (Or.inl ⟨by rfl,?_⟩) hHeld ?_ ?_
   rotate_left
   ·intro w' s0
    go_simp
    with_reducible rfl
   rotate_left
   ·simp only [Act.put,sx_,sy_,sz_,i64_w,i32_w]
    rfl
   refine pu_ (i:=9) (N:=some 25) 15 991 ?_
   refine pu_ (i:=10) (N:=some 26) 15 2015 ?_
   refine join_ (σ:=Nat) 1 #[true,true,true,true,true,true,true,true,true,true,true,true,true,true,false] (fun s_ => [(21,.int .i64 r1),(27,.int .i64 r2),(7,.pointer (some ⟨s_,0,none⟩)),(28,.agg #[.int .i64 r1,.int .i64 r2,.int .i64 0])]) (fun s_ w' => w'.cell? ⟨w.heap.size,2,none⟩ = some (.slice A2 m2 c2) ∧ Aside0 (HSt w0 w g w.heap.size b (.cells #[.int .i64 n,.slice A1 m1 c1,.slice A2 m2 c2,.slice A3 m3 c3] 26 (0,0)) w' (p + 1 + 1) (fun k => k ≠ s_) u5 l) ∧ Aside0 (w'.heap[s_]? = some (.cells #[.int .i64 0,.int .i64 0,.int .i64 0] 37 (0,0))) ∧ Aside0 (s_ ≠ g) ∧ Aside0 (s_ ≠ w.heap.size) ∧ Aside0 (w.heap.size ≤ s_)) ?_ ?_
   rotate_left
   ·intro hCont
    refine two_ (i:=5) (j:=13) (Ni:=some 21) (Nj:=some 7) #[true,true,true,true,true,true,true,true,true,true,true,false,false,false,false] #[true,true,true,true,true,false,true,true,true,true,true,false,false,true,false] rfl rfl rfl rfl (by kernel_rfl) (by decide) (by decide) (fun K hK => ?_) (fun K hK => ?_)
    ·skip
     refine goes_ Try.func62 (by kernel_rfl) rfl #[.pointer (some ⟨g,0,none⟩),.int .i64 ji] (by rfl) rfl rfl (by simp only [List.map_toArray,List.map_cons,List.map_nil];rfl) ?_
     with_reducible refine (spec_l21Rd_pick.calls 100 g b (p) ji r1 (p + 1) w0 _ HS.out.drew.is HS.out.drew.bel (hk1.out 100 (by omega))).mono ?_
     rintro e wq5 ⟨rfl,hi,hb_,hk⟩
     refine ⟨_,rfl,?_⟩
     replace HS:=mk_ (HS.out.drew.keep hk hi hb_)
     clear hi hb_ hk
     have kq5:=nbx4 HS.out.hbx
     refine hK.out _ _ (kq5) (fun hHeld => ?_)
     clear hK K
     refine norm_ (a':=?_) ?_ ?_
     rotate_left
     ·show Act.put _ (some 21) _ = _
      simp only [Act.put,sx_,sy_,sz_,i64_w,i32_w]
      rfl
     refine two_ (i:=11) (j:=13) (Ni:=some 27) (Nj:=some 7) #[true,true,true,true,true,true,true,true,true,true,true,true,false,false,false] #[true,true,true,true,true,true,true,true,true,true,true,false,false,true,false] rfl rfl rfl rfl (by kernel_rfl) (by decide) (by decide) (fun K hK => ?_) (fun K hK => ?_)
     ·skip
      refine goes_ Try.func62 (by kernel_rfl) rfl #[.pointer (some ⟨g,0,none⟩),.int .i64 ji] (by rfl) rfl rfl (by simp only [List.map_toArray,List.map_cons,List.map_nil];rfl) ?_
      with_reducible refine (spec_l21Rd_pick.calls 100 g b (p + 1) ji r2 (p + 1 + 1) w0 _ HS.out.is HS.out.bel (hk2.out 100 (by omega))).mono ?_
      rintro e wq11 ⟨rfl,hi,hb_,hk⟩
      refine ⟨_,rfl,?_⟩
      replace HS:=mk_ (HS.out.keep hk hi hb_)
      clear hi hb_ hk
      have kq11:=nbx4 HS.out.hbx
      refine hK.out _ _ (kq11) (fun hHeld => ?_)
      clear hK K
      refine norm_ (a':=?_) ?_ ?_
      rotate_left
      ·show Act.put _ (some 27) _ = _
       simp only [Act.put,sx_,sy_,sz_,i64_w,i32_w]
       rfl
      refine pu_ (i:=12) (N:=some 28) 15 8191 ?_
      refine on_ (i:=13) (N:=some 7) 15 16383 (fun K hK => ?_)
      refine value_ (w1:=?_) (v:=?_) (by rfl) rfl ?_ ?_
      rotate_left 2
      ·go_simp
       constructor
       ·rfl
       ·rfl
      have HH:=mk_ (blk_new wq11 (.cells #[.int .i64 0,.int .i64 0,.int .i64 0] 37))
      have HHg : Aside0 (wq11.heap.size ≠ g):=⟨by have:=HS.out.is.lt;omega⟩
      have HHb : Aside0 (wq11.heap.size ≠ w.heap.size):=⟨by have:=blk_lt HS.out.hbx;omega⟩
      have HHl : Aside0 (w.heap.size ≤ wq11.heap.size):=⟨HS.out.kp.1⟩
      replace HS:=mk_ (HS.out.box (.cells #[.int .i64 0,.int .i64 0,.int .i64 0] 37))
      generalize wq11.heap.size = sb at HH HHg HHb HHl HS ⊢
      have kq13:=nbx4 HS.out.hbx
      refine hK.out _ _ (kq13) (fun hHeld => ?_)
      clear hK K
      refine norm_ (a':=?_) ?_ ?_
      rotate_left
      ·show Act.put _ (some 7) _ = _
       simp only [Act.put,sx_,sy_,sz_,i64_w,i32_w]
       rfl
      exact norm_ (by simp only [putAll,Act.put,sx_,sy_,sz_]) (hCont sb _ ⟨nbx4 HS.out.hbx,HS,HH,HHg,HHb,HHl⟩)
     ·skip
      refine value_ (w1:=?_) (v:=?_) (by rfl) rfl ?_ ?_
      rotate_left 2
      ·go_simp
       constructor
       ·rfl
       ·rfl
      have HH:=mk_ (blk_new wq5 (.cells #[.int .i64 0,.int .i64 0,.int .i64 0] 37))
      have HHg : Aside0 (wq5.heap.size ≠ g):=⟨by have:=HS.out.is.lt;omega⟩
      have HHb : Aside0 (wq5.heap.size ≠ w.heap.size):=⟨by have:=blk_lt HS.out.hbx;omega⟩
      have HHl : Aside0 (w.heap.size ≤ wq5.heap.size):=⟨HS.out.kp.1⟩
      replace HS:=mk_ (HS.out.box (.cells #[.int .i64 0,.int .i64 0,.int .i64 0] 37))
      generalize wq5.heap.size = sb at HH HHg HHb HHl HS ⊢
      have kq13:=nbx4 HS.out.hbx
      refine hK.out _ _ (kq13) (fun hHeld => ?_)
      clear hK K
      refine norm_ (a':=?_) ?_ ?_
      rotate_left
      ·show Act.put _ (some 7) _ = _
       simp only [Act.put,sx_,sy_,sz_,i64_w,i32_w]
       rfl
      refine on_ (i:=11) (N:=some 27) 15 12287 (fun K hK => ?_)
      refine goes_ Try.func62 (by kernel_rfl) rfl #[.pointer (some ⟨g,0,none⟩),.int .i64 ji] (by rfl) rfl rfl (by simp only [List.map_toArray,List.map_cons,List.map_nil];rfl) ?_
      with_reducible refine (spec_l21Rd_pick.calls 100 g b (p + 1) ji r2 (p + 1 + 1) w0 _ HS.out.is HS.out.bel (hk2.out 100 (by omega))).mono ?_
      rintro e wq11 ⟨rfl,hi,hb_,hk⟩
      refine ⟨_,rfl,?_⟩
      replace HS:=mk_ (HS.out.keep hk hi hb_)
      replace HH:=mk_ (KeepBut.blk hk HH.out HHg.out (by simp))
      clear hi hb_ hk
      have kq11:=nbx4 HS.out.hbx
      refine hK.out _ _ (kq11) (fun hHeld => ?_)
      clear hK K
      refine norm_ (a':=?_) ?_ ?_
      rotate_left
      ·show Act.put _ (some 27) _ = _
       simp only [Act.put,sx_,sy_,sz_,i64_w,i32_w]
       rfl
      refine pu_ (i:=12) (N:=some 28) 15 16383 ?_
      exact norm_ (by simp only [putAll,Act.put,sx_,sy_,sz_]) (hCont sb _ ⟨nbx4 HS.out.hbx,HS,HH,HHg,HHb,HHl⟩)
    ·skip
     refine value_ (w1:=?_) (v:=?_) (by rfl) rfl ?_ ?_
     rotate_left 2
     ·go_simp
      constructor
      ·rfl
      ·rfl
     have HH:=mk_ (kd_ (blk_new wr (.cells #[.int .i64 0,.int .i64 0,.int .i64 0] 37)))
     have HHg : Aside0 (wr.heap.size ≠ g):=⟨by have:=HS.out.is.lt;omega⟩
     have HHb : Aside0 (wr.heap.size ≠ w.heap.size):=⟨by have:=blk_lt HS.out.hbx;omega⟩
     have HHl : Aside0 (w.heap.size ≤ wr.heap.size):=⟨HS.out.kp.1⟩
     replace HS:=mk_ ((HS.out.box (.cells #[.int .i64 0,.int .i64 0,.int .i64 0] 37)).drew)
     generalize wr.heap.size = sb at HH HHg HHb HHl HS ⊢
     have kq13:=nbx4 HS.out.hbx
     refine hK.out _ _ (kq13) (fun hHeld => ?_)
     clear hK K
     refine norm_ (a':=?_) ?_ ?_
     rotate_left
     ·show Act.put _ (some 7) _ = _
      simp only [Act.put,sx_,sy_,sz_,i64_w,i32_w]
      rfl
     refine on_ (i:=5) (N:=some 21) 15 10239 (fun K hK => ?_)
     refine goes_ Try.func62 (by kernel_rfl) rfl #[.pointer (some ⟨g,0,none⟩),.int .i64 ji] (by rfl) rfl rfl (by simp only [List.map_toArray,List.map_cons,List.map_nil];rfl) ?_
     with_reducible refine (spec_l21Rd_pick.calls 100 g b (p) ji r1 (p + 1) w0 _ HS.out.is HS.out.bel (hk1.out 100 (by omega))).mono ?_
     rintro e wq5 ⟨rfl,hi,hb_,hk⟩
     refine ⟨_,rfl,?_⟩
     replace HS:=mk_ (HS.out.keep hk hi hb_)
     replace HH:=mk_ (KeepBut.blk hk HH.out HHg.out (by simp))
     clear hi hb_ hk
     have kq5:=nbx4 HS.out.hbx
     refine hK.out _ _ (kq5) (fun hHeld => ?_)
     clear hK K
     refine norm_ (a':=?_) ?_ ?_
     rotate_left
     ·show Act.put _ (some 21) _ = _
      simp only [Act.put,sx_,sy_,sz_,i64_w,i32_w]
      rfl
     refine on_ (i:=11) (N:=some 27) 15 12287 (fun K hK => ?_)
     refine goes_ Try.func62 (by kernel_rfl) rfl #[.pointer (some ⟨g,0,none⟩),.int .i64 ji] (by rfl) rfl rfl (by simp only [List.map_toArray,List.map_cons,List.map_nil];rfl) ?_
     with_reducible refine (spec_l21Rd_pick.calls 100 g b (p + 1) ji r2 (p + 1 + 1) w0 _ HS.out.is HS.out.bel (hk2.out 100 (by omega))).mono ?_
     rintro e wq11 ⟨rfl,hi,hb_,hk⟩
     refine ⟨_,rfl,?_⟩
     replace HS:=mk_ (HS.out.keep hk hi hb_)
     replace HH:=mk_ (KeepBut.blk hk HH.out HHg.out (by simp))
     clear hi hb_ hk
     have kq11:=nbx4 HS.out.hbx
     refine hK.out _ _ (kq11) (fun hHeld => ?_)
     clear hK K
     refine norm_ (a':=?_) ?_ ?_
     rotate_left
     ·show Act.put _ (some 27) _ = _
      simp only [Act.put,sx_,sy_,sz_,i64_w,i32_w]
      rfl
     refine pu_ (i:=12) (N:=some 28) 15 16383 ?_
     exact norm_ (by simp only [putAll,Act.put,sx_,sy_,sz_]) (hCont sb _ ⟨nbx4 HS.out.hbx,HS,HH,HHg,HHb,HHl⟩)
   rintro sb wj ⟨hHeld,HS,HH,HHg,HHb,HHl⟩
   refine norm_ (a':=?_) ?_ ?_
   rotate_left
   ·simp only [putAll,Act.put,sx_,sy_,sz_]
    rfl
   refine on_ (i:=14) (N:=none) 15 32767 (fun K hK => ?_)
   obtain ⟨e0,e1,e2⟩:=nbx3 HH.out
   have f0:=bf_ HH.out 0
   have f1:=bf_ HH.out 1
   have f2:=bf_ HH.out 2
   have g1_:=HHb.out
   have g2_:=HHb.out.symm
   refine skip_ (w1:=?_) (by rfl) rfl ?_ ?_
   rotate_left
   ·go_simp
    rfl
   replace HS:=mk_ (((HS.out.set HL.out HHl.out HHg.out HHb.out 0 (.int .i64 r1)).set HL.out HHl.out HHg.out HHb.out 1 (.int .i64 r2)).set HL.out HHl.out HHg.out HHb.out 2 (.int .i64 0))
   replace HH:=mk_ (show (_ : Option Obj) = some (.cells #[.int .i64 r1,.int .i64 r2,.int .i64 0] 37 (0,0)) from nb_setl (nb_setl (nb_setl HH.out 0 (.int .i64 r1)) 1 (.int .i64 r2)) 2 (.int .i64 0))
   generalize ((wj.setCell ⟨sb,0,none⟩ (.int .i64 r1)).setCell ⟨sb,1,none⟩ (.int .i64 r2)).setCell ⟨sb,2,none⟩ (.int .i64 0) = wk at HS HH ⊢
   clear e0 e1 e2 f0 f1 f2 g1_ g2_
   have kq14:=nbx4 HS.out.hbx
   refine hK.out _ _ (kq14) (fun hHeld => ?_)
   clear hK K
   refine done_ (by kernel_rfl) ?_
   clear kz kq14
   go_wp2_with fail
   refine (spec_l21Rd_pick.calls 100 g b (p + 1 + 1) 12 r3 (p + 1 + 1 + 1) w0 _ HS.out.is HS.out.bel (hk3.out 100 (by omega))).mono ?_
   rintro e w5 ⟨rfl,hi,hb_,hk⟩
   replace HS:=mk_ (HS.out.keep hk hi hb_)
   replace HH:=mk_ (KeepBut.blk hk HH.out HHg.out (by simp))
   clear hi hb_ hk hk1 hk2 hk3
   obtain ⟨e0,e1,e2⟩:=nbx3 HH.out
   have f1:=bf_ HH.out 1
   refine hop4_ r3 ?cA ?cB ?cC ?cD
   case' cA =>
    intro d0
    subst d0
    go_upto_region 12 with (fail)
    replace HS:=mk_ (HS.out.set HL.out HHl.out HHg.out HHb.out 1 (.int .i64 15))
    replace HH:=mk_ (show (_ : Option Obj) = some (.cells #[.int .i64 r1,.int .i64 15,.int .i64 0] 37 (0,0)) from nb_setl HH.out 1 (.int .i64 15))
    generalize w5.setCell ⟨sb,1,none⟩ (.int .i64 15) = w6 at HS HH ⊢
    clear e0 e1 e2 f1
    obtain ⟨y1,hy1⟩ : ∃ y1 : Int,(15 : Int) = y1:=⟨_,rfl⟩
    rw [hy1] at HH
    clear hy1
    obtain ⟨q_,hq_⟩ : ∃ q_,p + 1 + 1 + 1 = q_:=⟨_,rfl⟩
    rw [hq_] at HS
   case' cB =>
    intro d0
    subst d0
    go_upto_region 12 with (fail)
    replace HS:=mk_ (HS.out.set HL.out HHl.out HHg.out HHb.out 1 (.int .i64 15))
    replace HH:=mk_ (show (_ : Option Obj) = some (.cells #[.int .i64 r1,.int .i64 15,.int .i64 0] 37 (0,0)) from nb_setl HH.out 1 (.int .i64 15))
    generalize w5.setCell ⟨sb,1,none⟩ (.int .i64 15) = w6 at HS HH ⊢
    clear e0 e1 e2 f1
    obtain ⟨y1,hy1⟩ : ∃ y1 : Int,(15 : Int) = y1:=⟨_,rfl⟩
    rw [hy1] at HH
    clear hy1
    obtain ⟨q_,hq_⟩ : ∃ q_,p + 1 + 1 + 1 = q_:=⟨_,rfl⟩
    rw [hq_] at HS
   case' cC =>
    intro d0
    subst d0
    obtain ⟨y1,_,hn_⟩:=num_ok hb [r1,-1,r1,r1,14] (p:=p + 1 + 1 + 1) (by omega) (by omega) (by simp)
    have hc5:=C_ints (W:=w5.alloc (.cells #[.int .i64 r1,.int .i64 (-1),.int .i64 r1,.int .i64 r1,.int .i64 14] 3)) (b:=w5.heap.size) (t:=3) [r1,-1,r1,r1,14] (blk_new w5 _) (by simp)
    have hs5:=HS.out.alloc (.cells #[.int .i64 r1,.int .i64 (-1),.int .i64 r1,.int .i64 r1,.int .i64 14] 3)
    have hcall:=spec_l21Rd_num.calls 100 g b (p + 1 + 1 + 1) (some ⟨w5.heap.size,0,none⟩) 5 [r1,-1,r1,r1,14] y1 (p + 1 + 1 + 1 + 1) w0 _ hs5.is hs5.bel hc5 (by simp) (fun ad e _ => by injection e with e;subst e;have:=HS.out.is.lt;show w5.heap.size ≠ g;omega) (hn_ 100 (by omega))
    have HC:=mk_ hcall
    replace HS:=mk_ hs5
    replace HH:=mk_ (ka_ HH.out (.cells #[.int .i64 r1,.int .i64 (-1),.int .i64 r1,.int .i64 r1,.int .i64 14] 3))
    clear hcall hs5 hc5 hn_
    go_wp2_with fail
    refine HC.out.mono ?_
    rintro e w7 ⟨rfl,hi,hb_,hk⟩
    replace HS:=mk_ (HS.out.keep hk hi hb_)
    replace HH:=mk_ (KeepBut.blk hk HH.out HHg.out (by simp))
    clear hi hb_ hk HC e0 e1 e2 f1
    obtain ⟨e0,e1,e2⟩:=nbx3 HH.out
    have f1:=bf_ HH.out 1
    go_upto_region 12 with (fail)
    replace HS:=mk_ (HS.out.set HL.out HHl.out HHg.out HHb.out 1 (.int .i64 y1))
    replace HH:=mk_ (show (_ : Option Obj) = some (.cells #[.int .i64 r1,.int .i64 y1,.int .i64 0] 37 (0,0)) from nb_setl HH.out 1 (.int .i64 y1))
    generalize w7.setCell ⟨sb,1,none⟩ (.int .i64 y1) = w6 at HS HH ⊢
    clear e0 e1 e2 f1
    obtain ⟨q_,hq_⟩ : ∃ q_,p + 1 + 1 + 1 + 1 = q_:=⟨_,rfl⟩
    rw [hq_] at HS
   case' cD =>
    intro d0 d1 d2
    have d0b : (r3 == 0) = false:=beq_eq_false_iff_ne.mpr d0
    have d1b : (r3 == 1) = false:=beq_eq_false_iff_ne.mpr d1
    have d2b : (r3 == 2) = false:=beq_eq_false_iff_ne.mpr d2
    clear d0 d1 d2
    go_upto_region 12 with (fail)
    clear e0 e1 e2 f1 d0b d1b d2b
    obtain ⟨y1,hy1⟩ : ∃ y1 : Int,r2 = y1:=⟨_,rfl⟩
    rw [hy1] at HH
    clear hy1
    obtain ⟨q_,hq_⟩ : ∃ q_,p + 1 + 1 + 1 = q_:=⟨_,rfl⟩
    rw [hq_] at HS
   all_goals
    obtain ⟨e0,e1,e2⟩:=nbx3 HH.out
    obtain ⟨r4,_,_,_,hk4_⟩:=pick_ok hb 3 (p:=q_) (by omega) (by omega)
    have hk4:=mk_ hk4_
    clear hk4_
    go_wp2_with (first|((with_reducible refine gate_builtin (b:=.append) (xs:=#[.tmp 47,.tmp 49]) rfl ?_);at_builtin;refine Kd.R_append k37 w.heap.size rfl (.tmp 47) (.tmp 49) 27 37 (.agg #[(.int .i64 0),(.int .i64 0),(.int .i64 0)]) 24 rfl Try.underlying27 hopInfo rfl (by decide) (by omega) u5 l (⟨r1,y1,0⟩ : S37) [.int .i64 r1,.int .i64 y1,.int .i64 0] (fun k_ => k_ ≠ sb) (fun _ => False) rfl (by first|(go_simp;done)|(go_simp;rfl)) (k37_mkM _ _ _ (⟨r1,y1,0⟩ : S37)) (fun _ hk => hk.elim) (fun k_ hk => Kd.freshB HH.out k_ hk) HS.out.row (Below.refl _ _) HS.out.kp.1 ?aL ?_;(case aL => have:=HLN.out;(try simp only [List.length_append,List.length_singleton]);omega);intro v2 w2 ho hb_ hg hat))
    have HH2:=mk_ (blk_grown HH.out hg (Kd.R_away HS.out.row (fun _ hk => hk)))
    replace HS:=mk_ (HS.out.grown HL.out ho hb_ hg)
    replace HH:=HH2
    clear HH2 ho hb_ hg hat e0 e1 e2
    go_wp2_with fail
    refine (spec_l21Rd_pick.calls 100 g b (q_) 3 r4 (q_ + 1) w0 _ HS.out.is HS.out.bel (hk4.out 100 (by omega))).mono ?_
    rintro e w3 ⟨rfl,hi,hb_,hk⟩
    replace HS:=mk_ (HS.out.keep hk hi hb_)
    replace HH:=mk_ (KeepBut.blk hk HH.out HHg.out (by simp))
    clear hi hb_ hk hk4
    obtain ⟨e0,e1,e2⟩:=nbx3 HH.out
    by_cases d1 : r4 = 0
    ·have d1b : (r4 == 0) = true:=beq_iff_eq.mpr d1
     clear d1
     by_cases d2 : y1 < 15
     ·have d2b : decide (y1 < 15) = true:=decide_eq_true d2
      clear d2
      go_wp2_with (first|((with_reducible refine gate_builtin (b:=.append) (xs:=#[.tmp 59,.tmp 65]) rfl ?_);at_builtin;refine Kd.R_append k37 w.heap.size rfl (.tmp 59) (.tmp 65) 27 37 (.agg #[(.int .i64 0),(.int .i64 0),(.int .i64 0)]) 24 rfl Try.underlying27 hopInfo rfl (by decide) (by omega) v2 (l ++ [(⟨r1,y1,0⟩ : S37)]) (⟨y1,r1,0⟩ : S37) [.int .i64 y1,.int .i64 r1,.int .i64 0] (fun k_ => k_ ≠ sb) (fun _ => False) rfl (by first|(go_simp;done)|(go_simp;rfl)) (k37_mkM _ _ _ (⟨y1,r1,0⟩ : S37)) (fun _ hk => hk.elim) (fun k_ hk => Kd.freshB HH.out k_ hk) HS.out.row (Below.refl _ _) HS.out.kp.1 ?aL ?_;(case aL => have:=HLN.out;(try simp only [List.length_append,List.length_singleton]);omega);intro v3 w4 ho hb_ hg hat))
      replace HS:=mk_ (HS.out.grown HL.out ho hb_ hg)
      clear ho hb_ hg hat e0 e1 e2
      go_wp2
      go_roundg j
      case measure => omega
      case rel => exact ⟨(l ++ [(⟨r1,y1,0⟩ : S37)]) ++ [(⟨y1,r1,0⟩ : S37)],j,q_ + 1,by omega,by omega,rfl,by simp only [List.length_append,List.length_singleton];have:=HLN.out;omega,by omega,by omega,⟨⟨HS.out.is,HS.out.bel,HS.out.kp,HS.out.hbx,HS.out.ne,rm_ HS.out.row (fun _ _ => trivial)⟩⟩⟩
     ·have d2b : decide (y1 < 15) = false:=decide_eq_false d2
      clear d2
      go_wp2
      go_roundg j
      case measure => omega
      case rel => exact ⟨l ++ [(⟨r1,y1,0⟩ : S37)],j,q_ + 1,by omega,by omega,rfl,by simp only [List.length_append,List.length_singleton];have:=HLN.out;omega,by omega,by omega,⟨⟨HS.out.is,HS.out.bel,HS.out.kp,HS.out.hbx,HS.out.ne,rm_ HS.out.row (fun _ _ => trivial)⟩⟩⟩
    ·have d1b : (r4 == 0) = false:=beq_eq_false_iff_ne.mpr d1
     clear d1
     go_wp2
     go_roundg j
     case measure => omega
     case rel => exact ⟨l ++ [(⟨r1,y1,0⟩ : S37)],j,q_ + 1,by omega,by omega,rfl,by simp only [List.length_append,List.length_singleton];have:=HLN.out;omega,by omega,by omega,⟨⟨HS.out.is,HS.out.bel,HS.out.kp,HS.out.hbx,HS.out.ne,rm_ HS.out.row (fun _ _ => trivial)⟩⟩⟩
theorem nbd4 {W : World} {b t : Nat} {a0 a1 a2 a3 : Value} (h : W.heap[b]? = some (.cells #[a0, a1, a2, a3] t (0, 0))) :
  W.cell? ⟨b,0,none⟩ = some a0 ∧ W.cell? ⟨b,1,none⟩ = some a1 ∧ W.cell? ⟨b,2,none⟩ = some a2 ∧ W.cell? ⟨b,3,none⟩ = some a3 :=
 ⟨(bc_ h 0).trans rfl,(bc_ h 1).trans rfl,(bc_ h 2).trans rfl,(bc_ h 3).trans rfl⟩
theorem R_set4 {α : Type} {d : Kd α} {e base a t : Nat} {ok : Nat → Prop} {W : World} {v : Value} {xs : List α} {cs : Array Value} (h : d.R e W base ok v xs) (hn : W.heap[a]? = some (.cells cs t (0, 0))) (ht : ∀ q, q ∈ e :: d.E → q ≠ t) (u0 u1 u2 u3 : Value) :
  d.R e ((((W.setCell ⟨a,0,none⟩ u0).setCell ⟨a,1,none⟩ u1).setCell ⟨a,2,none⟩ u2).setCell ⟨a,3,none⟩ u3) base ok v xs :=
 rm_ (rf_ (p:=⟨a,3,none⟩) (rf_ (p:=⟨a,2,none⟩) (rf_ (p:=⟨a,1,none⟩) (rf_ (p:=⟨a,0,none⟩) (rt_ h hn ht) (λ_ h=>h.2) u0) (λ_ h=>h.2) u1) (λ_ h=>h.2) u2) (λ_ h=>h.2) u3) (fun _ hk => hk.1)
theorem Q_set4 {α : Type} {d : Kd α} {e base a t : Nat} {ok : Nat → Prop} {W : World} {v : Value} {xs : List α} {cs : Array Value} (h : d.Q e W base ok v xs) (hn : W.heap[a]? = some (.cells cs t (0, 0))) (ht : ∀ q, q ∈ e :: d.E → q ≠ t) (u0 u1 u2 u3 : Value) :
  d.Q e ((((W.setCell ⟨a,0,none⟩ u0).setCell ⟨a,1,none⟩ u1).setCell ⟨a,2,none⟩ u2).setCell ⟨a,3,none⟩ u3) base ok v xs :=
 Kd.Q_mono (Kd.Q_far (p:=⟨a,3,none⟩) (Kd.Q_far (p:=⟨a,2,none⟩) (Kd.Q_far (p:=⟨a,1,none⟩) (Kd.Q_far (p:=⟨a,0,none⟩) (Kd.Q_types h hn ht) (λ_ h=>h.2) u0) (λ_ h=>h.2) u1) (λ_ h=>h.2) u2) (λ_ h=>h.2) u3) (fun _ hk => hk.1)
set_option maxHeartbeats 4000000 in
set_option maxRecDepth 100000 in
theorem x_draw (A0 : Option Addr) (c0 : Nat) (l0 : List Int) (w : World) (hr0 : Kd.C (Kd.int .u8) w A0 l0.length l0) (hc0 : l0.length ≤ c0) (hw : ∀ x ∈ l0, (Lit.int .u8 x).wf = true) :
  Calls Try.prog 8 #[.slice A0 l0.length c0] w fun e w' => ∃ (n : Int) (cs : List S83) (hs vs : List Int) (l : List S37) (v1 v2 v3 v4 : Value),e = .returned (.tuple #[.agg #[.int .i64 n,v1,v2,v3],v4]) ∧
   Kd.R k83 83 w' w.heap.size (fun _ => True) v1 cs ∧ Kd.R (Kd.int .i64) 3 w' w.heap.size (fun _ => True) v2 hs ∧ Kd.Q (Kd.int .i64) 3 w' w.heap.size (fun _ => True) v3 vs ∧ Kd.R k37 37 w' w.heap.size (fun _ => True) v4 l ∧ Below w.heap.size w w':=by
 have hu:=Try.underlying26
 obtain ⟨b,hbo,hb⟩:=open_ok l0 hw
 obtain ⟨n,cs,hs,vs,p,q1,q2,q3,q4,q5,q6,q7,q8⟩:=l19_ok hb (p:=0) (by omega) (by omega)
 have HP:=mk_ (show 0 ≤ p ∧ p ≤ 10000 by omega)
 have HM:=mk_ (show hs.length ≤ 1000 by omega)
 have hba:=ba_ (Below.refl w.heap.size w) (.cells #[.int .i64 0,.slice none 0 0,.slice none 0 0,.slice none 0 0] 26)
 have HN2:=mk_ (blk_new w (.cells #[.int .i64 0,.slice none 0 0,.slice none 0 0,.slice none 0 0] 26))
 have HO:=mk_ (spec_l21Open.calls A0 c0 l0 b 0 w (w.alloc (.cells #[.int .i64 0,.slice none 0 0,.slice none 0 0,.slice none 0 0] 26)) hba hr0 hc0 hbo)
 have HNET:=mk_ (fun g W hi hB => spec_l19Net.calls 101 g b 0 n cs hs vs p w W hi hB (q8 101 (by omega)))
 clear hba hr0 hc0 hbo q1 q2 q3 q4 q5 q6 q7 q8 hw
 go_enter Try.func8,Try.ntmps8
 go_wp2_with fail
 refine HO.out.mono ?_
 rintro e w1 ⟨g,rfl,hi,hb1,hb2⟩
 replace HN2:=mk_ (blk_below HN2.out hb2)
 have HG2 : Aside0 (w.heap.size ≠ g):=⟨fun e => IsS94.ne_blk hi HN2.out (by decide) e.symm⟩
 have HL1:=mk_ hb1.size
 clear hb2 HO
 go_wp2_with fail
 refine (HNET.out g w1 hi hb1).mono ?_
 rintro e w2 ⟨v1,v2,v3,rfl,h1,h2,h3,hi2,hb2,hk2⟩
 obtain ⟨X1,x1,rfl⟩:=Kd.R_slice h1
 obtain ⟨X2,x2,rfl⟩:=Kd.R_slice h2
 obtain ⟨X3,x3,rfl⟩ : ∃ A c,v3 = .slice A vs.length c:=by
  obtain ⟨_,_,ho,_⟩:=h3
  obtain ⟨A',c',he,_⟩:=q_slice ho
  exact ⟨A',c',he⟩
 have H1:=mk_ (ra_ (rm_ (Kd.R_lower h1 HL1.out) (ok':=fun _ => True) (fun _ _ => trivial)) (.cells #[.int .i64 n,.slice X1 cs.length x1,.slice X2 hs.length x2,.slice X3 vs.length x3] 26))
 have H2:=mk_ (ra_ (rm_ (Kd.R_lower h2 HL1.out) (ok':=fun _ => True) (fun _ _ => trivial)) (.cells #[.int .i64 n,.slice X1 cs.length x1,.slice X2 hs.length x2,.slice X3 vs.length x3] 26))
 have H3:=mk_ (Kd.Q_alloc (Kd.Q_mono (Kd.Q_lower h3 HL1.out) (ok':=fun _ => True) (fun _ _ => trivial)) (.cells #[.int .i64 n,.slice X1 cs.length x1,.slice X2 hs.length x2,.slice X3 vs.length x3] 26))
 have hlt2:=blk_lt (KeepBut.blk hk2 HN2.out HG2.out (by simp))
 replace HN2:=mk_ (ka_ (KeepBut.blk hk2 HN2.out HG2.out (by simp)) (.cells #[.int .i64 n,.slice X1 cs.length x1,.slice X2 hs.length x2,.slice X3 vs.length x3] 26))
 have HN5:=mk_ (blk_new w2 (.cells #[.int .i64 n,.slice X1 cs.length x1,.slice X2 hs.length x2,.slice X3 vs.length x3] 26))
 have HG5 : Aside0 (w2.heap.size ≠ g):=⟨by have:=hi2.lt;omega⟩
 have HN25 : Aside0 (w2.heap.size ≠ w.heap.size):=⟨by omega⟩
 have HI:=mk_ (hi2.alloc (.cells #[.int .i64 n,.slice X1 cs.length x1,.slice X2 hs.length x2,.slice X3 vs.length x3] 26))
 have HB:=mk_ (ba_ hb2 (.cells #[.int .i64 n,.slice X1 cs.length x1,.slice X2 hs.length x2,.slice X3 vs.length x3] 26))
 clear h1 h2 h3 hi hi2 hb1 hb2 hk2 HNET hlt2
 go_upto_region 3 with (fail)
 generalize w2.alloc (.cells #[.int .i64 n,.slice X1 cs.length x1,.slice X2 hs.length x2,.slice X3 vs.length x3] 26) = W3 at H1 H2 H3 HN2 HN5 HI HB ⊢
 generalize w2.heap.size = b5 at HN5 HG5 HN25 ⊢
 obtain ⟨k0,k1,k2,k3⟩:=nbd4 HN5.out
 refine start_ (n:=6) (S:=fun w' => w'.cell? ⟨b5,0,none⟩ = some (.int .i64 n) ∧ w'.cell? ⟨b5,1,none⟩ = some (.slice X1 cs.length x1) ∧ w'.cell? ⟨b5,2,none⟩ = some (.slice X2 hs.length x2) ∧ w'.cell? ⟨b5,3,none⟩ = some (.slice X3 vs.length x3)) (ds:=[4]) #[false,false,false,false,false,false] (by kernel_rfl) rfl rfl ⟨k0,k1,k2,k3⟩ (fun hHeld => ?_)
 refine pu_ (i:=1) (N:=some 11) 6 2 ?_
 refine ta4_ (i:=0) (N:=some 10) 6 3 hHeld ?_
 refine ta4_ (i:=2) (N:=some 12) 6 7 hHeld ?_
 refine on_ (i:=3) (N:=some 13) 6 15 (fun K hK => ?_)
 refine goes_ Try.func30 (by kernel_rfl) rfl #[.pointer (some ⟨g,0,none⟩),.agg #[.int .i64 n,.slice X1 cs.length x1,.slice X2 hs.length x2,.slice X3 vs.length x3]] (by rfl) rfl rfl (by simp only [List.map_toArray,List.map_cons,List.map_nil];rfl) ?_
 with_reducible refine (x_hops w _ g b p hb HP.out.1 HP.out.2 n X1 cs.length x1 X2 hs.length x2 X3 vs.length x3 HM.out HI.out.drew (bd_ HB.out)).mono ?_
 rintro e w4 ⟨v4,l,p',rfl,h4,hi4,hb4,hk4⟩
 refine ⟨_,rfl,?_⟩
 obtain ⟨X4,x4,rfl⟩:=Kd.R_slice h4
 have H4:=mk_ (rm_ (Kd.R_lower h4 HB.out.size) (ok':=fun _ => True) (fun _ _ => trivial))
 replace H1:=mk_ (rm_ (Kd.R_keep (IsS94.apart HI.out H1.out (by decide)) hk4 (fun _ h => h.2)) (ok':=fun _ => True) (fun _ _ => trivial))
 replace H2:=mk_ (rm_ (Kd.R_keep (IsS94.apart HI.out H2.out (by decide)) hk4 (fun _ h => h.2)) (ok':=fun _ => True) (fun _ _ => trivial))
 replace H3:=mk_ (Kd.Q_mono (Kd.Q_keep (IsS94.apartQ HI.out H3.out (by decide)) hk4 (fun _ h => h.2)) (ok':=fun _ => True) (fun _ _ => trivial))
 replace HN2:=mk_ (KeepBut.blk hk4 HN2.out HG2.out (by simp))
 replace HN5:=mk_ (KeepBut.blk hk4 HN5.out HG5.out (by simp))
 replace HB:=mk_ hb4
 clear h4 hi4 hb4 hk4 HI
 obtain ⟨i0,i1,i2,i3⟩:=nbd4 HN5.out
 refine hK.out _ _ ⟨i0,i1,i2,i3⟩ (fun hHeld => ?_)
 clear hK K
 refine norm_ (a':=?_) ?_ ?_
 rotate_left
 ·show Act.put _ (some 13) _ = _
  simp only [Act.put,sx_,sy_,sz_,i64_w,i32_w]
  rfl
 refine last_ (i:=4) (N:=none) #[true,true,true,true,true,false] rfl rfl (by kernel_rfl) (by decide) (fun K hK => ?_)
 obtain ⟨e0,e1,e2,e3⟩:=nbd4 HN2.out
 have f0:=bf_ HN2.out 0
 have f1:=bf_ HN2.out 1
 have f2:=bf_ HN2.out 2
 have f3:=bf_ HN2.out 3
 refine skip_ (w1:=?_) (by rfl) rfl ?_ ?_
 rotate_left
 ·go_simp
  rfl
 refine hK.out _ _ ?_
 clear hK K
 refine pu_ (i:=5) (N:=some 3) 6 63 ?_
 refine done_ (by kernel_rfl) ?_
 go_wp2
 have hn2:=nb_setl (nb_setl (nb_setl (nb_setl HN2.out 0 (.int .i64 n)) 1 (.slice X1 cs.length x1)) 2 (.slice X2 hs.length x2)) 3 (.slice X3 vs.length x3)
 refine bodyPost_ret (results_ct rfl _ _ w.heap.size 26 #[.int .i64 n,.slice X1 cs.length x1,.slice X2 hs.length x2,.slice X3 vs.length x3] (0,0) _ rfl hn2 Try.underlying26 rfl (by kernel_rfl)) rfl ?_
 exact ⟨n,cs,hs,vs,l,_,_,_,_,rfl,R_set4 H1.out HN2.out (by decide) _ _ _ _,R_set4 H2.out HN2.out (by decide) _ _ _ _,Q_set4 H3.out HN2.out (by decide) _ _ _ _,R_set4 H4.out HN2.out (by decide) _ _ _ _,(((HB.out.setCell (p:=⟨w.heap.size,0,none⟩) (Nat.le_refl _) _).setCell (p:=⟨w.heap.size,1,none⟩) (Nat.le_refl _) _).setCell (p:=⟨w.heap.size,2,none⟩) (Nat.le_refl _) _).setCell (p:=⟨w.heap.size,3,none⟩) (Nat.le_refl _) _⟩
theorem iindex_at (l : List Int) (x : Int) (hl : l.length ≤ 1000000) (d : Nat) : ∀ (k i : Nat),i + d = l.length → d < k → ∃ z,slices_Index_int_int.l0 k l x l.length (i : Int) = some z ∧ decide (z ≥ 0) = hasL (l.drop i) x:=by
 induction d with
 | zero =>
  intro k i h1 hk
  obtain ⟨k,rfl⟩ : ∃ m,k = m + 1:=⟨k - 1,by omega⟩
  simp only [slices_Index_int_int.l0]
  rw [if_neg (by omega),List.drop_of_length_le (by omega)]
  exact ⟨-1,rfl,rfl⟩
 | succ d ih =>
  intro k i h1 hk
  obtain ⟨k,rfl⟩ : ∃ m,k = m + 1:=⟨k - 1,by omega⟩
  have hi : i < l.length:=by omega
  simp only [slices_Index_int_int.l0]
  rw [if_pos (by omega),if_pos (by omega),if_pos (by omega),rd_get l i hi,wrap_succ hi (by omega),List.drop_eq_getElem_cons hi,hasL_cons]
  by_cases c : x = l[i]
  ·rw [if_pos c,decide_eq_true c.symm,Bool.true_or]
   exact ⟨(i : Int),rfl,decide_eq_true (by omega)⟩
  ·rw [if_neg c,decide_eq_false (fun h => c h.symm),Bool.false_or]
   exact ih k (i + 1) (by omega) (by omega)
theorem icontains_eq (l : List Int) (x : Int) (hl : l.length ≤ 1000000) (k : Nat) (hk : l.length < k) : slices_Contains_int_int.f k l x = some (hasL l x):=by
 obtain ⟨z,h1,h2⟩:=iindex_at l x hl l.length k 0 (by omega) hk
 unfold slices_Contains_int_int.f slices_Index_int_int.f
 rw [show (slices_Index_int_int.l0 k l x (l.length : Int) 0) = some z from h1,Option.bind_some,h2,List.drop_zero]
theorem iway_l1 (x y : List Int) (hx : x.length ≤ 100) (hy : y.length ≤ 100) (d : Nat) : ∀ (k i : Nat) (acc : List Int), i + d = y.length → acc.length + d ≤ 1000 → d + 200 < k →
  impl_TreeWay.l1 k x acc y y.length (i : Int) = (slices_Sort_int_int.f (k - d - 1) (acc ++ (y.drop i).filter (fun c => !hasL x c))).bind fun t => some t:=by
 induction d with
 | zero =>
  intro k i acc h1 h2 hk
  obtain ⟨k,rfl⟩ : ∃ m,k = m + 1:=⟨k - 1,by omega⟩
  simp only [impl_TreeWay.l1]
  rw [if_neg (by omega),List.drop_of_length_le (by omega),List.filter_nil,List.append_nil]
  rfl
 | succ d ih =>
  intro k i acc h1 h2 hk
  obtain ⟨k,rfl⟩ : ∃ m,k = m + 1:=⟨k - 1,by omega⟩
  have hi : i < y.length:=by omega
  simp only [impl_TreeWay.l1]
  rw [if_pos (by omega),if_pos (by omega),if_pos (by omega),rd_get y i hi,icontains_eq x _ (by omega) k (by omega),Option.bind_some,wrap_succ hi (by omega),List.drop_eq_getElem_cons hi,show k + 1 - (d + 1) - 1 = k - d - 1 by omega]
  cases c : hasL x y[i] with
  | true => rw [if_pos rfl,List.filter_cons_of_neg (by simp [c])];exact ih k (i + 1) acc (by omega) (by omega) (by omega)
  | false => rw [if_neg (by decide),if_pos (by omega),List.filter_cons_of_pos (by simp [c]),ih k (i + 1) _ (by omega) (by simp;omega) (by omega),List.append_assoc];rfl
theorem iway_l0 (x y : List Int) (hx : x.length ≤ 100) (hy : y.length ≤ 100) (d : Nat) : ∀ (k i : Nat) (acc : List Int), i + d = x.length → acc.length + d ≤ 1000 → d + 200 < k →
  impl_TreeWay.l0 k x y acc x x.length (i : Int) = impl_TreeWay.l1 (k - d - 1) x (acc ++ (x.drop i).filter (fun c => !hasL y c)) y y.length 0:=by
 induction d with
 | zero =>
  intro k i acc h1 h2 hk
  obtain ⟨k,rfl⟩ : ∃ m,k = m + 1:=⟨k - 1,by omega⟩
  simp only [impl_TreeWay.l0]
  rw [if_neg (by omega),List.drop_of_length_le (by omega),List.filter_nil,List.append_nil]
  rfl
 | succ d ih =>
  intro k i acc h1 h2 hk
  obtain ⟨k,rfl⟩ : ∃ m,k = m + 1:=⟨k - 1,by omega⟩
  have hi : i < x.length:=by omega
  simp only [impl_TreeWay.l0]
  rw [if_pos (by omega),if_pos (by omega),if_pos (by omega),rd_get x i hi,icontains_eq y _ (by omega) k (by omega),Option.bind_some,wrap_succ hi (by omega),List.drop_eq_getElem_cons hi,show k + 1 - (d + 1) - 1 = k - d - 1 by omega]
  cases c : hasL y x[i] with
  | true => rw [if_pos rfl,List.filter_cons_of_neg (by simp [c])];exact ih k (i + 1) acc (by omega) (by omega) (by omega)
  | false => rw [if_neg (by decide),if_pos (by omega),List.filter_cons_of_pos (by simp [c]),ih k (i + 1) _ (by omega) (by simp;omega) (by omega),List.append_assoc];rfl
theorem filM_asc (p : Int → Bool) (d : Nat) : ∀ i,(filM p d i).Pairwise (· < ·):=by
 induction d with
 | zero => exact fun _ => List.Pairwise.nil
 | succ d ih =>
  intro i
  rw [filM]
  split
  ·exact List.Pairwise.cons (fun x hx => by have:=((filM_mem p d (i + 1) x).1 hx).1;omega) (ih (i + 1))
  ·exact ih (i + 1)
def wayB (N : Nat) (cs : List S83) (a b : Nat) (i : Int) : Bool:=hasL (upsL N cs a) i != hasL (upsL N cs b) i
theorem map_filter_not {u : Nat → Int} {p t v : List Nat} (hu : ∀ x ∈ p ++ t,∀ y ∈ v,u x = u y → x = y) (hp : ∀ x ∈ p,x ∉ v) (ht : ∀ x ∈ t,x ∈ v) : ((p ++ t).map u).filter (fun c => !hasL (v.map u) c) = p.map u:=by
 rw [List.map_append,List.filter_append]
 have h1 : (p.map u).filter (fun c => !hasL (v.map u) c) = p.map u:=by
  rw [List.filter_eq_self]
  intro c hc
  obtain ⟨x,hx,rfl⟩:=List.mem_map.1 hc
  cases e : hasL (v.map u) (u x) with
  | false => rfl
  | true =>
   obtain ⟨y,hy,hxy⟩:=List.mem_map.1 ((hasL_iff _ _).1 e)
   have:=hu x (List.mem_append_left _ hx) y hy hxy.symm
   exact absurd (this ▸ hy) (hp x hx)
 have h2 : (t.map u).filter (fun c => !hasL (v.map u) c) = []:=by
  rw [List.filter_eq_nil_iff]
  intro c hc
  obtain ⟨x,hx,rfl⟩:=List.mem_map.1 hc
  rw [(hasL_iff _ _).2 (List.mem_map.2 ⟨x,ht x hx,rfl⟩)]
  decide
 rw [h1,h2,List.append_nil]
theorem nodup_map {u : Nat → Int} {l : List Nat} (h : l.Nodup) (hu : ∀ x ∈ l,∀ y ∈ l,u x = u y → x = y) : (l.map u).Nodup:=by
 induction l with
 | nil => exact List.Pairwise.nil
 | cons x l ih =>
  obtain ⟨h1,h2⟩:=List.nodup_cons.1 h
  rw [List.map_cons,List.nodup_cons]
  refine ⟨fun hm => ?_,ih h2 (fun y hy z hz => hu y (List.mem_cons_of_mem _ hy) z (List.mem_cons_of_mem _ hz))⟩
  obtain ⟨y,hy,e⟩:=List.mem_map.1 hm
  exact h1 ((hu x List.mem_cons_self y (List.mem_cons_of_mem _ hy) e.symm) ▸ hy)
theorem way_parts {N : Nat} {cs : List S83} (hv : cabsB (N : Int) cs = true) {a b : Nat} (ha : a < N) (hb : b < N) (hr : gD (rootsL N cs) a = gD (rootsL N cs) b) : ∃ p q m, (upsL N cs a).filter (fun c => !hasL (upsL N cs b) c) = p.map (upN N cs) ∧ (upsL N cs b).filter (fun c => !hasL (upsL N cs a) c) = q.map (upN N cs) ∧
  Ch (upN N cs) (nxN N cs) a p m ∧ Ch (upN N cs) (nxN N cs) b q m ∧ p.length + q.length < N ∧ (∀ x ∈ p ++ q,x < N ∧ 0 ≤ upN N cs x ∧ gD (rootsL N cs) x = gD (rootsL N cs) a) ∧ ((p ++ q).map (upN N cs)).Nodup ∧ (∀ i,wayB N cs a b i = hasL ((p ++ q).map (upN N cs)) i):=by
 have hs:=sound_of hv
 obtain ⟨f1,f2,f3,f4⟩:=cabsB_facts hv
 obtain ⟨w,r,q1,q2,q3,q4,q5,q6,q7,q8⟩:=way_up hv ha
 obtain ⟨v,r2,g1,g2,g3,g4,g5,g6,g7,g8⟩:=way_up hv hb
 obtain rfl : r = r2:=by omega
 obtain ⟨p,q,t,m,rfl,rfl,m3,m4,m5,m6⟩:=ch_meet (upOk_of hv) hb g1 g2 q1 ha
 have eu : upsL N cs a = (p ++ t).map (upN N cs):=by unfold upsL;rw [chL_eq q1 q2 50 (by omega)]
 have ev : upsL N cs b = (q ++ t).map (upN N cs):=by unfold upsL;rw [chL_eq g1 g2 50 (by omega)]
 have h1:=map_filter_not (u:=upN N cs) (p:=p) (t:=t) (v:=q ++ t) (fun x hx y _ e => up_once2 hs x y (q7 x hx).2.1 e) m5 (fun x hx => List.mem_append_right _ hx)
 have h2:=map_filter_not (u:=upN N cs) (p:=q) (t:=t) (v:=p ++ t) (fun x hx y _ e => up_once2 hs x y (g7 x hx).2.1 e) m6 (fun x hx => List.mem_append_right _ hx)
 have hmem : ∀ x ∈ p ++ q,x < N ∧ 0 ≤ upN N cs x ∧ gD (rootsL N cs) x = gD (rootsL N cs) a ∧ x ≠ r:=by
  intro x hx
  rcases List.mem_append.1 hx with hx|hx
  ·have hx2:=List.mem_append_left t hx
   have:=q7 x hx2
   exact ⟨this.1,this.2.1,by omega,fun e => q8 (e ▸ hx2)⟩
  ·have hx2:=List.mem_append_left t hx
   have:=g7 x hx2
   exact ⟨this.1,this.2.1,by omega,fun e => g8 (e ▸ hx2)⟩
 have hnd : (p ++ q).Nodup:=by
  rw [List.nodup_append]
  refine ⟨(List.nodup_append.1 q5).1,(List.nodup_append.1 g5).1,fun x hx y hy e => ?_⟩
  subst e
  exact m5 x hx (List.mem_append_left _ hy)
 have hlen:=nodup_len N (r :: (p ++ q)) (List.Pairwise.cons (fun x hx e => (hmem x hx).2.2.2 e.symm) hnd) (fun x hx => by
  rcases List.mem_cons.1 hx with rfl|hx
  ·exact q3
  ·exact (hmem x hx).1)
 rw [List.length_cons,List.length_append] at hlen
 refine ⟨p,q,m,by rw [eu,ev];exact h1,by rw [eu,ev];exact h2,m3,m4,by omega,fun x hx => ⟨(hmem x hx).1,(hmem x hx).2.1,(hmem x hx).2.2.1⟩,nodup_map hnd (fun x hx y _ e => up_once2 hs x y (hmem x hx).2.1 e),fun i => ?_⟩
 unfold wayB
 rw [eu,ev]
 rw [Bool.eq_iff_iff,hasL_iff,bne_iff_ne]
 have key : ∀ x ∈ p ++ q,∀ y ∈ p ++ t ++ q,upN N cs x = upN N cs y → x = y:=fun x hx y _ e => up_once2 hs x y (hmem x hx).2.1 e
 constructor
 ·intro hne
  by_cases c1 : i ∈ (p ++ t).map (upN N cs)
  ·by_cases c2 : i ∈ (q ++ t).map (upN N cs)
   ·exact absurd (by rw [(hasL_iff _ _).2 c1,(hasL_iff _ _).2 c2]) hne
   ·obtain ⟨x,hx,rfl⟩:=List.mem_map.1 c1
    rcases List.mem_append.1 hx with hx|hx
    ·exact List.mem_map.2 ⟨x,List.mem_append_left _ hx,rfl⟩
    ·exact absurd (List.mem_map.2 ⟨x,List.mem_append_right _ hx,rfl⟩) c2
  ·by_cases c2 : i ∈ (q ++ t).map (upN N cs)
   ·obtain ⟨x,hx,rfl⟩:=List.mem_map.1 c2
    rcases List.mem_append.1 hx with hx|hx
    ·exact List.mem_map.2 ⟨x,List.mem_append_right _ hx,rfl⟩
    ·exact absurd (List.mem_map.2 ⟨x,List.mem_append_right _ hx,rfl⟩) c1
   ·refine absurd ?_ hne
    have e1 : hasL ((p ++ t).map (upN N cs)) i = false:=Bool.eq_false_iff.2 (fun h => c1 ((hasL_iff _ _).1 h))
    have e2 : hasL ((q ++ t).map (upN N cs)) i = false:=Bool.eq_false_iff.2 (fun h => c2 ((hasL_iff _ _).1 h))
    rw [e1,e2]
 ·intro hm
  obtain ⟨x,hx,rfl⟩:=List.mem_map.1 hm
  rcases List.mem_append.1 hx with hx|hx
  ·have e1:=(hasL_iff ((p ++ t).map (upN N cs)) _).2 (List.mem_map.2 ⟨x,List.mem_append_left _ hx,rfl⟩)
   have e2 : hasL ((q ++ t).map (upN N cs)) (upN N cs x) = false:=Bool.eq_false_iff.2 (fun h => by
    obtain ⟨y,hy,e⟩:=List.mem_map.1 ((hasL_iff _ _).1 h)
    have:=up_once2 hs x y (hmem x (List.mem_append_left _ hx)).2.1 e.symm
    exact m5 x hx (this ▸ hy))
   rw [e1,e2];decide
  ·have e2:=(hasL_iff ((q ++ t).map (upN N cs)) _).2 (List.mem_map.2 ⟨x,List.mem_append_left _ hx,rfl⟩)
   have e1 : hasL ((p ++ t).map (upN N cs)) (upN N cs x) = false:=Bool.eq_false_iff.2 (fun h => by
    obtain ⟨y,hy,e⟩:=List.mem_map.1 ((hasL_iff _ _).1 h)
    have:=up_once2 hs x y (hmem x (List.mem_append_right _ hx)).2.1 e.symm
    exact m6 x hx (this ▸ hy))
   rw [e1,e2];decide
def wayX (n : Int) (cs : List S83) (hs vs : List Int) (a b : Int) : List Int:=if netB n cs hs vs = true ∧ (0 ≤ a ∧ a < hs.length) ∧ (0 ≤ b ∧ b < hs.length) ∧ rd (rootsL n.toNat cs) (rd hs a) = rd (rootsL n.toNat cs) (rd hs b) then filM (wayB n.toNat cs (rd hs a).toNat (rd hs b).toNat) cs.length 0 else []
theorem way_facts {n : Int} {cs : List S83} {hs vs : List Int} {a b : Int} (h : netB n cs hs vs = true) (ha : 0 ≤ a ∧ a < hs.length) (hb : 0 ≤ b ∧ b < hs.length) : ∃ (N A B : Nat),n = (N : Int) ∧ N ≤ 8 ∧ cs.length ≤ 20 ∧ hs.length ≤ 15 ∧ cabsB (N : Int) cs = true ∧ A < N ∧ B < N ∧ rd hs a = (A : Int) ∧ rd hs b = (B : Int):=by
 obtain ⟨q1,q2,q3,q4⟩:=netB_facts h
 obtain ⟨p1,p2,p3,p4⟩:=cabsB_facts q1
 obtain ⟨N,rfl⟩ : ∃ N : Nat,n = (N : Int):=⟨n.toNat,by omega⟩
 obtain ⟨x,hx⟩:=Int.eq_ofNat_of_zero_le ha.1
 obtain ⟨y,hy⟩:=Int.eq_ofNat_of_zero_le hb.1
 have hx2 : x < hs.length:=by omega
 have hy2 : y < hs.length:=by omega
 have g1:=q4 _ (List.getElem_mem hx2)
 have g2:=q4 _ (List.getElem_mem hy2)
 exact ⟨N,(hs[x]).toNat,(hs[y]).toNat,rfl,by omega,p3,q2,q1,by omega,by omega,by rw [hx,rd_get hs x hx2];omega,by rw [hy,rd_get hs y hy2];omega⟩
theorem filM_mem0 (p : Int → Bool) (M : Nat) (x : Int) : x ∈ filM p M 0 ↔ 0 ≤ x ∧ x < M ∧ p x = true:=by
 have:=filM_mem p M 0 x
 rw [this]
 constructor
 ·rintro ⟨h1,h2,h3⟩;exact ⟨h1,by omega,h3⟩
 ·rintro ⟨h1,h2,h3⟩;exact ⟨h1,by omega,h3⟩
theorem way_perm {N : Nat} {cs : List S83} (hv : cabsB (N : Int) cs = true) {a b : Nat} {l : List Nat} (h1 : ∀ x ∈ l,0 ≤ upN N cs x) (h2 : (l.map (upN N cs)).Nodup) (h3 : ∀ i,wayB N cs a b i = hasL (l.map (upN N cs)) i) : (l.map (upN N cs)).Perm (filM (wayB N cs a b) cs.length 0):=by
 refine (List.perm_ext_iff_of_nodup h2 ((filM_asc _ _ _).imp (fun h e => by omega))).2 (fun i => ?_)
 rw [filM_mem0,h3,hasL_iff]
 constructor
 ·intro hm
  refine ⟨?_,?_,hm⟩
  ·obtain ⟨x,hx,rfl⟩:=List.mem_map.1 hm;exact h1 x hx
  ·obtain ⟨x,hx,rfl⟩:=List.mem_map.1 hm;exact (upX_lt cs _ _).2
 ·exact fun h => h.2.2
theorem iway_eq (n : Int) (cs : List S83) (hs vs : List Int) (a b : Int) (k : Nat) (hk : 1000 < k) : impl_TreeWay.f k n cs hs vs a b = some (wayX n cs hs vs a b):=by
 unfold impl_TreeWay.f wayX
 rw [istation_eq,Option.bind_some]
 obtain ⟨k,rfl⟩ : ∃ m,k = m + 1:=⟨k - 1,by omega⟩
 by_cases c1 : netB n cs hs vs = true ∧ 0 ≤ a ∧ a < hs.length
 ·rw [decide_eq_true c1,if_pos rfl,istation_eq,Option.bind_some]
  simp only [impl_TreeWay.j0]
  by_cases c2 : netB n cs hs vs = true ∧ 0 ≤ b ∧ b < hs.length
  ·obtain ⟨N,A,B,rfl,g1,g2,g3,g4,g5,g6,g7,g8⟩:=way_facts c1.1 c1.2 c2.2
   have hrl:=rootsL_len N cs
   have e : impl_rootsOf.f (N : Int) cs = some (rootsL N cs):=by unfold impl_rootsOf.f;rw [if_pos g4,Int.toNat_natCast]
   rw [decide_eq_true c2,if_neg (by decide),e,Option.bind_some,if_pos c1.2.1,if_pos c1.2.2,g7,if_pos (by omega),if_pos (by omega),if_pos c2.2.1,if_pos c2.2.2,g8,if_pos (by omega),if_pos (by omega),Int.toNat_natCast]
   by_cases c3 : rd (rootsL N cs) (A : Int) = rd (rootsL N cs) (B : Int)
   ·have c3':=c3
    rw [rd_gD,rd_gD] at c3'
    obtain ⟨p,q,m,p1,p2,p3,p4,p5,p6,p7,p8⟩:=way_parts g4 g5 g6 c3'
    obtain ⟨w,r,q1,q2,q3,q4,q5,q6,q7,q8⟩:=way_up g4 g5
    obtain ⟨v,r2,w1,w2,w3,w4,w5,w6,w7,w8⟩:=way_up g4 g6
    have lu : (upsL N cs A).length ≤ 100:=by unfold upsL;rw [chL_eq q1 q2 50 (by omega),List.length_map];omega
    have lv : (upsL N cs B).length ≤ 100:=by unfold upsL;rw [chL_eq w1 w2 50 (by omega),List.length_map];omega
    have hx:=iway_l0 (upsL N cs A) (upsL N cs B) lu lv (upsL N cs A).length k 0 [] (by omega) (by simp;omega) (by omega)
    rw [List.drop_zero,List.nil_append,p1] at hx
    have hpl : (p.map (upN N cs)).length ≤ 8:=by rw [List.length_map];omega
    have hy:=iway_l1 (upsL N cs A) (upsL N cs B) lu lv (upsL N cs B).length (k - (upsL N cs A).length - 1) 0 (p.map (upN N cs)) (by omega) (by omega) (by omega)
    rw [List.drop_zero,p2,← List.map_append] at hy
    obtain ⟨s,s1,s2,s3⟩:=sort_ok ((p ++ q).map (upN N cs)) (by rw [List.length_map,List.length_append];omega)
    rw [if_pos c3,iups_eq g4 hs vs g5 k (by omega),Option.bind_some,iups_eq g4 hs vs g6 k (by omega),Option.bind_some,if_pos ⟨c1.1,c1.2,c2.2,c3⟩,Int.toNat_natCast,Int.toNat_natCast]
    refine hx.trans (hy.trans ?_)
    rw [s3 _ (by omega),Option.bind_some]
    congr 1
    exact sort_uniq s2 ((filM_asc _ _ _).imp (fun h => by omega)) (s1.trans (way_perm g4 (fun x hx => (p6 x hx).2.1) p7 p8))
   ·rw [if_neg c3,if_neg (fun h => c3 h.2.2.2)]
  ·rw [decide_eq_false c2,if_pos (by decide),if_neg (fun h => c2 ⟨h.1,h.2.2.1⟩)]
 ·rw [decide_eq_false c1,if_neg (by decide)]
  simp only [impl_TreeWay.j0]
  rw [if_pos trivial,if_neg (fun h => c1 ⟨h.1,h.2.1⟩)]
theorem treeX_up {N : Nat} {cs : List S83} (hv : cabsB (N : Int) cs = true) {x : Nat} (hx : x < N) (h0 : 0 ≤ upN N cs x) : upN N cs x ∈ treeX (N : Int) cs:=by
 unfold treeX
 rw [if_pos hv,Int.toNat_natCast]
 have hp:=tree_perm (upN N cs) N cs.length (fun x _ => (upX_lt cs _ _).2)
 refine hp.mem_iff.1 ?_
 have : ∀ (d b : Nat),b ≤ x → x < b + d → upN N cs x ∈ uL (upN N cs) d b:=by
  intro d
  induction d with
  | zero => intro b h1 h2;omega
  | succ d ih =>
   intro b h1 h2
   rw [uL]
   by_cases e : b = x
   ·subst e;rw [if_pos h0];exact List.mem_cons_self
   ·split
    ·exact List.mem_cons_of_mem _ (ih (b + 1) (by omega) (by omega))
    ·exact ih (b + 1) (by omega) (by omega)
 exact this N 0 (by omega) (by omega)
section
variable {N : Nat} {cs : List S83}
def wL (N : Nat) (cs : List S83) (a : Nat) : List Nat:=chL (upN N cs) (nxN N cs) 50 a
theorem ups_wL (a : Nat) : upsL N cs a = (wL N cs a).map (upN N cs):=rfl
theorem wL_ch (hv : cabsB (N : Int) cs = true) {a : Nat} (ha : a < N) : ∃ r,Ch (upN N cs) (nxN N cs) a (wL N cs a) r ∧ upN N cs r < 0 ∧ r < N ∧ gD (rootsL N cs) a = (r : Int) ∧ (wL N cs a).Nodup ∧ (wL N cs a).length < N ∧ (∀ x ∈ wL N cs a,x < N ∧ 0 ≤ upN N cs x ∧ gD (rootsL N cs) x = (r : Int)):=by
 obtain ⟨w,r,h1,h2,h3,h4,h5,h6,h7,h8⟩:=way_up hv ha
 have hN:=(cabsB_facts hv).2.1
 have e : wL N cs a = w:=chL_eq h1 h2 50 (by omega)
 rw [e]
 exact ⟨r,h1,h2,h3,h4,h5,h6,h7⟩
theorem wL_root {a : Nat} (h : upN N cs a < 0) : wL N cs a = []:=by
 unfold wL
 rw [chL,if_neg (by omega)]
theorem wL_step (hv : cabsB (N : Int) cs = true) {a : Nat} (ha : a < N) (h : 0 ≤ upN N cs a) : wL N cs a = a :: wL N cs (nxN N cs a):=by
 obtain ⟨r,h1,h2,_⟩:=wL_ch hv ha
 have hn:=((upOk_of hv).up a ha h).1
 obtain ⟨r2,g1,g2,_⟩:=wL_ch hv hn
 exact (ch_det h1 (Ch.cons h g1) h2 g2).1
theorem up_inj (hv : cabsB (N : Int) cs = true) {a b : Nat} (h : 0 ≤ upN N cs a) (e : upN N cs a = upN N cs b) : a = b:=up_once2 (sound_of hv) a b h e
theorem mem_ups (hv : cabsB (N : Int) cs = true) {a x : Nat} (hx : 0 ≤ upN N cs x) : upN N cs x ∈ upsL N cs a ↔ x ∈ wL N cs a:=by
 rw [ups_wL,List.mem_map]
 constructor
 ·rintro ⟨y,hy,e⟩
  exact (up_inj hv hx e.symm) ▸ hy
 ·exact fun h => ⟨x,h,rfl⟩
theorem roots_nx (hv : cabsB (N : Int) cs = true) {a : Nat} (ha : a < N) (h : 0 ≤ upN N cs a) : gD (rootsL N cs) (nxN N cs a) = gD (rootsL N cs) a:=by
 obtain ⟨r,h1,h2,_,h4,_⟩:=wL_ch hv ha
 have hn:=((upOk_of hv).up a ha h).1
 obtain ⟨r2,g1,g2,_,g4,_⟩:=wL_ch hv hn
 have e:=(ch_det h1 (Ch.cons h g1) h2 g2).2
 rw [h4,g4,e]
def TJ (N : Nat) (cs : List S83) (k : Int) (b o : Nat) : Prop:=∃ x,x < N ∧ 0 ≤ upN N cs x ∧ upN N cs x = k ∧ ((b = x ∧ o = nxN N cs x) ∨ (b = nxN N cs x ∧ o = x))
theorem TJ.lt (hv : cabsB (N : Int) cs = true) {k : Int} {b o : Nat} (h : TJ N cs k b o) : b < N ∧ o < N:=by
 obtain ⟨x,hx,h0,_,h⟩:=h
 have:=((upOk_of hv).up x hx h0).1
 rcases h with ⟨rfl,rfl⟩|⟨rfl,rfl⟩ <;> exact ⟨by assumption,by assumption⟩
theorem TJ.symm {k : Int} {b o : Nat} (h : TJ N cs k b o) : TJ N cs k o b:=by
 obtain ⟨x,hx,h0,h1,h⟩:=h
 exact ⟨x,hx,h0,h1,h.elim (fun h => Or.inr ⟨h.2,h.1⟩) (fun h => Or.inl ⟨h.2,h.1⟩)⟩
theorem TJ.root (hv : cabsB (N : Int) cs = true) {k : Int} {b o : Nat} (h : TJ N cs k b o) : gD (rootsL N cs) b = gD (rootsL N cs) o:=by
 obtain ⟨x,hx,h0,_,h⟩:=h
 have:=roots_nx hv hx h0
 rcases h with ⟨rfl,rfl⟩|⟨rfl,rfl⟩
 ·exact this.symm
 ·exact this
theorem TJ.cross (hv : cabsB (N : Int) cs = true) {k : Int} {b o : Nat} (h : TJ N cs k b o) : (∀ j,j ≠ k → (j ∈ upsL N cs b ↔ j ∈ upsL N cs o)) ∧ (k ∈ upsL N cs b ↔ ¬ k ∈ upsL N cs o):=by
 obtain ⟨x,hx,h0,rfl,h⟩:=h
 have hs:=wL_step hv hx h0
 have hn : x ∉ wL N cs (nxN N cs x):=by
  obtain ⟨r,_,_,_,_,hnd,_⟩:=wL_ch hv hx
  rw [hs] at hnd
  exact (List.nodup_cons.1 hnd).1
 have h1 : upN N cs x ∈ upsL N cs x:=(mem_ups hv h0).2 (by rw [hs];exact List.mem_cons_self)
 have h2 : upN N cs x ∉ upsL N cs (nxN N cs x):=fun h => hn ((mem_ups hv h0).1 h)
 have h3 : ∀ j,j ≠ upN N cs x → (j ∈ upsL N cs x ↔ j ∈ upsL N cs (nxN N cs x)):=fun j hj => by
  rw [ups_wL,ups_wL,hs,List.map_cons,List.mem_cons]
  exact ⟨fun h => h.resolve_left hj,Or.inr⟩
 rcases h with ⟨rfl,rfl⟩|⟨rfl,rfl⟩
 ·exact ⟨h3,⟨fun _ => h2,fun _ => h1⟩⟩
 ·exact ⟨fun j hj => (h3 j hj).symm,⟨fun h => absurd h h2,fun h => absurd h1 h⟩⟩
theorem ch_up {u : Nat → Int} {nx : Nat → Nat} {t r : Nat} {w : List Nat} (h : Ch u nx t w r) {x : Nat} (hx : x ∈ w) (h0 : 0 ≤ u (nx x)) (hr : u r < 0) : nx x ∈ w:=by
 induction h with
 | nil _ => cases hx
 | @cons t w r h1 hc ih =>
  rcases List.mem_cons.1 hx with rfl|hx
  ·cases hc with
   | nil _ => omega
   | cons _ _ => exact List.mem_cons_of_mem _ List.mem_cons_self
  ·exact List.mem_cons_of_mem _ (ih hx hr)
theorem ch_child {N : Nat} {u : Nat → Int} {nx : Nat → Nat} {c : Nat → Int} (H : UpOk N u nx c) {t r : Nat} {w : List Nat} (h : Ch u nx t w r) : t < N → ∀ x ∈ w,∀ y ∈ w,nx x = nx y → x = y:=by
 induction h with
 | nil _ => exact fun _ x hx => by cases hx
 | @cons t w r h1 hc ih =>
  intro ht x hx y hy e
  obtain ⟨h2,h3⟩:=H.up t ht h1
  obtain ⟨_,_,h4,_⟩:=ch_facts H hc h2
  rcases List.mem_cons.1 hx with e1|hx2
  ·subst e1
   rcases List.mem_cons.1 hy with e2|hy2
   ·exact e2.symm
   ·have h5:=h4 y hy2
    have h6:=(H.up y h5.1 h5.2.1).2
    rw [← e] at h6
    omega
  ·rcases List.mem_cons.1 hy with e2|hy2
   ·subst e2
    have h5:=h4 x hx2
    have h6:=(H.up x h5.1 h5.2.1).2
    rw [e] at h6
    omega
   ·exact ih h2 x hx2 y hy2 e
theorem ch_pred {u : Nat → Int} {nx : Nat → Nat} {t r : Nat} {w : List Nat} (h : Ch u nx t w r) {b : Nat} (hb : b ∈ w ∨ b = r) (hne : b ≠ t) : ∃ x ∈ w,nx x = b:=by
 induction h with
 | nil _ =>
  rcases hb with hb|hb
  ·cases hb
  ·exact absurd hb hne
 | @cons t w r h1 hc ih =>
  by_cases e : b = nx t
  ·exact ⟨t,List.mem_cons_self,e.symm⟩
  ·obtain ⟨x,hx,hxe⟩:=ih (hb.imp (fun h => (List.mem_cons.1 h).resolve_left hne) id) e
   exact ⟨x,List.mem_cons_of_mem _ hx,hxe⟩
def Sep (N : Nat) (cs : List S83) (k : Int) (a b : Nat) : Prop:=¬ (k ∈ upsL N cs a ↔ k ∈ upsL N cs b)
theorem sep_one (hv : cabsB (N : Int) cs = true) {k k2 : Int} {b o o2 t : Nat} (ht : t < N) (h : TJ N cs k b o) (h2 : TJ N cs k2 b o2) (s : Sep N cs k b t) (s2 : Sep N cs k2 b t) : k = k2:=by
  have main : ∀ {k k2 : Int} {x y : Nat},x < N → 0 ≤ upN N cs x → upN N cs x = k → b = x → y < N → 0 ≤ upN N cs y → upN N cs y = k2 → b = nxN N cs y → Sep N cs k b t → Sep N cs k2 b t → False:=by
    intro k k2 x y hx hx0 hxk hbx hy hy0 hyk hby s s2
    subst hbx
    subst hxk
    subst hyk
    have hb1 : upN N cs b ∈ upsL N cs b:=(mem_ups hv hx0).2 (by rw [wL_step hv hx hx0];exact List.mem_cons_self)
    have hb2 : upN N cs b ∉ upsL N cs t:=fun h => s ⟨fun _ => h,fun _ => hb1⟩
    have hy1 : upN N cs y ∉ upsL N cs b:=by
      have hc:=(TJ.cross hv (⟨y,hy,hy0,rfl,Or.inr ⟨rfl,rfl⟩⟩ : TJ N cs (upN N cs y) (nxN N cs y) y)).2
      rw [← hby] at hc
      exact fun h => hc.1 h ((mem_ups hv hy0).2 (by rw [wL_step hv hy hy0];exact List.mem_cons_self))
    have hy2 : upN N cs y ∈ upsL N cs t:=Classical.byContradiction (fun h => s2 ⟨fun h3 => absurd h3 hy1,fun h3 => absurd h3 h⟩)
    obtain ⟨r,hc,hr,_⟩:=wL_ch hv ht
    have:=ch_up hc ((mem_ups hv hy0).1 hy2) (by rw [← hby];exact hx0) hr
    rw [← hby] at this
    exact hb2 ((mem_ups hv hx0).2 this)
  obtain ⟨x,hx,hx0,hxk,hx1⟩:=h
  obtain ⟨y,hy,hy0,hyk,hy1⟩:=h2
  rcases hx1 with ⟨e1,_⟩ | ⟨e1,_⟩ <;> rcases hy1 with ⟨e2,_⟩ | ⟨e2,_⟩
  · rw [← hxk,← hyk,← e1,← e2]
  · exact (main hx hx0 hxk e1 hy hy0 hyk e2 s s2).elim
  · exact (main hy hy0 hyk e2 hx hx0 hxk e1 s2 s).elim
  · have low : ∀ {k : Int} {x : Nat}, x < N → 0 ≤ upN N cs x → upN N cs x = k → b = nxN N cs x → Sep N cs k b t → x ∈ wL N cs t := by
      intro k x hx hx0 hxk hbx s
      subst hxk
      have hc:=(TJ.cross hv (⟨x,hx,hx0,rfl,Or.inr ⟨rfl,rfl⟩⟩ : TJ N cs (upN N cs x) (nxN N cs x) x)).2
      rw [← hbx] at hc
      have h1 : upN N cs x ∉ upsL N cs b:=fun h => hc.1 h ((mem_ups hv hx0).2 (by rw [wL_step hv hx hx0];exact List.mem_cons_self))
      exact (mem_ups hv hx0).1 (Classical.byContradiction (fun h => s ⟨fun h3 => absurd h3 h1,fun h3 => absurd h3 h⟩))
    obtain ⟨r,hc,hr,_⟩:=wL_ch hv ht
    have:=ch_child (upOk_of hv) hc ht x (low hx hx0 hxk e1 s) y (low hy hy0 hyk e2 s2) (by rw [← e1,← e2])
    rw [← hxk,← hyk,this]
theorem sep_some (hv : cabsB (N : Int) cs = true) {b t : Nat} (hb : b < N) (ht : t < N) (hr : gD (rootsL N cs) b = gD (rootsL N cs) t) (hne : b ≠ t) : ∃ k o,TJ N cs k b o ∧ Sep N cs k b t:=by
 obtain ⟨r,hc,h2,h3,h4,_,_,h7⟩:=wL_ch hv ht
 have child : (b ∈ wL N cs t ∨ b = r) → ∃ k o,TJ N cs k b o ∧ Sep N cs k b t:=fun h => by
  obtain ⟨x,hx,e⟩:=ch_pred hc h hne
  have hx1:=h7 x hx
  have hj : TJ N cs (upN N cs x) b x:=⟨x,hx1.1,hx1.2.1,rfl,Or.inr ⟨e.symm,rfl⟩⟩
  refine ⟨_,x,hj,fun hi => ?_⟩
  have h1:=(mem_ups hv hx1.2.1).2 hx
  exact (hj.cross hv).2.1 (hi.2 h1) ((mem_ups hv hx1.2.1).2 (by rw [wL_step hv hx1.1 hx1.2.1];exact List.mem_cons_self))
 by_cases h0 : 0 ≤ upN N cs b
 ·by_cases hm : b ∈ wL N cs t
  ·exact child (Or.inl hm)
  ·refine ⟨_,nxN N cs b,⟨b,hb,h0,rfl,Or.inl ⟨rfl,rfl⟩⟩,fun hi => hm ((mem_ups hv h0).1 (hi.1 ((mem_ups hv h0).2 ?_)))⟩
   rw [wL_step hv hb h0]
   exact List.mem_cons_self
 ·obtain ⟨r2,hc2,g2,g3,g4,_⟩:=wL_ch hv hb
  rw [wL_root (by omega)] at hc2
  have e : b = r:=by
   cases hc2
   rw [hr,h4] at g4
   omega
  exact child (Or.inr e)
end
theorem mem_uL {u : Nat → Int} (d : Nat) : ∀ b x,x ∈ uL u d b → ∃ y,b ≤ y ∧ y < b + d ∧ 0 ≤ u y ∧ u y = x:=by
 induction d with
 | zero => intro b x h;cases h
 | succ d ih =>
  intro b x h
  rw [uL] at h
  split at h
  ·rename_i h0
   rcases List.mem_cons.1 h with e|h
   ·exact ⟨b,Nat.le_refl _,by omega,h0,e.symm⟩
   ·obtain ⟨y,h1,h2,h3⟩:=ih (b + 1) x h
    exact ⟨y,by omega,by omega,h3⟩
  ·obtain ⟨y,h1,h2,h3⟩:=ih (b + 1) x h
   exact ⟨y,by omega,by omega,h3⟩
theorem uL_nodup {u : Nat → Int} (hi : ∀ x y,0 ≤ u x → u x = u y → x = y) (d : Nat) : ∀ b,(uL u d b).Nodup:=by
 induction d with
 | zero => exact fun _ => List.Pairwise.nil
 | succ d ih =>
  intro b
  rw [uL]
  split
  ·rename_i h0
   refine List.nodup_cons.2 ⟨fun h => ?_,ih _⟩
   obtain ⟨y,h1,_,_,h3⟩:=mem_uL d _ _ h
   have:=hi b y h0 h3.symm
   omega
  ·exact ih _
section
variable {N : Nat} {cs : List S83}
theorem tree_mem (hv : cabsB (N : Int) cs = true) {k : Int} (h : k ∈ treeX (N : Int) cs) : ∃ x,x < N ∧ 0 ≤ upN N cs x ∧ upN N cs x = k:=by
 unfold treeX at h
 rw [if_pos hv,Int.toNat_natCast] at h
 obtain ⟨y,_,h2,h3,h4⟩:=mem_uL N 0 k ((tree_perm (upN N cs) N cs.length (fun x _ => (upX_lt cs _ _).2)).mem_iff.2 h)
 exact ⟨y,by omega,h3,h4⟩
theorem tree_nodup (hv : cabsB (N : Int) cs = true) : (treeX (N : Int) cs).Nodup:=by
 unfold treeX
 rw [if_pos hv,Int.toNat_natCast]
 exact (tree_perm (upN N cs) N cs.length (fun x _ => (upX_lt cs _ _).2)).nodup_iff.1 (uL_nodup (fun x y h e => up_inj hv h e) N 0)
theorem tj_tree (hv : cabsB (N : Int) cs = true) {k : Int} {b o : Nat} (h : TJ N cs k b o) : k ∈ treeX (N : Int) cs:=by
 obtain ⟨x,hx,h0,rfl,_⟩:=h
 exact treeX_up hv hx h0
theorem tj_pos {k : Int} {b o : Nat} (h : TJ N cs k b o) : 0 ≤ k ∧ k < cs.length:=by
 obtain ⟨x,hx,h0,rfl,_⟩:=h
 exact ⟨h0,(upX_lt cs _ _).2⟩
theorem oth_tj (hv : cabsB (N : Int) cs = true) {k : Int} (hk : k ∈ treeX (N : Int) cs) (b : Nat) : (∃ o : Nat,othX (rd_T83 cs k) (b : Int) = some (o : Int) ∧ TJ N cs k b o) ∨ (othX (rd_T83 cs k) (b : Int) = none ∧ ∀ o : Nat,¬ TJ N cs k b o):=by
 obtain ⟨x,hx,h0,rfl⟩:=tree_mem hv hk
 obtain ⟨K,hK,k1,k2,_,k4,k5,_⟩:=up_hit (sound_of hv) x h0
 have hrd : rd_T83 cs (upN N cs x) = cs[K]:=by rw [k1];exact rdCab_get cs K hK
 rw [hrd]
 by_cases e1 : b = x
 ·subst e1
  exact Or.inl ⟨nxN N cs b,k2,b,hx,h0,rfl,Or.inl ⟨rfl,rfl⟩⟩
 ·by_cases e2 : b = nxN N cs x
  ·subst e2
   refine Or.inl ⟨x,?_,x,hx,h0,rfl,Or.inr ⟨rfl,rfl⟩⟩
   rcases oth_ends k2 with ⟨y1,y2⟩|⟨y1,y2⟩
   ·unfold othX
    rw [if_neg (by omega),if_pos y2,← y1]
   ·unfold othX
    rw [if_pos y2,← y1]
  ·refine Or.inr ⟨?_,fun o h => ?_⟩
   ·unfold othX
    rcases oth_ends k2 with ⟨y1,y2⟩|⟨y1,y2⟩
    ·rw [if_neg (by omega),if_neg (by omega)]
    ·rw [if_neg (by omega),if_neg (by omega)]
   ·obtain ⟨y,hy,hy0,hye,h⟩:=h
    obtain rfl:=up_inj hv hy0 hye
    rcases h with ⟨h,_⟩|⟨h,_⟩
    ·exact e1 h
    ·exact e2 h
theorem tj_oth (hv : cabsB (N : Int) cs = true) {k : Int} {b o : Nat} (h : TJ N cs k b o) : othX (rd_T83 cs k) (b : Int) = some (o : Int):=by
 rcases oth_tj hv (tj_tree hv h) b with ⟨o2,h1,h2⟩|⟨_,h2⟩
 ·obtain ⟨x,hx,h0,rfl,h⟩:=h
  obtain ⟨y,hy,hy0,hye,h2⟩:=h2
  obtain rfl:=up_inj hv hy0 hye
  have hne : nxN N cs y ≠ y:=by
   obtain ⟨_,_,_,_,_,_,k5,_⟩:=up_hit (sound_of hv) y h0
   exact k5
  rw [h1]
  rcases h with ⟨e1,e2⟩|⟨e1,e2⟩ <;> rcases h2 with ⟨e3,e4⟩|⟨e3,e4⟩
  ·rw [e4,e2]
  ·omega
  ·omega
  ·rw [e4,e2]
 ·exact absurd h (h2 o)
theorem sep_neg (k : Int) (hk : k < 0) (hv : cabsB (N : Int) cs = true) {a b : Nat} (ha : a < N) (hb : b < N) : ¬ Sep N cs k a b:=by
 have no : ∀ {c : Nat},c < N → k ∉ upsL N cs c:=by
  intro c hc h
  rw [ups_wL] at h
  obtain ⟨x,hx,e⟩:=List.mem_map.1 h
  obtain ⟨r,_,_,_,_,_,_,h7⟩:=wL_ch hv hc
  have:=(h7 x hx).2.1
  omega
 exact fun h => h ⟨fun h1 => absurd h1 (no ha),fun h1 => absurd h1 (no hb)⟩
theorem sep_self (k : Int) (a : Nat) : ¬ Sep N cs k a a:=fun h => h Iff.rfl
theorem sep_symm {k : Int} {a b : Nat} (h : Sep N cs k a b) : Sep N cs k b a:=fun e => h e.symm
theorem sep_flip (hv : cabsB (N : Int) cs = true) {k : Int} {b o : Nat} (h : TJ N cs k b o) (t : Nat) : Sep N cs k b t ↔ ¬ Sep N cs k o t:=by
 have:=(h.cross hv).2
 unfold Sep
 by_cases h1 : k ∈ upsL N cs b <;> by_cases h2 : k ∈ upsL N cs o <;> by_cases h3 : k ∈ upsL N cs t <;> simp_all
theorem sep_keep (hv : cabsB (N : Int) cs = true) {k j : Int} {b o : Nat} (h : TJ N cs k b o) (hj : j ≠ k) (t : Nat) : Sep N cs j b t ↔ Sep N cs j o t:=by
 have:=(h.cross hv).1 j hj
 unfold Sep
 rw [this]
theorem sep_tri {k : Int} {a b c : Nat} (h : Sep N cs k a b) : Sep N cs k a c ↔ ¬ Sep N cs k c b:=by
 unfold Sep at *
 by_cases h1 : k ∈ upsL N cs a <;> by_cases h2 : k ∈ upsL N cs b <;> by_cases h3 : k ∈ upsL N cs c <;> simp_all
theorem wL_tj (hv : cabsB (N : Int) cs = true) {k : Int} {b o : Nat} (h : TJ N cs k b o) : (k = upN N cs b ∧ 0 ≤ k ∧ (wL N cs b).length = (wL N cs o).length + 1 ∧ ¬ (k = upN N cs o)) ∨ (k = upN N cs o ∧ 0 ≤ k ∧ (wL N cs o).length = (wL N cs b).length + 1 ∧ ¬ (k = upN N cs b)):=by
 have hlt:=h.lt hv
 obtain ⟨x,hx,h0,rfl,h⟩:=h
 have hs:=wL_step hv hx h0
 have hl : (wL N cs x).length = (wL N cs (nxN N cs x)).length + 1:=by rw [hs];rfl
 have hne : ¬ (upN N cs x = upN N cs (nxN N cs x)):=fun e => by
  have:=up_inj hv h0 e
  rw [← this] at hl
  omega
 rcases h with ⟨rfl,rfl⟩|⟨rfl,rfl⟩
 ·exact Or.inl ⟨rfl,h0,hl,hne⟩
 ·exact Or.inr ⟨rfl,h0,hl,hne⟩
theorem wL_len (hv : cabsB (N : Int) cs = true) {b : Nat} (hb : b < N) : (wL N cs b).length ≤ 7:=by
 obtain ⟨r,_,_,_,_,_,h6,_⟩:=wL_ch hv hb
 have:=(cabsB_facts hv).2.1
 omega
end
def muN (N : Nat) (cs : List S83) (b : Nat) (y : Int) : Nat:=if y = upN N cs b ∧ 0 ≤ y then 8 - (wL N cs b).length else (wL N cs b).length + 9
def wtN (N : Nat) (cs : List S83) (b : Nat) (y : Int) : Nat:=if y = upN N cs b ∧ 0 ≤ y then 9 ^ (8 - (wL N cs b).length) else 43046721 * ((wL N cs b).length + 1)
theorem mu_lt {N : Nat} {cs : List S83} (hv : cabsB (N : Int) cs = true) {k y : Int} {b o : Nat} (h : TJ N cs k b o) (hne : k ≠ y) : muN N cs o k < muN N cs b y:=by
 have hlt:=h.lt hv
 have l1:=wL_len hv hlt.1
 have l2:=wL_len hv hlt.2
 unfold muN
 rcases wL_tj hv h with ⟨h1,h2,h3,h4⟩|⟨h1,h2,h3,h4⟩
 ·rw [if_neg (fun e => h4 e.1),if_neg (fun e => hne (h1.trans e.1.symm))]
  omega
 ·rw [if_pos ⟨h1,h2⟩]
  split <;> omega
def wuN (N : Nat) (cs : List S83) (b : Nat) (y : Int) (l : List Int) : Nat:=if upN N cs b ∈ l ∧ 0 ≤ upN N cs b ∧ upN N cs b ≠ y then 43046721 * (wL N cs b).length else 0
def wlN (N : Nat) (cs : List S83) (b : Nat) (y : Int) (l : List Int) : Nat:=wuN N cs b y l + l.length * 9 ^ (7 - (wL N cs b).length)
theorem wu_mono {N : Nat} {cs : List S83} {k y : Int} {b : Nat} {l : List Int} : wuN N cs b y l ≤ wuN N cs b y (k :: l):=by
 unfold wuN
 split
 ·rename_i h5
  rw [if_pos ⟨List.mem_cons_of_mem _ h5.1,h5.2⟩]
  exact Nat.le_refl _
 ·exact Nat.zero_le _
theorem wl_cons {N : Nat} {cs : List S83} (hv : cabsB (N : Int) cs = true) {k y : Int} {b o : Nat} (h : TJ N cs k b o) (hne : k ≠ y) {l : List Int} (hnd : (k :: l).Nodup) : wtN N cs o k + wlN N cs b y l ≤ wlN N cs b y (k :: l):=by
 have hlt:=h.lt hv
 have hkl:=(List.nodup_cons.1 hnd).1
 have l1:=wL_len hv hlt.1
 have l2:=wL_len hv hlt.2
 unfold wtN wlN
 rw [List.length_cons,Nat.add_mul l.length 1,Nat.one_mul]
 rcases wL_tj hv h with ⟨h1,h2,h3,h4⟩|⟨h1,h2,h3,h4⟩
 ·have e1 : wuN N cs b y l = 0:=by unfold wuN;rw [if_neg (fun e => hkl (h1 ▸ e.1))]
  have e2 : wuN N cs b y (k :: l) = 43046721 * (wL N cs b).length:=by unfold wuN;rw [if_pos ⟨by rw [← h1];exact List.mem_cons_self,by omega,by rw [← h1];exact hne⟩]
  rw [if_neg (fun e => h4 e.1),e1,e2,← h3]
  generalize 9 ^ (7 - (wL N cs b).length) = q
  generalize l.length * q = lq
  omega
 ·have e8 : 8 - (wL N cs o).length = 7 - (wL N cs b).length:=by omega
  rw [if_pos ⟨h1,h2⟩,e8]
  have:=wu_mono (N:=N) (cs:=cs) (k:=k) (y:=y) (b:=b) (l:=l)
  generalize 9 ^ (7 - (wL N cs b).length) = q
  generalize l.length * q = lq
  omega
theorem wl_skip {N : Nat} {cs : List S83} {k y : Int} {b : Nat} {l : List Int} : wlN N cs b y l ≤ wlN N cs b y (k :: l):=by
 unfold wlN
 rw [List.length_cons,Nat.add_mul l.length 1,Nat.one_mul]
 have:=wu_mono (N:=N) (cs:=cs) (k:=k) (y:=y) (b:=b) (l:=l)
 generalize 9 ^ (7 - (wL N cs b).length) = q
 generalize l.length * q = lq
 omega
theorem wl_all {N : Nat} {cs : List S83} (hv : cabsB (N : Int) cs = true) {b : Nat} (hb : b < N) (y : Int) {l : List Int} (hl : l.length ≤ 8) : wlN N cs b y l + 1 ≤ wtN N cs b y:=by
 have l1:=wL_len hv hb
 unfold wlN wtN
 have hp : 1 ≤ 9 ^ (7 - (wL N cs b).length):=Nat.one_le_pow _ _ (by omega)
 have hm : l.length * 9 ^ (7 - (wL N cs b).length) ≤ 8 * 9 ^ (7 - (wL N cs b).length):=Nat.mul_le_mul_right _ hl
 by_cases h : y = upN N cs b ∧ 0 ≤ y
 ·have e0 : wuN N cs b y l = 0:=by unfold wuN;rw [if_neg (fun e => e.2.2 h.1.symm)]
  have e : 9 ^ (8 - (wL N cs b).length) = 9 * 9 ^ (7 - (wL N cs b).length):=by rw [show 8 - (wL N cs b).length = (7 - (wL N cs b).length) + 1 from by omega,Nat.pow_succ,Nat.mul_comm]
  rw [if_pos h,e0,e]
  generalize 9 ^ (7 - (wL N cs b).length) = q at *
  omega
 ·have h7 : 9 ^ (7 - (wL N cs b).length) ≤ 9 ^ 7:=Nat.pow_le_pow_right (by omega) (by omega)
  have e7 : (9 : Nat) ^ 7 = 4782969:=by decide
  have h0 : wuN N cs b y l ≤ 43046721 * (wL N cs b).length:=by unfold wuN;split <;> omega
  rw [e7] at h7
  rw [if_neg h]
  generalize 9 ^ (7 - (wL N cs b).length) = q at *
  omega
theorem wt_max {N : Nat} {cs : List S83} (hv : cabsB (N : Int) cs = true) {b : Nat} (hb : b < N) (y : Int) : wtN N cs b y ≤ 400000000:=by
 have l1:=wL_len hv hb
 unfold wtN
 split
 ·have h1 : 9 ^ (8 - (wL N cs b).length) ≤ 9 ^ 8:=Nat.pow_le_pow_right (by omega) (by omega)
  have h2 : (9 : Nat) ^ 8 = 43046721:=by decide
  rw [h2] at h1
  omega
 ·omega
def hmN (hs : List Int) (s : Nat) : Nat:=(rd hs s).toNat
theorem takeN_mem (fr rc i : Int) (l : List Int) (s : Int) : s ∈ takeN fr rc i l ↔ s ∈ l ∨ (s = i ∧ i ≠ fr ∧ (rc = i ∨ rc = 15)):=by
 unfold takeN
 split
 ·rename_i h
  rw [List.mem_append,List.mem_singleton]
  exact ⟨fun h1 => h1.imp id (fun e => ⟨e,h.1,h.2⟩),fun h1 => h1.imp id (fun e => e.1)⟩
 ·rename_i h
  exact ⟨Or.inl,fun h1 => h1.elim id (fun e => absurd ⟨e.2.1,e.2.2⟩ h)⟩
theorem takeN_len (fr rc i : Int) (l : List Int) : (takeN fr rc i l).length ≤ l.length + 1:=by unfold takeN;split <;> simp
theorem stN_mem (hs vs : List Int) (b v fr rc : Int) (d : Nat) : ∀ (i : Nat) (l : List Int),(∀ s,s ∈ stN hs vs b v fr rc d (i : Int) l ↔ s ∈ l ∨ ∃ S : Nat,i ≤ S ∧ S < i + d ∧ s = (S : Int) ∧ rd hs S = b ∧ rd vs S = v ∧ (S : Int) ≠ fr ∧ (rc = S ∨ rc = 15)) ∧ (stN hs vs b v fr rc d (i : Int) l).length ≤ l.length + d:=by
 induction d with
 | zero => exact fun i l => ⟨fun s => ⟨Or.inl,fun h => h.elim id (fun ⟨S,h1,h2,_⟩ => by omega)⟩,Nat.le_refl _⟩
 | succ d ih =>
  intro i l
  have hl : (if rd hs (i : Int) = b ∧ rd vs (i : Int) = v then takeN fr rc i l else l).length ≤ l.length + 1:=by
   split
   ·exact takeN_len _ _ _ _
   ·omega
  obtain ⟨h1,h2⟩:=ih (i + 1) (if rd hs (i : Int) = b ∧ rd vs (i : Int) = v then takeN fr rc i l else l)
  rw [stN,show (i : Int) + 1 = ((i + 1 : Nat) : Int) from by omega]
  refine ⟨fun s => (h1 s).trans ⟨fun h => ?_,fun h => ?_⟩,by omega⟩
  ·rcases h with h|⟨S,a1,a2,a3⟩
   ·split at h
    ·rename_i hc
     rcases (takeN_mem _ _ _ _ _).1 h with h|⟨e,e2,e3⟩
     ·exact Or.inl h
     ·exact Or.inr ⟨i,Nat.le_refl _,by omega,e,hc.1,hc.2,e2,e3⟩
    ·exact Or.inl h
   ·exact Or.inr ⟨S,by omega,by omega,a3⟩
  ·rcases h with h|⟨S,a1,a2,a3,a4,a5,a6,a7⟩
   ·refine Or.inl ?_
    split
    ·exact (takeN_mem _ _ _ _ _).2 (Or.inl h)
    ·exact h
   ·by_cases e : S = i
    ·subst e
     refine Or.inl ?_
     rw [if_pos ⟨a4,a5⟩]
     exact (takeN_mem _ _ _ _ _).2 (Or.inr ⟨a3,a6,a7⟩)
    ·exact Or.inr ⟨S,by omega,by omega,a3,a4,a5,a6,a7⟩
structure NV (N : Nat) (cs : List S83) (hs vs : List Int) (F : Nat) (v rc : Int) : Prop where
 hn : netB (N : Int) cs hs vs = true
 hF : F < hs.length
 hv : rd vs F = v
 hr : (0 ≤ rc ∧ rc < hs.length) ∨ rc = 15
def InvT (N : Nat) (cs : List S83) (hs vs : List Int) (T : TabN) : Prop :=
 ∀ b v s x,T b v s = some x → ∃ B S : Nat,b = (B : Int) ∧ s = (S : Int) ∧ B < N ∧ S < hs.length ∧ v = rd vs S ∧ gD (rootsL N cs) B = gD (rootsL N cs) (hmN hs S) ∧ ((x = -1 ∧ B = hmN hs S) ∨ ∃ o,TJ N cs x B o ∧ Sep N cs x B (hmN hs S))
def AtB (N : Nat) (cs : List S83) (h0 b : Nat) (y : Int) : Prop:=gD (rootsL N cs) b = gD (rootsL N cs) h0 ∧ ((y = -1 ∧ b = h0) ∨ ∃ o,TJ N cs y b o ∧ Sep N cs y b h0)
def szN (st : RN) (w : Nat) : Prop:=st.over.length + w < 1000000000000 ∧ st.took.length + 15 * w < 1000000000000 ∧ st.n + w < 1000000000000
structure Base (N : Nat) (cs : List S83) (hs vs : List Int) (F : Nat) (v rc : Int) (w b : Nat) (st st' : RN) : Prop where
 lo : st'.over.length ≤ st.over.length + w
 lt : st'.took.length ≤ st.took.length + 15 * w
 ln : st'.n ≤ st.n + w
 inv : InvT N cs hs vs st'.T
 old : ∀ x y s,st.T x y s ≠ none → st'.T x y s ≠ none
 oth : ∀ x y s,¬ (y = v ∧ s = (F : Int)) → st'.T x y s = st.T x y s
 ov0 : ∀ j ∈ st.over,j ∈ st'.over
 ov1 : ∀ j ∈ st'.over,j ∈ st.over ∨ ∃ e o,TJ N cs j e o ∧ gD (rootsL N cs) e = gD (rootsL N cs) b
 tk0 : ∀ s ∈ st.took,s ∈ st'.took
 tk1 : ∀ s ∈ st'.took,s ∈ st.took ∨ ∃ S : Nat,s = (S : Int) ∧ S < hs.length ∧ S ≠ F ∧ (rc = S ∨ rc = 15) ∧ rd vs S = v ∧ gD (rootsL N cs) (hmN hs S) = gD (rootsL N cs) b
section
variable {N : Nat} {cs : List S83} {hs vs : List Int} {F : Nat} {v rc : Int}
theorem Base.refl {b : Nat} {st : RN} (h : InvT N cs hs vs st.T) : Base N cs hs vs F v rc 0 b st st:=⟨by omega,by omega,by omega,h,fun _ _ _ h => h,fun _ _ _ _ => rfl,fun _ h => h,fun _ h => Or.inl h,fun _ h => h,fun _ h => Or.inl h⟩
theorem Base.trans {w w2 b : Nat} {st st1 st2 : RN} (h : Base N cs hs vs F v rc w b st st1) (g : Base N cs hs vs F v rc w2 b st1 st2) : Base N cs hs vs F v rc (w + w2) b st st2 :=
 ⟨by have:=h.lo;have:=g.lo;omega,by have:=h.lt;have:=g.lt;omega,by have:=h.ln;have:=g.ln;omega,g.inv,fun x y s hx => g.old x y s (h.old x y s hx),fun x y s hx => (g.oth x y s hx).trans (h.oth x y s hx),fun j hj => g.ov0 j (h.ov0 j hj),
  fun j hj => (g.ov1 j hj).elim (fun h1 => h.ov1 j h1) Or.inr,fun j hj => g.tk0 j (h.tk0 j hj),fun j hj => (g.tk1 j hj).elim (fun h1 => h.tk1 j h1) Or.inr⟩
theorem Base.wide {w w2 b : Nat} {st st1 : RN} (h : Base N cs hs vs F v rc w b st st1) (hw : w ≤ w2) : Base N cs hs vs F v rc w2 b st st1 :=
 ⟨by have:=h.lo;omega,by have:=h.lt;omega,by have:=h.ln;omega,h.inv,h.old,h.oth,h.ov0,h.ov1,h.tk0,h.tk1⟩
def Tgt (hs vs : List Int) (v rc : Int) (t : Nat) : Prop:=rc = 15 ∨ ∃ R : Nat,rc = (R : Int) ∧ R < hs.length ∧ rd vs R = v ∧ t = hmN hs R
def OnP (N : Nat) (cs : List S83) (b c t : Nat) : Prop:=∀ j,¬ (Sep N cs j b c ∧ Sep N cs j c t)
def Concl (N : Nat) (cs : List S83) (hs vs : List Int) (F : Nat) (v rc : Int) (b t : Nat) (st' : RN) : Prop :=
 (∀ S : Nat,S < hs.length → hmN hs S = t → rd vs S = v → S ≠ F → (rc = S ∨ rc = 15) → (S : Int) ∈ st'.took) ∧ (∀ j,Sep N cs j b t → j ∈ st'.over) ∧ ∀ c,c < N → gD (rootsL N cs) c = gD (rootsL N cs) b → c ≠ b → OnP N cs b c t → st'.T c v F ≠ none
theorem Concl.grow {w b b2 t : Nat} {st st2 : RN} (h : Concl N cs hs vs F v rc b t st) (g : Base N cs hs vs F v rc w b2 st st2) : Concl N cs hs vs F v rc b t st2 :=
 ⟨fun S a1 a2 a3 a4 a5 => g.tk0 _ (h.1 S a1 a2 a3 a4 a5),fun j hj => g.ov0 j (h.2.1 j hj),fun c a1 a2 a3 a4 => g.old _ _ _ (h.2.2 c a1 a2 a3 a4)⟩
def Narrow (N : Nat) (cs : List S83) (hs vs : List Int) (F : Nat) (v rc : Int) (b : Nat) (P : Nat → Prop) (st st' : RN) : Prop :=
 ∀ R : Nat,rc = (R : Int) → R < hs.length → R ≠ F → rd vs R = v → gD (rootsL N cs) (hmN hs R) = gD (rootsL N cs) b → P (hmN hs R) → (∀ c,c < N → gD (rootsL N cs) c = gD (rootsL N cs) b → OnP N cs b c (hmN hs R) → st.T c v R ≠ none) → ∀ j ∈ st'.over,j ∈ st.over ∨ Sep N cs j b (hmN hs R)
def ComeOK (N : Nat) (cs : List S83) (hs vs : List Int) (F : Nat) (v rc : Int) (f : Nat) : Prop :=
 ∀ (b : Nat) (y : Int) (st : RN),b < N → InvT N cs hs vs st.T → AtB N cs (hmN hs F) b y → muN N cs b y ≤ f → szN st (wtN N cs b y) →
  ∃ st',comeN cs (treeX (N : Int) cs) hs vs v F rc f b y st = some st' ∧ Base N cs hs vs F v rc (wtN N cs b y) b st st' ∧ st'.over.length + 1 ≤ st.over.length + wtN N cs b y ∧ st'.T b v F ≠ none ∧
   (∀ t,t < N → gD (rootsL N cs) t = gD (rootsL N cs) b → ¬ Sep N cs y b t → Tgt hs vs v rc t → Concl N cs hs vs F v rc b t st') ∧ Narrow N cs hs vs F v rc b (fun t => ¬ Sep N cs y b t) st st'
theorem hop_one (hv : cabsB (N : Int) cs = true) {k : Int} {b o t c : Nat} (hk : TJ N cs k b o) (ht : t < N) (hs : Sep N cs k b t) (hc : c < N) (hr : gD (rootsL N cs) c = gD (rootsL N cs) b) (hne : c ≠ b) (hp : OnP N cs b c t) : Sep N cs k b c ∧ OnP N cs o c t:=by
 obtain ⟨k2,o2,h1,h2⟩:=sep_some hv (hk.lt hv).1 hc hr.symm (fun e => hne e.symm)
 have h3 : ¬ Sep N cs k2 c t:=fun h => hp k2 ⟨h2,h⟩
 have h4 : Sep N cs k2 b t:=by
  by_cases h : Sep N cs k2 b t
  ·exact h
  ·have:=sep_tri (c:=t) h2
   exact (h (this.2 (fun h5 => h3 (sep_symm h5)))).elim
 obtain rfl:=sep_one hv ht hk h1 hs h4
 refine ⟨h2,fun j ⟨h5,h6⟩ => ?_⟩
 by_cases e : j = k
 ·subst e
  exact (sep_flip hv hk c).1 h2 h5
 ·exact hp j ⟨(sep_keep hv hk e c).2 h5,h6⟩
theorem onp_out (hv : cabsB (N : Int) cs = true) {k : Int} {b o t c : Nat} (hk : TJ N cs k b o) (hs : Sep N cs k b t) (hp : OnP N cs o c t) : OnP N cs b c t:=by
 rintro j ⟨h1,h2⟩
 by_cases e : j = k
 ·subst e
  exact (sep_tri (c:=c) hs).1 h1 h2
 ·exact hp j ⟨(sep_keep hv hk e c).1 h1,h2⟩
end
end Go.Proofs.Ytblcnbnphjnhdaa.PAll
