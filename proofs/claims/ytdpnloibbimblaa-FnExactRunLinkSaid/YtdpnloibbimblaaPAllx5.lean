/- Proved here: contracts of functions of the given program, or lemmas on them, for the laws of this seat. Written by xprint.py, a program of this session, on the ground of the kit's print; parts by hand: wip/x/ext. -/
import Derived.Test.YtdpnloibbimblaaPAllx0
import Derived.Test.YtdpnloibbimblaaPAllx1
import Derived.Test.YtdpnloibbimblaaPAllx2
import Derived.Test.YtdpnloibbimblaaPAllx3
import Derived.Test.YtdpnloibbimblaaPAllx4
namespace Go.Proofs.Ytdpnloibbimblaa.PAll
open Go.RowKit Go.Proofs.YtdpnloibbimblaaW.PrintWords Go.Proofs.YtdpnloibbimblaaW.PrintLast Go.Proofs.YtdpnloibbimblaaW.PrintMore
attribute [local go_sem] max2_int min2_int max_two min_two max_three min_three max_four min_four   -- for this text's walks alone
set_option linter.unusedVariables false
set_option linter.unusedSimpArgs false

-- LIB crcs
theorem stepS_l0 (d : Nat) : ∀ (j : Int) (c : Int),0 ≤ j → j + d = 8 → 0 ≤ c → c < 65536 → ∃ r,(0 ≤ r ∧ r < 65536) ∧ ∀ k,d < k → spec_CrcStep.l0 k c j = some r:=by
  induction d with
  | zero =>
    intro j c _ hj h0 h1
    refine ⟨c,⟨h0,h1⟩,fun k hk => ?_⟩
    obtain ⟨k,rfl⟩ : ∃ m,k = m + 1:=⟨k - 1,by omega⟩
    simp only [spec_CrcStep.l0]
    rw [if_neg (by omega)]
  | succ d ih =>
    intro j c hj0 hj h0 h1
    have hw : wrap64 (c * 2) = c * 2:=wrap_eq (by omega) (by omega)
    have hw1 : wrap64 (j + 1) = j + 1:=wrap_eq (by omega) (by omega)
    have ha0 : 0 ≤ Int.tmod (c * 2) 65536:=by rw [Int.tmod_eq_emod_of_nonneg (by omega)];omega
    have ha1 : Int.tmod (c * 2) 65536 < 65536:=by rw [Int.tmod_eq_emod_of_nonneg (by omega)];omega
    have hwt : wrap64 (Int.tdiv c 32768) = Int.tdiv c 32768  :=by rw [Int.tdiv_eq_ediv_of_nonneg h0];exact wrap_eq (by omega) (by omega)
    by_cases ht : Int.tdiv c 32768 = 1
    · obtain ⟨hx0,hx1⟩:=bx_word ha0 ha1 (b:=4129) (by omega) (by omega)
      obtain ⟨r,hr,hk⟩:=ih (j + 1) _ (by omega) (by omega) hx0 hx1
      refine ⟨r,hr,fun k hkk => ?_⟩
      obtain ⟨k,rfl⟩ : ∃ m,k = m + 1:=⟨k - 1,by omega⟩
      simp only [spec_CrcStep.l0]
      rw [if_pos (by omega),hwt,if_pos ht,hw,hw1]
      exact hk k (by omega)
    · obtain ⟨r,hr,hk⟩:=ih (j + 1) _ (by omega) (by omega) ha0 ha1
      refine ⟨r,hr,fun k hkk => ?_⟩
      obtain ⟨k,rfl⟩ : ∃ m,k = m + 1:=⟨k - 1,by omega⟩
      simp only [spec_CrcStep.l0]
      rw [if_pos (by omega),hwt,if_neg ht,hw,hw1]
      exact hk k (by omega)
theorem stepS (c b : Int) (h0 : 0 ≤ c) (h1 : c < 65536) (h2 : 0 ≤ b) (h3 : b < 256) : ∃ r,(0 ≤ r ∧ r < 65536) ∧ ∀ k,8 < k → spec_CrcStep.f k c b = some r:=by
  have hw : wrap64 b = b:=wrap_eq (by omega) (by omega)
  have hw2 : wrap64 (b * 256) = b * 256:=wrap_eq (by omega) (by omega)
  obtain ⟨hx0,hx1⟩:=bx_word h0 h1 (b:=b * 256) (by omega) (by omega)
  obtain ⟨r,hr,hk⟩:=stepS_l0 8 0 _ (by omega) (by omega) hx0 hx1
  refine ⟨r,hr,fun k hkk => ?_⟩
  unfold spec_CrcStep.f spec_l2Word.f spec_l1In.f
  rw [hw,hw2]
  rw [if_pos (show c ≥ 0 from h0),Option.bind_some,Option.bind_some,if_pos (by simp <;> omega)]
  exact hk k hkk
theorem crcS_l0 (l : List Int) (hb : BytesL l) (d : Nat) : ∀ (i : Nat) (c : Int),i + d = l.length → l.length ≤ 1000000 → 0 ≤ c → c < 65536 → ∃ r,(0 ≤ r ∧ r < 65536) ∧ ∀ k,d + 9 < k → spec_CrcOf.l0 k l c (i : Int) = some r:=by
  induction d with
  | zero =>
    intro i c hi hl h0 h1
    refine ⟨c,⟨h0,h1⟩,fun k hk => ?_⟩
    obtain ⟨k,rfl⟩ : ∃ m,k = m + 1:=⟨k - 1,by omega⟩
    simp only [spec_CrcOf.l0]
    rw [if_neg (by omega)]
  | succ d ih =>
    intro i c hi hl h0 h1
    have hx:=hb (rd l (i : Int)) (rd_memL (by omega) (by omega))
    obtain ⟨s,⟨hs0,hs1⟩,hs⟩:=stepS c (rd l (i : Int)) h0 h1 hx.1 hx.2
    obtain ⟨r,hr,hk⟩:=ih (i + 1) s (by omega) hl hs0 hs1
    refine ⟨r,hr,fun k hkk => ?_⟩
    obtain ⟨k,rfl⟩ : ∃ m,k = m + 1:=⟨k - 1,by omega⟩
    have hw1 : wrap64 ((i : Int) + 1) = ((i + 1 : Nat) : Int):=by rw [wrap_eq (by omega) (by omega)];rfl
    simp only [spec_CrcOf.l0]
    rw [if_pos (by omega),if_pos (by omega),hs k (by omega),Option.bind_some,hw1]
    exact hk k (by omega)
theorem crcS_ex (l : List Int) (hb : BytesL l) (hl : l.length ≤ 600) : ∃ r,(0 ≤ r ∧ r < 65536) ∧ ∀ k,1000 < k → spec_CrcOf.f k l = some r:=by
  obtain ⟨r,hr,hk⟩:=crcS_l0 l hb l.length 0 65535 (by omega) (by omega) (by omega) (by omega)
  refine ⟨r,hr,fun k hkk => ?_⟩
  unfold spec_CrcOf.f spec_l1Data.f
  rw [Option.bind_some,if_pos (by simp <;> omega)]
  exact hk k (by omega)
/-- The check of bytes. -/
def crcS (l : List Int) : Int:=(spec_CrcOf.f 1001 l).getD 0
theorem crcS_eq (l : List Int) (hb : BytesL l) (hl : l.length ≤ 600) : (0 ≤ crcS l ∧ crcS l < 65536) ∧ ∀ k,1000 < k → spec_CrcOf.f k l = some (crcS l):=by
  obtain ⟨r,hr,hk⟩:=crcS_ex l hb hl
  have e : crcS l = r:=by unfold crcS;rw [hk 1001 (by omega)];rfl
  rw [e]
  exact ⟨hr,hk⟩

-- LIB linkpacks
theorem addS (h : List Int) (hb : BytesL h) (hl : h.length ≤ 598) (k : Nat) (hk : 1000 < k) : spec_AddCrc.f k h = some (h ++ [crcS h / 256,crcS h % 256],true):=by
  obtain ⟨⟨c0,c1⟩,hc⟩:=crcS_eq h hb (by omega)
  unfold spec_AddCrc.f
  rw [wrap_eq (by omega) (by omega),if_neg (by omega),hc k hk]
  generalize crcS h = c at c0 c1
  have e1 : wrap64 (Int.tdiv c 256) = c / 256:=by rw [Int.tdiv_eq_ediv_of_nonneg c0,wrap_eq (by omega) (by omega)]
  have e2 : Int.tmod c 256 = c % 256:=Int.tmod_eq_emod_of_nonneg c0
  simp only [Option.bind_some,List.nil_append,e1,e2]
  rw [if_pos (by simp <;> omega),if_pos (by simp <;> omega),show c / 256 % 256 = c / 256 from by omega,show c % 256 % 256 = c % 256 from by omega]
theorem cutS (h : List Int) (hb : BytesL h) (hl : h.length ≤ 598) (x y : Int) (hx : 0 ≤ x ∧ x < 256) (hy : 0 ≤ y ∧ y < 256) (k : Nat) (hk : 1000 < k) : spec_CutCrc.f k (h ++ [x,y]) = if crcS h = x * 256 + y then some (h,true) else some ([],false):=by
  obtain ⟨_,hc⟩:=crcS_eq h hb (by omega)
  have hle : ((h ++ [x,y]).length : Int) = (h.length : Int) + 2:=by simp
  have hw1 : wrap64 ((h.length : Int) + 2 - 2) = (h.length : Int):=by rw [show (h.length : Int) + 2 - 2 = (h.length : Int) from by omega];exact wrap_eq (by omega) (by omega)
  have hw2 : wrap64 ((h.length : Int) + 1) = (h.length : Int) + 1:=wrap_eq (by omega) (by omega)
  have ht : (h ++ [x,y]).take (h.length : Int).toNat = h:=by rw [Int.toNat_natCast];simp
  have wx : wrap64 x = x:=wrap_eq (by omega) (by omega)
  have wy : wrap64 y = y:=wrap_eq (by omega) (by omega)
  have wx2 : wrap64 (x * 256) = x * 256:=wrap_eq (by omega) (by omega)
  unfold spec_CutCrc.f spec_l1Data.f
  rw [hle,Option.bind_some,if_pos (by simp <;> omega),hw1,if_neg (by omega),if_pos (by omega),if_pos (by omega),ht,hc k hk,Option.bind_some,if_pos (by omega),hw2,if_pos (by omega),if_pos (by omega),rd_app0,rd_app1,wx,wy,wx2,wrap_eq (x:=x * 256 + y) (by omega) (by omega)]
  by_cases he : crcS h = x * 256 + y
  · rw [if_pos he,if_pos he,Option.bind_some,if_pos (by simp <;> omega)];try rfl
  · rw [if_neg he,if_neg he]
theorem packS (kind s : Int) (b : List Int) (h1 : 1 ≤ kind) (h2 : kind ≤ 2) (h3 : 0 ≤ s) (h4 : s < 16) (hb : BytesL b) (hl : b.length ≤ 597) (hk2 : kind = 2 → b = []) (k : Nat) (hk : 1000 < k) : spec_PackLink.f k kind s b = some (pkt crcS kind s b,true):=by
  have hw1 : wrap64 (16 * kind) = 16 * kind:=wrap_eq (by omega) (by omega)
  have hw2 : wrap64 (16 * kind + s) = 16 * kind + s:=wrap_eq (by omega) (by omega)
  have ha:=addS ((16 * kind + s) :: b) (bytesL_cons (by omega) (by omega) hb) (by simp <;> omega) k hk
  have hm : (16 * kind + s) % 256 = 16 * kind + s:=by omega
  unfold spec_PackLink.f spec_l1In.f
  rw [hw1,hw2,hm]
  rw [if_pos (show kind ≥ 1 from h1),Option.bind_some,if_pos (by simp <;> omega),if_pos (show s ≥ 0 from h3),Option.bind_some,if_pos (by simp <;> omega)]
  by_cases e2 : kind = 2
  · rw [if_pos e2,if_neg (by rw [hk2 e2];simp),Option.bind_some,if_pos (by simp <;> omega),List.singleton_append,ha];rfl
  · rw [if_neg e2,Option.bind_some,if_pos (by simp <;> omega),List.singleton_append,ha];rfl
theorem unpackS_ok (kind s : Int) (b : List Int) (h1 : 1 ≤ kind) (h2 : kind ≤ 2) (h3 : 0 ≤ s) (h4 : s < 16) (hb : BytesL b) (hl : b.length ≤ 597) (hk2 : kind = 2 → b = []) (k : Nat) (hk : 1000 < k) : spec_UnpackLink.f k (pkt crcS kind s b) = some (kind,s,b,true):=by
  have hB:=bytesL_cons (x:=16 * kind + s) (by omega) (by omega) hb
  obtain ⟨⟨c0,c1⟩,_⟩:=crcS_eq _ hB (by simp <;> omega)
  have hcut:=cutS ((16 * kind + s) :: b) hB (by simp <;> omega) (crcS ((16 * kind + s) :: b) / 256) (crcS ((16 * kind + s) :: b) % 256) (by omega) (by omega) k hk
  rw [if_pos (by omega)] at hcut
  unfold spec_UnpackLink.f pkt
  rw [hcut,Option.bind_some,if_pos rfl]
  obtain ⟨k,rfl⟩ : ∃ m,k = m + 1:=⟨k - 1,by omega⟩
  simp only [spec_UnpackLink.j0]
  have hr : rd ((16 * kind + s) :: b) 0 = 16 * kind + s:=rfl
  have hw : wrap64 (16 * kind + s) = 16 * kind + s:=wrap_eq (by omega) (by omega)
  have hd : wrap64 (Int.tdiv (16 * kind + s) 16) = kind:=by rw [Int.tdiv_eq_ediv_of_nonneg (by omega),wrap_eq (by omega) (by omega)];omega
  have hm : Int.tmod (16 * kind + s) 16 = s:=by rw [Int.tmod_eq_emod_of_nonneg (by omega)];omega
  rw [if_neg (by simp <;> omega),if_pos (by simp <;> omega),hr,hw,hd,hm]
  unfold spec_l1In.f
  rw [if_pos (show kind ≥ 1 from h1),Option.bind_some,if_pos (by simp <;> omega)]
  by_cases e2 : kind = 2
  · rw [if_pos e2,hk2 e2,if_neg (by simp),Option.bind_some,if_pos (by simp),Option.bind_some,if_pos (by simp)];simp
  · rw [if_neg e2,Option.bind_some,if_pos (by simp <;> omega),Option.bind_some,if_pos (by simp <;> omega)];simp
theorem unpackS_bad (kind s : Int) (b : List Int) (h1 : 1 ≤ kind) (h2 : kind ≤ 2) (h3 : 0 ≤ s) (h4 : s < 16) (hb : BytesL b) (hl : b.length ≤ 597) (k : Nat) (hk : 1000 < k) : spec_UnpackLink.f k (flip0 (pkt crcS kind s b)) = some (0,0,[],false):=by
  have hB:=bytesL_cons (x:=16 * kind + s) (by omega) (by omega) hb
  have hB2:=bytesL_cons (x:=16 * kind + s + 128) (by omega) (by omega) hb
  obtain ⟨⟨c0,c1⟩,_⟩:=crcS_eq _ hB (by simp <;> omega)
  have hcut:=cutS ((16 * kind + s + 128) :: b) hB2 (by simp <;> omega) (crcS ((16 * kind + s) :: b) / 256) (crcS ((16 * kind + s) :: b) % 256) (by omega) (by omega) k hk
  unfold spec_UnpackLink.f pkt
  rw [List.cons_append,flip0_cons,flip_lt (by omega) (by omega),← List.cons_append,hcut]
  obtain ⟨k,rfl⟩ : ∃ m,k = m + 1:=⟨k - 1,by omega⟩
  by_cases he : crcS ((16 * kind + s + 128) :: b) = crcS ((16 * kind + s) :: b) / 256 * 256 + crcS ((16 * kind + s) :: b) % 256
  · rw [if_pos he,Option.bind_some,if_pos rfl]
    simp only [spec_UnpackLink.j0]
    have hr : rd ((16 * kind + s + 128) :: b) 0 = 16 * kind + s + 128:=rfl
    have hw : wrap64 (16 * kind + s + 128) = 16 * kind + s + 128:=wrap_eq (by omega) (by omega)
    have hd : wrap64 (Int.tdiv (16 * kind + s + 128) 16) = kind + 8:=by rw [Int.tdiv_eq_ediv_of_nonneg (by omega),wrap_eq (by omega) (by omega)];omega
    rw [if_neg (by simp <;> omega),if_pos (by simp <;> omega),hr,hw,hd]
    unfold spec_l1In.f
    rw [if_pos (by omega),Option.bind_some,if_neg (by simp <;> omega)]
  · rw [if_neg he,Option.bind_some,if_neg (by decide)]
    simp only [spec_UnpackLink.j0,if_pos]

-- LIB linkmodels
/-- What UnpackLink tells of an arrival. -/
theorem unpS_ok {list : List (List Int)} (hl : ∀ b ∈ list, b.length ≤ 597) (hb : ∀ b ∈ list, BytesL b) (fs : List Int) (known m : Nat) (x : Int) (h0 : 0 ≤ x) (h1 : x < m) (hf : ¬ fs.getD x.toNat 0 = 4) :
    spec_UnpackLink.f 1001 (passB fs (pkL crcS list known m) x) = some (1,(((known + x.toNat) % 16 : Nat) : Int),list.getD (known + x.toNat) [],true):=by
  unfold passB
  rw [if_neg (fun h => hf h.1),pkL_get _ _ _ _ _ h0 h1]
  exact unpackS_ok 1 _ _ (by omega) (by omega) (by omega) (by omega) (getD_bytes hb _) (getD_le hl _) (by omega) 1001 (by omega)
theorem unpS_bad {list : List (List Int)} (hl : ∀ b ∈ list, b.length ≤ 597) (hb : ∀ b ∈ list, BytesL b) (fs : List Int) (known m : Nat) (x : Int) (h0 : 0 ≤ x) (h1 : x < m) (hf : fs.getD x.toNat 0 = 4) :
    spec_UnpackLink.f 1001 (passB fs (pkL crcS list known m) x) = some (0,0,[],false):=by
  unfold passB
  rw [pkL_get _ _ _ _ _ h0 h1,if_pos ⟨hf,by rw [pkt_len];omega⟩]
  exact unpackS_bad 1 _ _ (by omega) (by omega) (by omega) (by omega) (getD_bytes hb _) (getD_le hl _) 1001 (by omega)
theorem unpS_back_bad (bs : List Int) (q : Int) (h0 : 0 ≤ q) (h1 : q < 16) (hf : bs.getD 0 0 = 4) : spec_UnpackLink.f 1001 (passB bs [pkt crcS 2 q []] 0) = some (0,0,[],false):=by
  unfold passB
  rw [if_pos ⟨hf,by show 0 < (pkt crcS 2 q []).length;rw [pkt_len];omega⟩]
  exact unpackS_bad 2 q [] (by omega) (by omega) h0 h1 (fun x hx => by simp at hx) (by simp) 1001 (by omega)
theorem unpS_back_ok (bs : List Int) (q : Int) (h0 : 0 ≤ q) (h1 : q < 16) (hf : ¬ bs.getD 0 0 = 4) : spec_UnpackLink.f 1001 (passB bs [pkt crcS 2 q []] 0) = some (2,q,[],true):=by
  unfold passB
  rw [if_neg (fun h => hf h.1)]
  exact unpackS_ok 2 q [] (by omega) (by omega) h0 h1 (fun x hx => by simp at hx) (by simp) (fun _ => rfl) 1001 (by omega)

-- LIB specwire
theorem specIn (x a b : Int) : spec_l1In.f x a b = some (decide (a ≤ x) && decide (x ≤ b)):=by
  unfold spec_l1In.f
  by_cases h : x ≥ a
  · rw [if_pos h,decide_eq_true (show a ≤ x from h),Bool.true_and]
  · rw [if_neg h,decide_eq_false (show ¬ a ≤ x from h),Bool.false_and]
theorem fv_l0 (l : List Int) (hl : l.length ≤ 1000000) (d : Nat) : ∀ i : Nat,i + d = l.length → ∀ k,d < k → spec_FatesValid.l0 k l (i : Int) = some ((l.drop i).all (fun x => decide (0 ≤ x) && decide (x ≤ 4)) && decide ((l.length : Int) ≤ 200)):=by
  induction d with
  | zero =>
    intro i hi k hk
    obtain ⟨k,rfl⟩ : ∃ m,k = m + 1:=⟨k - 1,by omega⟩
    simp only [spec_FatesValid.l0]
    rw [if_neg (by omega),List.drop_eq_nil_of_le (by omega)]
    rfl
  | succ d ih =>
    intro i hi k hk
    obtain ⟨k,rfl⟩ : ∃ m,k = m + 1:=⟨k - 1,by omega⟩
    simp only [spec_FatesValid.l0]
    have hi2 : i < l.length:=by omega
    rw [if_pos (by omega),if_pos (by omega),rd_get l i hi2,specIn,Option.bind_some,List.drop_eq_getElem_cons hi2,List.all_cons,wrap_eq (by omega) (by omega)]
    by_cases h : (decide (0 ≤ l[i]) && decide (l[i] ≤ 4)) = true
    · rw [if_pos h,h,Bool.true_and]
      exact ih (i + 1) (by omega) k (by omega)
    · rw [if_neg h,Bool.eq_false_iff.mpr h,Bool.false_and,Bool.false_and]
theorem fv_eq {l : List Int} (hl : l.length ≤ 1000000) (k : Nat) (hk : l.length < k) : spec_FatesValid.f k l = some (fatesB l):=by
  have h:=fv_l0 l hl l.length 0 (by omega) k hk
  unfold spec_FatesValid.f
  rw [show (0 : Int) = ((0 : Nat) : Int) from rfl,h,List.drop_zero]
  unfold fatesB
  rw [Bool.and_comm]
  congr 2
  by_cases h2 : l.length ≤ 200
  · rw [decide_eq_true h2,decide_eq_true (by omega)]
  · rw [decide_eq_false h2,decide_eq_false (by omega)]
theorem l4fate_eq (l : List Int) (i : Nat) : spec_l4Fate.f l (i : Int) = some (l.getD i 0):=by
  unfold spec_l4Fate.f
  by_cases h : (i : Int) < (l.length : Int)
  · rw [if_pos h,if_pos (by omega),rd_get l i (by omega)]
    simp [List.getD_eq_getElem?_getD,show i < l.length by omega]
  · rw [if_neg h]
    simp [List.getD_eq_getElem?_getD,List.getElem?_eq_none (show l.length ≤ i by omega)]
theorem l4at_eq (l : List Int) (i : Nat) (hi : i ≤ 1000000) : spec_l4At.f l (i : Int) = some (atI l i):=by
  unfold spec_l4At.f atI
  rw [l4fate_eq,Option.bind_some,wrap_eq (x:=2 * (i : Int)) (by omega) (by omega),wrap_eq (x:=2 * (i : Int) + 3) (by omega) (by omega)]
  split
  · rfl
  · split <;> rfl
/-- The scan of one time, from message i on. -/
theorem arr_l1 (f : List Int) (n : Nat) (hn : n ≤ 60) (t : Nat) (ht : t ≤ 1000) (d : Nat) :
    ∀ (i : Nat) (acc : List Int),i + d = n → acc.length + 2 * d ≤ 100000 → ∀ k,spec_ArrivalsOf.l1 (k + d + 1) f (n : Int) acc (t : Int) (i : Int) = spec_ArrivalsOf.l0 k f (n : Int) (acc ++ ((List.range' i d).flatMap fun i => hitI f t i)) ((t + 1 : Nat) : Int):=by
  induction d with
  | zero =>
    intro i acc hi ha k
    rw [Nat.add_zero]
    simp only [spec_ArrivalsOf.l1]
    rw [if_neg (by omega),wrap_eq (by omega) (by omega)]
    simp only [List.range'_zero,List.flatMap_nil,List.append_nil]
    rfl
  | succ d ih =>
    intro i acc hi ha k
    rw [show k + (d + 1) + 1 = (k + d + 1) + 1 from by omega]
    generalize hF : k + d + 1 = F
    simp only [spec_ArrivalsOf.l1]
    rw [if_pos (by omega),l4at_eq f i (by omega),Option.bind_some,List.range'_succ,List.flatMap_cons,wrap_eq (x:=(i : Int) + 1) (by omega) (by omega)]
    have e : (i : Int) + 1 = ((i + 1 : Nat) : Int):=rfl
    rw [e]
    by_cases h : atI f i = (t : Int)
    · rw [if_pos h,if_pos (by omega),Option.bind_some,l4fate_eq,Option.bind_some]
      by_cases h2 : f.getD i 0 = 2
      · have hh : hitI f t i = [(i : Int),(i : Int)]:=by unfold hitI;rw [if_pos h,if_pos h2]
        rw [if_pos h2,if_pos (by simp <;> omega),← hF,ih (i + 1) _ (by omega) (by simp <;> omega) k,hh]
        congr 1
        simp
      · have hh : hitI f t i = [(i : Int)]:=by unfold hitI;rw [if_pos h,if_neg h2]
        rw [if_neg h2,← hF,ih (i + 1) _ (by omega) (by simp <;> omega) k,hh]
        congr 1
        simp
    · have hh : hitI f t i = []:=by unfold hitI;rw [if_neg h]
      rw [if_neg h,← hF,ih (i + 1) _ (by omega) (by omega) k,hh]
      congr 1
theorem hitI_len (f : List Int) (t i : Nat) : (hitI f t i).length ≤ 2:=by
  unfold hitI
  split
  · split <;> simp
  · simp
theorem flat_len {α : Type} (g : Nat → List α) (c : Nat) (hg : ∀ i,(g i).length ≤ c) (l : List Nat) : (l.flatMap g).length ≤ c * l.length:=by
  induction l with
  | nil => simp
  | cons a l ih =>
    rw [List.flatMap_cons,List.length_append,List.length_cons,Nat.mul_succ]
    have:=hg a
    omega
theorem arr_l0 (f : List Int) (n : Nat) (hn : n ≤ 60) (d : Nat) : ∀ (t : Nat) (acc : List Int),t + d = 2 * n + 3 → acc.length + 200 * d ≤ 90000 → ∀ K,spec_ArrivalsOf.l0 (K + d * (n + 2) + 1) f (n : Int) acc (t : Int) = some (acc ++ (List.range' t d).flatMap fun t => (List.range n).flatMap fun i => hitI f t i):=by
  induction d with
  | zero =>
    intro t acc ht ha K
    simp only [spec_ArrivalsOf.l0]
    rw [wrap_eq (x:=2 * (n : Int)) (by omega) (by omega),wrap_eq (by omega) (by omega),if_neg (by omega)]
    simp
  | succ d ih =>
    intro t acc ht ha K
    rw [show K + (d + 1) * (n + 2) + 1 = ((K + d * (n + 2) + 1) + n + 1) + 1 from by rw [Nat.succ_mul];omega]
    generalize hF : (K + d * (n + 2) + 1) + n + 1 = F
    simp only [spec_ArrivalsOf.l0]
    rw [wrap_eq (x:=2 * (n : Int)) (by omega) (by omega),wrap_eq (by omega) (by omega),if_pos (by omega)]
    have hlen : ((List.range' 0 n).flatMap fun i => hitI f t i).length ≤ 2 * n:=by
      have:=flat_len (fun i => hitI f t i) 2 (hitI_len f t) (List.range' 0 n)
      rwa [List.length_range'] at this
    rw [show (0 : Int) = ((0 : Nat) : Int) from rfl,← hF,arr_l1 f n hn t (by omega) n 0 acc (by omega) (by omega) _,ih (t + 1) _ (by omega) (by rw [List.length_append];omega) K,List.range'_succ,List.flatMap_cons,List.range_eq_range',List.append_assoc]
theorem arr_eq {f : List Int} (hf : fatesB f = true) (n : Nat) (hn : n ≤ 8) (k : Nat) (hk : 1000 < k) : spec_ArrivalsOf.f k f (n : Int) = some (arrI f n):=by
  have hl:=fatesB_len hf
  have hb : (2 * n + 3) * (n + 2) ≤ 19 * 10:=Nat.mul_le_mul (by omega) (by omega)
  unfold spec_ArrivalsOf.f
  rw [Option.bind_some,fv_eq (by omega) k (by omega),hf,Option.bind_some,if_pos rfl,specIn,Option.bind_some,decide_eq_true (by omega),decide_eq_true (by omega)]
  obtain ⟨K,rfl⟩ : ∃ K,k = K + (2 * n + 3) * (n + 2) + 1 + 1:=⟨k - ((2 * n + 3) * (n + 2) + 2),by omega⟩
  simp only [spec_ArrivalsOf.j0]
  rw [if_neg (by decide),show (0 : Int) = ((0 : Nat) : Int) from rfl,arr_l0 f n (by omega) (2 * n + 3) 0 [] (by omega) (by simp <;> omega) K,List.nil_append,← scan_eq]
  unfold scanI
  simp only [List.range_eq_range']
theorem ll_l0 (l : List (List Int)) (hl : l.length ≤ 60) (hb : ∀ b ∈ l,b.length ≤ 600) (d : Nat) : ∀ i : Nat,i + d = l.length → ∀ k,d < k → spec_l4List.l0 k l (i : Int) = some true:=by
  induction d with
  | zero =>
    intro i hi k hk
    obtain ⟨k,rfl⟩ : ∃ m,k = m + 1:=⟨k - 1,by omega⟩
    simp only [spec_l4List.l0]
    rw [if_neg (by omega),decide_eq_true (by omega)]
  | succ d ih =>
    intro i hi k hk
    obtain ⟨k,rfl⟩ : ∃ m,k = m + 1:=⟨k - 1,by omega⟩
    simp only [spec_l4List.l0]
    have hi2 : i < l.length:=by omega
    have hx:=hb _ (List.getElem_mem hi2)
    have hr : rd_L4 l (i : Int) = l[i]:=by simp [rd_L4,List.getD_eq_getElem?_getD,hi2]
    unfold spec_l1Data.f
    rw [if_pos (by omega),if_pos (by omega),hr,Option.bind_some,if_pos (by simp <;> omega),wrap_eq (by omega) (by omega)]
    exact ih (i + 1) (by omega) k (by omega)
theorem flip_eq (b : List Int) (h : 0 < b.length) (h2 : b.length ≤ 600) : spec_l1Flip.f b 0 = some (flip0 b):=by
  unfold spec_l1Flip.f
  have e1 : wrap64 (Int.tdiv 0 8) = 0:=by rw [show Int.tdiv 0 8 = 0 from rfl];exact wrap_eq (by omega) (by omega)
  have e2 : wrap64 (7 - Int.tmod 0 8) = 7:=by rw [show Int.tmod 0 8 = 0 from rfl];exact wrap_eq (by omega) (by omega)
  have e3 : shl .u8 1 7 = 128:=by decide +kernel
  rw [Option.bind_some,List.nil_append,if_pos (by simp <;> omega),Option.bind_some,e1,e2,if_pos (by omega),if_pos (by omega),if_pos (by omega),e3]
  rfl
theorem pw_l0 (f : List Int) (l : List (List Int)) (hb : ∀ b ∈ l,b.length ≤ 600) (ar : List Int) (ha : ∀ x ∈ ar,0 ≤ x ∧ x < l.length) (hal : ar.length ≤ 1000) (d : Nat) : ∀ (i : Nat) (acc : List (List Int)),i + d = ar.length → acc.length + d ≤ 100000 → ∀ k,d < k → spec_PassWire.l0 k f l acc ar (i : Int) = some (acc ++ (ar.drop i).map (passB f l)):=by
  induction d with
  | zero =>
    intro i acc hi hc k hk
    obtain ⟨k,rfl⟩ : ∃ m,k = m + 1:=⟨k - 1,by omega⟩
    simp only [spec_PassWire.l0]
    rw [if_neg (by omega),List.drop_eq_nil_of_le (by omega)]
    simp
  | succ d ih =>
    intro i acc hi hc k hk
    obtain ⟨k,rfl⟩ : ∃ m,k = m + 1:=⟨k - 1,by omega⟩
    simp only [spec_PassWire.l0]
    have hi2 : i < ar.length:=by omega
    obtain ⟨hx0,hx1⟩:=ha _ (List.getElem_mem hi2)
    have hbl : (rd_L4 l ar[i]).length ≤ 600:=by
      have e : rd_L4 l ar[i] = l[ar[i].toNat]'(by omega):=by simp [rd_L4,List.getD_eq_getElem?_getD,show ar[i].toNat < l.length by omega]
      rw [e];exact hb _ (List.getElem_mem _)
    have hfate : spec_l4Fate.f f ar[i] = some (f.getD ar[i].toNat 0):=by
      have:=l4fate_eq f ar[i].toNat
      rwa [show ((ar[i].toNat : Nat) : Int) = ar[i] from by omega] at this
    rw [if_pos (by omega),Option.bind_some,if_pos (by omega),rd_get ar i hi2,if_pos (by omega),if_pos (by omega),List.nil_append,if_pos (by simp <;> omega),Option.bind_some,hfate,Option.bind_some,List.drop_eq_getElem_cons hi2,List.map_cons,wrap_eq (by omega) (by omega)]
    have e : (i : Int) + 1 = ((i + 1 : Nat) : Int):=rfl
    rw [e]
    by_cases h4 : f.getD ar[i].toNat 0 = 4
    · rw [if_pos h4]
      by_cases h5 : ((rd_L4 l ar[i]).length : Int) > 0
      · have hp : passB f l ar[i] = flip0 (rd_L4 l ar[i]):=by unfold passB;rw [if_pos ⟨h4,by omega⟩]
        rw [if_pos h5,flip_eq _ (by omega) hbl,Option.bind_some,if_pos (by omega),ih (i + 1) _ (by omega) (by simp <;> omega) k (by omega),hp]
        simp
      · have hp : passB f l ar[i] = rd_L4 l ar[i]:=by unfold passB;rw [if_neg (fun h => h5 (by omega))]
        rw [if_neg h5,if_pos (by omega),ih (i + 1) _ (by omega) (by simp <;> omega) k (by omega),hp]
        simp
    · have hp : passB f l ar[i] = rd_L4 l ar[i]:=by unfold passB;rw [if_neg (fun h => h4 h.1)]
      rw [if_neg h4,if_pos (by omega),ih (i + 1) _ (by omega) (by simp <;> omega) k (by omega),hp]
      simp
theorem pw_eq {f : List Int} (hf : fatesB f = true) {l : List (List Int)} (hl : l.length ≤ 8) (hb : ∀ b ∈ l,b.length ≤ 600) (k : Nat) (hk : 1000 < k) : spec_PassWire.f k f l = some (passL f l):=by
  have hll : spec_l4List.f k l = some true:=ll_l0 l (by omega) hb l.length 0 (by omega) k (by omega)
  have hal:=arrI_len f l.length
  unfold spec_PassWire.f
  rw [Option.bind_some,hll,Option.bind_some,if_pos rfl,arr_eq hf l.length hl k hk,Option.bind_some,show (0 : Int) = ((0 : Nat) : Int) from rfl,pw_l0 f l hb (arrI f l.length) (arrI_in f l.length) (by omega) (arrI f l.length).length 0 [] (by omega) (by simp <;> omega) k (by omega),List.drop_zero,List.nil_append]
  rfl
theorem behind_eq {l : List Int} (h : fatesB l = true) (n : Nat) : spec_l4Behind.f l n = some (l.drop n):=by
  have hl:=fatesB_len h
  unfold spec_l4Behind.f
  have hm : mn (n : Int) (l.length : Int) = ((min n l.length : Nat) : Int):=by unfold mn;split <;> omega
  rw [Option.bind_some,hm,if_pos (by omega),if_pos (by omega),Int.toNat_natCast]
  have hd : l.drop (min n l.length) = l.drop n:=by
    by_cases c : n ≤ l.length
    · rw [Nat.min_eq_left c]
    · rw [Nat.min_eq_right (by omega),List.drop_length,List.drop_eq_nil_of_le (by omega)]
  rw [hd,if_pos (by simp <;> omega),List.nil_append]

-- LIB sendwalk
/-- Fates that a state holds: those that came in, or a row of its own. -/
def RdI (w0 w : World) (v : Value) (T : List Int) : Prop :=
  (∃ A c,v = .slice A T.length c ∧ T.length ≤ c ∧ Kd.C (Kd.int .i64) w0 A T.length T) ∨ Kd.R (Kd.int .i64) 3 w w0.heap.size (fun _ => True) v T
theorem RdI.get {w0 w : World} {v : Value} {T : List Int} (h : RdI w0 w v T) (hB : Below w0.heap.size w0 w) : ∃ A c,v = .slice A T.length c ∧ T.length ≤ c ∧ Kd.C (Kd.int .i64) w A T.length T:=by
  rcases h with ⟨A,c,hv,hc,hC⟩ | h
  · exact ⟨A,c,hv,hc,Kd.C_below hC hB⟩
  · exact Kd.R_reads h
theorem RdI.below {w0 w w1 : World} {v : Value} {T : List Int} (h : RdI w0 w v T) (hb : Below w.heap.size w w1) : RdI w0 w1 v T:=by
  rcases h with h | h
  · exact Or.inl h
  · exact Or.inr (Kd.R_below h hb)
theorem R_other {α : Type} {d : Kd α} {e base : Nat} {ok : Nat → Prop} {w : World} {v : Value} {xs : List α} {g t : Nat} {cells : Array Value} (h : d.R e w base ok v xs) (hg : w.heap[g]? = some (.cells cells t (0,0))) (ht : ∀ q,q ∈ e :: d.E → q ≠ t) (o : Nat) (z : Value) : d.R e (w.setCell ⟨g,o,none⟩ z) base ok v xs:=by
  refine Kd.R_mono (Kd.R_step (Kd.R_bound h) (fun k hk _ => ?_)) (fun k hk => hk.1)
  by_cases e1 : k = g
  · subst e1
    obtain ⟨_,_,_,q,hq,cs,hcs⟩:=hk
    rw [hg] at hcs
    injection hcs with hcs
    injection hcs with _ h2 _
    exact absurd h2.symm (ht q hq)
  · exact Below.heap_setCell _ _ _ _ e1
theorem RdI.other {w0 w : World} {v : Value} {T : List Int} {g t : Nat} {cells : Array Value} (h : RdI w0 w v T) (hg : w.heap[g]? = some (.cells cells t (0,0))) (ht : 3 ≠ t) (o : Nat) (z : Value) : RdI w0 (w.setCell ⟨g,o,none⟩ z) v T:=by
  rcases h with h | h
  · exact Or.inl h
  · exact Or.inr (R_other h hg (fun q hq => by rw [List.mem_singleton.1 hq];exact ht) o z)
theorem RdI.grown {w0 w w1 : World} {v u : Value} {T : List Int} {e : Nat} (h : RdI w0 w v T) (hty : ∀ k,u.ownBlock = some k → ∃ cells,w.heap[k]? = some (.cells cells e (0,0))) (ht : 3 ≠ e) (hg : w.grownBy w1 u.ownBlock) : RdI w0 w1 v T:=by
  rcases h with h | h
  · exact Or.inl h
  · exact Or.inr (Kd.R_over' h hty (fun q hq => by rw [List.mem_singleton.1 hq];exact ht) hg)
set_option maxHeartbeats 16000000 in
set_option maxRecDepth 1000000 in
theorem x_send (win rounds sent known : Nat) (gs gq : Nat) (A1 : Option Addr) (c1 : Nat) (l1 : List (List Int)) (tv bv gv : Value) (T Bk : List Int) (got : List (List Int)) (qs : Array Value) (w0 w : World)
    (hwin : win ≤ 8) (hn : l1.length ≤ 60) (hkn : known ≤ 100) (hse : sent ≤ 100000) (hgl : got.length ≤ 100000) (hT : fatesB T = true) (hll : ∀ b ∈ l1,b.length ≤ 597) (hby : ∀ b ∈ l1,BytesL b)
    (hr1 : Kd.C (Kd.slice 5 (Kd.int .u8)) w0 A1 l1.length l1) (hB : Below w0.heap.size w0 w) (hgs : w0.heap.size ≤ gs)
    (hS : w.heap[gs]? = some (.cells #[gv,.int .i64 rounds,.int .i64 sent,.bool false,.int .i64 known,tv,bv] 76 (0,0)))
    (hQ : w.heap[gq]? = some (.cells qs 28 (0,0)))
    (hO : Kd.S (Kd.slice 5 (Kd.int .u8)) 22 w w0.heap.size (fun _ => True) gv got) (hTV : RdI w0 w tv T) (hBV : RdI w0 w bv Bk) :
    Calls Try.prog 57 #[.pointer (some ⟨gs,0,none⟩),.int .i64 win,.slice A1 l1.length c1] w fun e w' => ∃ gv' tv' : Value,e = .returned (.tuple #[]) ∧
      w'.heap[gs]? = some (.cells #[gv',.int .i64 rounds,.int .i64 ((sent : Int) + (manyL l1 win known : Int)),.bool false,.int .i64 known,tv',bv] 76 (0,0)) ∧ w'.heap[gq]? = some (.cells qs 28 (0,0)) ∧
      Kd.S (Kd.slice 5 (Kd.int .u8)) 22 w' w0.heap.size (fun _ => True) gv' (takeL l1 known T (arrI T (manyL l1 win known)) got) ∧ RdI w0 w' tv' (T.drop (manyL l1 win known)) ∧ RdI w0 w' bv Bk ∧ Below w0.heap.size w0 w':=by
  have hu:=Try.underlying28
  have hu2:=Try.underlying76
  obtain ⟨m,hm⟩ : ∃ m,m = manyL l1 win known:=⟨_,rfl⟩
  rw [← hm]
  have hm1 : known + m = max known (min l1.length (known + win)):=by rw [hm];unfold manyL;omega
  have hm8 : m ≤ 8:=by omega
  have hmw : m ≤ win:=by omega
  have HM1:=Aside0.mk hm1
  clear hm1
  have HB:=Aside0.mk hB
  have HS:=Aside0.mk hS
  have HQ:=Aside0.mk hQ
  have HO:=Aside0.mk hO
  have HTV:=Aside0.mk hTV
  have HBV:=Aside0.mk hBV
  have HR1:=Aside0.mk hr1
  have HLL:=Aside0.mk hll
  have HBY:=Aside0.mk hby
  have HFT:=Aside0.mk hT
  have hne : gq ≠ gs:=fun he => by
    subst he
    rw [hS] at hQ
    injection hQ with hQ
    injection hQ with _ h2 _
    exact absurd h2 (by decide)
  clear hB hS hQ hO hTV hBV hr1 hll hby hT hm
  have k4 : w.cell? ⟨gs,4,none⟩ = some (.int .i64 known):=(blk_cell HS.out 4).trans rfl
  go_enter Try.func57,Try.ntmps57
  go_wp2_with ((with_reducible refine gate_dst (N:=16) rfl ?_);refine Kd.S_lit (Kd.slice 5 (Kd.int .u8)) w.heap.size 22 ?hg (w0:=w) (N:=16) ?hd (xs:=([] : List (List Int))) (inner:=[]) (ok:=fun _ => True) (okp:=fun _ => True) ?hr ?hp (fun _ hk => hk) trivial (Below.refl _ _) (Nat.le_refl _) (by simp) ?_;(case hd => rfl);(case hg => rfl);(case hr => first | (go_simp;done) | (go_simp;rfl));(case hp => exact (Reps.none _ _));intro v1 w1 ho1 hb1 _ _;have HP1:=Aside0.mk ho1;have BP1:=Aside0.mk hb1;have k14:=(hb1.cell (p:=⟨gs,4,none⟩) (blk_lt HS.out)).trans k4;clear ho1 hb1)
  clear k14
  go_loopg [6,7] m (fun gg s6 s7 wr => ∃ (jj : Nat) (v : Value),jj ≤ m ∧ m - jj ≤ gg ∧ v = s6 ∧ s7 = .int .i64 ((known + jj : Nat) : Int) ∧ Aside0 (Kd.S (Kd.slice 5 (Kd.int .u8)) 22 wr w.heap.size (fun _ => True) v (pkL crcS l1 known jj)) ∧ Aside0 (Below w.heap.size w wr))
  case atStart => exact ⟨0,_,Nat.zero_le _,Nat.le_refl _,rfl,by simp,HP1,BP1⟩
  case round =>
    clear HP1 BP1 k4
    obtain ⟨jj,v,hjj,hg2,rfl,rfl,HP,BP⟩:=hrel
    have k4 : wr.cell? ⟨gs,4,none⟩ = some (.int .i64 known):=(blk_cell (blk_below HS.out BP.out) 4).trans rfl
    by_cases hlt : jj < m
    · have hj : known + jj < l1.length:=by have:=HM1.out;omega
      have p1 : ((known : Int) + (jj : Int) < (l1.length : Int)) = True:=eq_true (by omega)
      have p2 : (jj < win) = True:=eq_true (by omega)
      have p3 : ((jj : Int) < (win : Int)) = True:=eq_true (by omega)
      have p4 : ((known : Int) + (jj : Int) < (known : Int) + (win : Int)) = True:=eq_true (by omega)
      obtain ⟨ad,A',c',e,hx,hlc,hC⟩:=at_L4 (Kd.C_below HR1.out (below_then HB.out HB.out.size BP.out)) ((known : Int) + (jj : Int)) (by omega) (by omega)
      cases e
      have hge : rd_L4 l1 ((known : Int) + (jj : Int)) = l1.getD (known + jj) []:=by rw [show (known : Int) + (jj : Int) = ((known + jj : Nat) : Int) from by omega];rfl
      rw [hge,show ((known : Int) + (jj : Int)).toNat = known + jj from by omega] at hx
      rw [hge] at hlc hC
      have hmem : l1.getD (known + jj) [] ∈ l1:=by simp [List.getD_eq_getElem?_getD,hj]
      have q1 : (0 ≤ (known : Int) + (jj : Int)) = True:=eq_true (by omega)
      have hpk:=spec_PackLink.calls 1001 1 (((known + jj) % 16 : Nat) : Int) A' c' (l1.getD (known + jj) []) _ true wr hC hlc (packS 1 (((known + jj) % 16 : Nat) : Int) (l1.getD (known + jj) []) (by omega) (by omega) (by omega) (by omega) (HBY.out _ hmem) (HLL.out _ hmem) (by omega) 1001 (by omega))
      have HPS : Aside0 (pkL crcS l1 known (jj + 1) = pkL crcS l1 known jj ++ [pkt crcS 1 (((known + jj) % 16 : Nat) : Int) (l1.getD (known + jj) [])]):=⟨pkL_succ _ _ _ _⟩
      have HPL:=Aside0.mk (pkL_len crcS l1 known jj)
      have e16 : (((known + jj) % 16 : Nat) : Int) = ((known : Int) + (jj : Int)) % 16:=by omega
      generalize pkt crcS 1 (((known + jj) % 16 : Nat) : Int) (l1.getD (known + jj) []) = pk at hpk HPS
      rw [e16] at hpk
      generalize l1.getD (known + jj) [] = b at hpk hx hmem hlc hC
      generalize pkL crcS l1 known jj = T1 at HP HPS HPL
      have HPK:=Aside0.mk hpk
      clear hmem hge hpk hlc hC e16
      have hl8 : T1.length + 1 ≤ 9:=by have:=HPL.out;omega
      go_wp2_with (first | (go_at_call 73;refine HPK.out.mono ?_;rintro e w2 ⟨v1,rfl,ho1,hb1⟩;obtain ⟨A4,c4,rfl⟩:=Kd.R_slice ho1;have HO2:=Aside0.mk (Kd.R_lower ho1 BP.out.size);have HE:=Aside0.mk (Kd.S_mono (ok':=fun k => some k ≠ (Value.slice A4 pk.length c4).ownBlock) (Kd.S_elder' HP.out (Kd.R_base ho1) hb1) (fun k hk => hk.2));have BP2:=Aside0.mk (below_step BP.out hb1);clear ho1 hb1) | ((with_reducible refine gate_builtin (b:=.append) (xs:=#[.tmp 47,.tmp 49]) rfl ?_);at_builtin;refine Kd.S_append (Kd.slice 5 (Kd.int .u8)) (w0:=w) w.heap.size rfl (.tmp 47) (.tmp 49) 23 22 (.slice none 0 0) 24 rfl Try.underlying23 (by kernel_rfl) rfl (by decide) (by omega) v T1 pk [.slice A4 pk.length c4] (fun _ => True) (fun k_ => some k_ = (Value.slice A4 pk.length c4).ownBlock) rfl rfl ?aP ?aK ?aF ?aO ?aB ?aS ?aL ?_;(case aP => exact Kd.M_row (Kd.R_tight rfl HO2.out));(case aK => exact fun k hk => ⟨trivial,fun he => by have h1:=(Kd.R_apart' HO2.out (Kd.S_typed HE.out) (by decide)).1 k hk.symm;exact h1.2 he⟩);(case aF => exact (fun _ _ => trivial));(case aO => exact Kd.S_mono HE.out (fun k hk => ⟨trivial,fun e_ => hk e_⟩));(case aB => exact BP2.out);(case aS => exact BP2.out.size);(case aL => omega);intro v2 w3 ho2 hb2 _ _;have HP3:=Aside0.mk ho2;have BP3:=Aside0.mk hb2;clear ho2 hb2))
      rw [← HPS.out] at HP3
      go_roundg (m - (jj + 1))
      case measure => omega
      case rel => exact ⟨jj + 1,v2,by omega,by omega,rfl,by go_num,HP3,BP3⟩
    · have e : m = jj:=by omega
      subst e
      obtain ⟨Ap,cp,rfl⟩:=Kd.S_slice HP.out
      rw [pkL_len]
      obtain ⟨At,ct,rfl,hct,hCt⟩:=(RdI.below HTV.out BP.out).get (below_then HB.out HB.out.size BP.out)
      have hpw:=spec_PassWire.calls 1001 At ct T Ap cp (pkL crcS l1 known m) (passL T (pkL crcS l1 known m)) wr hCt hct (Kd.S_reads' HP.out).2.2 (Kd.S_reads' HP.out).2.1 (pw_eq HFT.out (by rw [pkL_len];exact hm8) (pkL_le HLL.out _ _) 1001 (by omega))
      rw [pkL_len,show passL T (pkL crcS l1 known m) = (arrI T m).map (passB T (pkL crcS l1 known m)) from by unfold passL;rw [pkL_len]] at hpw
      have k5 : wr.cell? ⟨gs,5,none⟩ = some (.slice At T.length ct):=(blk_cell (blk_below HS.out BP.out) 5).trans rfl
      have HPW:=Aside0.mk hpw
      clear hpw hlt hg2 hjj
      have hwl : w0.heap.size ≤ wr.heap.size:=(below_then HB.out HB.out.size BP.out).size
      rcases Nat.lt_or_ge (known + m) l1.length with hke | hke
      case' inl =>
        have p1 : ((known : Int) + (m : Int) < (l1.length : Int)) = True:=eq_true (by omega)
        have p2 : (m < win) = False:=eq_false (by have:=HM1.out;omega)
        have p3 : ((m : Int) < (win : Int)) = False:=eq_false (by have:=HM1.out;omega)
        have p4 : ((known : Int) + (m : Int) < (known : Int) + (win : Int)) = False:=eq_false (by have:=HM1.out;omega)
        clear hke
        go_wp2_with fail
      case' inr =>
        have p1 : ((known : Int) + (m : Int) < (l1.length : Int)) = False:=eq_false (by omega)
        clear hke
        go_wp2_with fail
      all_goals
        refine HPW.out.mono ?_
        rintro e w2 ⟨av,rfl,ha2,hb2⟩
        obtain ⟨Aa,ca,rfl⟩:=Kd.S_slice ha2
        rw [List.length_map] at ha2
        rw [List.length_map]
        have hS2:=blk_below (blk_below HS.out BP.out) hb2
        have HS2:=Aside0.mk hS2
        have HQ2:=Aside0.mk (blk_below (blk_below HQ.out BP.out) hb2)
        have HO2:=Aside0.mk (Kd.S_below (Kd.S_below HO.out BP.out) hb2)
        have HA2:=Aside0.mk (Kd.S_mono (ok':=fun k => some k ≠ gv.ownBlock) (Kd.S_lower (Kd.S_new' ha2 (Kd.S_lt (Kd.S_below HO.out BP.out))) hwl) (fun k hk => hk.2))
        have HBV2:=Aside0.mk (RdI.below (RdI.below HBV.out BP.out) hb2)
        have BW2:=Aside0.mk (below_then (below_then HB.out HB.out.size BP.out) (below_then HB.out HB.out.size BP.out).size hb2)
        have hlb:=spec_l4Behind.calls At ct T m (T.drop m) w2 (Kd.C_below hCt hb2) hct (behind_eq HFT.out m)
        have HLB:=Aside0.mk hlb
        have k5' : w2.cell? ⟨gs,5,none⟩ = some (.slice At T.length ct):=(blk_cell hS2 5).trans rfl
        clear hS2 ha2 hb2 hlb HPW HP BP k4 k5 hCt
        go_wp2_with fail
        refine HLB.out.mono ?_
        rintro e w3 ⟨v3,rfl,hr3,hb3⟩
        obtain ⟨A3,c3,rfl⟩:=Kd.R_slice hr3
        have hS3:=blk_below HS2.out hb3
        have k2 : w3.cell? ⟨gs,2,none⟩ = some (.int .i64 sent):=(blk_cell hS3 2).trans rfl
        have k5 : w3.cell? ⟨gs,5,none⟩ = some (.slice At T.length ct):=(blk_cell hS3 5).trans rfl
        have f2:=blk_frozen hS3 2
        have f5:=blk_frozen hS3 5
        have HS4:=Aside0.mk (blk_setl (blk_setl hS3 5 (.slice A3 (T.drop m).length c3)) 2 (.int .i64 ((sent : Int) + (m : Int))))
        have hS3b:=blk_setl hS3 5 (.slice A3 (T.drop m).length c3)
        have HQ4:=Aside0.mk (blk_seto (blk_seto (blk_below HQ2.out hb3) hne 5 (.slice A3 (T.drop m).length c3)) hne 2 (.int .i64 ((sent : Int) + (m : Int))))
        have HO4:=Aside0.mk (S_other (S_other (Kd.S_below HO2.out hb3) hS3 (by decide) 5 (.slice A3 (T.drop m).length c3)) hS3b (by decide) 2 (.int .i64 ((sent : Int) + (m : Int))))
        have HA4:=Aside0.mk (S_other (S_other (Kd.S_below HA2.out hb3) hS3 (by decide) 5 (.slice A3 (T.drop m).length c3)) hS3b (by decide) 2 (.int .i64 ((sent : Int) + (m : Int))))
        have HBV4:=Aside0.mk (RdI.other (RdI.other (RdI.below HBV2.out hb3) hS3 (by decide) 5 (.slice A3 (T.drop m).length c3)) hS3b (by decide) 2 (.int .i64 ((sent : Int) + (m : Int))))
        have HTV4 : Aside0 (RdI w0 ((w3.setCell ⟨gs,5,none⟩ (.slice A3 (T.drop m).length c3)).setCell ⟨gs,2,none⟩ (.int .i64 ((sent : Int) + (m : Int)))) (.slice A3 (T.drop m).length c3) (T.drop m)):=⟨RdI.other (RdI.other (Or.inr (Kd.R_lower hr3 BW2.out.size)) hS3 (by decide) 5 (.slice A3 (T.drop m).length c3)) hS3b (by decide) 2 (.int .i64 ((sent : Int) + (m : Int)))⟩
        have BW4:=Aside0.mk (((below_then BW2.out BW2.out.size hb3).setCell (p:=⟨gs,5,none⟩) hgs (.slice A3 (T.drop m).length c3)).setCell (p:=⟨gs,2,none⟩) hgs (.int .i64 ((sent : Int) + (m : Int))))
        clear hS3 hS3b hr3 hb3 HLB HS2 HQ2 HO2 HA2 HBV2 BW2 k5'
        generalize (T.drop m).length = tl at HS4 HQ4 HO4 HA4 HBV4 HTV4 BW4 ⊢
        go_upto_region 9 with (fail)
        clear k2 k5 f2 f5
        generalize (w3.setCell ⟨gs,5,none⟩ (.slice A3 tl c3)).setCell ⟨gs,2,none⟩ (.int .i64 ((sent : Int) + (m : Int))) = W4 at HS4 HQ4 HO4 HA4 HBV4 HTV4 BW4 ⊢
        have hal : (arrI T m).length ≤ 16:=by have:=arrI_len T m;omega
        have HAI:=Aside0.mk (arrI_in T m)
        generalize harr : arrI T m = arr at HA4 hal HAI ⊢
        have HARR:=Aside0.mk harr
        clear harr
        go_wp2_with fail
        go_loopg [11] arr.length (fun gg s11 wr => ∃ (kk : Nat) (g : List (List Int)) (gv : Value),kk ≤ arr.length ∧ arr.length - kk ≤ gg ∧ s11 = .int .i64 (kk : Int) ∧ g.length ≤ got.length + kk ∧ Aside0 (g = takeL l1 known T (arr.take kk) got) ∧
          Aside0 (Kd.S (Kd.slice 5 (Kd.int .u8)) 22 wr w0.heap.size (fun _ => True) gv g) ∧ Aside0 (Kd.S (Kd.slice 5 (Kd.int .u8)) 22 wr w0.heap.size (fun k => some k ≠ gv.ownBlock) (.slice Aa arr.length ca) (arr.map (passB T (pkL crcS l1 known m)))) ∧
          Aside0 (wr.heap[gs]? = some (.cells #[gv,.int .i64 rounds,.int .i64 ((sent : Int) + (m : Int)),.bool false,.int .i64 known,.slice A3 tl c3,bv] 76 (0,0))) ∧ Aside0 (wr.heap[gq]? = some (.cells qs 28 (0,0))) ∧
          Aside0 (RdI w0 wr (.slice A3 tl c3) (T.drop m)) ∧ Aside0 (RdI w0 wr bv Bk) ∧ Aside0 (Below w0.heap.size w0 wr))
        case atStart => exact ⟨0,got,gv,Nat.zero_le _,Nat.le_refl _,rfl,Nat.le_refl _,⟨rfl⟩,HO4,HA4,HS4,HQ4,HTV4,HBV4,BW4⟩
        case round =>
          clear HO4 HA4 HS4 HQ4 HTV4 HBV4 BW4 HS HQ HO HTV HBV HB
          obtain ⟨kk,g,gv,hkk,hg3,rfl,hgl3,HG,HO,HA,HS,HQ,HTV,HBV,BW⟩:=hrel
          obtain ⟨A9,c9,rfl⟩:=Kd.S_slice HO.out
          by_cases hlt : kk < arr.length
          · have hx:=HAI.out arr[kk] (List.getElem_mem hlt)
            obtain ⟨ad,A',c',e,hx0,hlc,hC⟩:=at_L4 (Kd.S_reads' HA.out).2.2 (kk : Int) (by omega) (by rw [List.length_map];omega)
            cases e
            have hge : rd_L4 (arr.map (passB T (pkL crcS l1 known m))) (kk : Int) = passB T (pkL crcS l1 known m) arr[kk]:=by simp [rd_L4,List.getD_eq_getElem?_getD,hlt]
            rw [hge,Int.toNat_natCast] at hx0
            rw [hge] at hlc hC
            have HTS : Aside0 (takeL l1 known T (arr.take (kk + 1)) got = if T.getD arr[kk].toNat 0 = 4 then g else if (known + arr[kk].toNat) % 16 = g.length % 16 then g ++ [l1.getD (known + arr[kk].toNat) []] else g):=⟨by rw [List.take_succ_eq_append_getElem hlt,takeL_snoc,← HG.out]⟩
            have hub:=unpS_bad HLL.out HBY.out T known m arr[kk] hx.1 hx.2
            have huo:=unpS_ok HLL.out HBY.out T known m arr[kk] hx.1 hx.2
            have p1 : ((kk : Int) < (arr.length : Int)) = True:=eq_true (by omega)
            have p2 : (kk < arr.length) = True:=eq_true hlt
            have k0 : wr.cell? ⟨gs,0,none⟩ = some (.slice A9 g.length c9):=(blk_cell HS.out 0).trans rfl
            clear hge
            generalize passB T (pkL crcS l1 known m) arr[kk] = pk at hx0 hlc hC hub huo
            obtain ⟨x,hxx⟩ : ∃ x : Nat,x = arr[kk].toNat:=⟨_,rfl⟩
            rw [← hxx] at HTS hub huo
            clear hxx hx
            by_cases hf : T.getD x 0 = 4
            · have HTG : Aside0 (g = takeL l1 known T (arr.take (kk + 1)) got):=⟨by rw [HTS.out,if_pos hf]⟩
              have hun:=spec_UnpackLink.calls 1001 A' c' pk _ _ _ _ wr hC hlc (hub hf)
              clear hub huo hf HTS hlc hC
              go_wp2_with fail
              refine hun.mono ?_
              rintro e w2 ⟨v2,rfl,_,hb2⟩
              have HO2:=Aside0.mk (Kd.S_below HO.out hb2)
              have HA2:=Aside0.mk (Kd.S_below HA.out hb2)
              have HS2:=Aside0.mk (blk_below HS.out hb2)
              have HQ2:=Aside0.mk (blk_below HQ.out hb2)
              have HTV2:=Aside0.mk (RdI.below HTV.out hb2)
              have HBV2:=Aside0.mk (RdI.below HBV.out hb2)
              have BW2:=Aside0.mk (below_then BW.out BW.out.size hb2)
              clear hun hb2 k0 HO HA HS HQ HTV HBV BW hx0
              go_wp2_with fail
              go_roundg (arr.length - (kk + 1))
              case measure => omega
              case rel => exact ⟨kk + 1,g,_,by omega,by omega,by go_num,by omega,HTG,HO2,HA2,HS2,HQ2,HTV2,HBV2,BW2⟩
            · have hun:=spec_UnpackLink.calls 1001 A' c' pk _ _ _ _ wr hC hlc (huo hf)
              have e16 : (((known + x) % 16 : Nat) : Int) = ((known : Int) + (x : Int)) % 16:=by omega
              obtain ⟨q,hq⟩ : ∃ q : Int,q = (((known + x) % 16 : Nat) : Int):=⟨_,rfl⟩
              rw [← hq] at hun
              clear hub huo hlc hC e16
              by_cases hs : (known + x) % 16 = g.length % 16
              · have HTG : Aside0 (g ++ [l1.getD (known + x) []] = takeL l1 known T (arr.take (kk + 1)) got):=⟨by rw [HTS.out,if_neg hf,if_pos hs]⟩
                have hqe : q = ((g.length : Int) % 16):=by omega
                subst hqe
                clear hq hs hf HTS
                generalize l1.getD (known + x) [] = b at hun HTG
                have hg16 : g.length + 1 ≤ 200000:=by omega
                go_wp2_with fail
                refine hun.mono ?_
                rintro e w2 ⟨v2,rfl,hr2,hb2⟩
                obtain ⟨A5,c5,rfl⟩:=Kd.R_slice hr2
                have HRB:=Aside0.mk (Kd.R_lower hr2 BW.out.size)
                have HE:=Aside0.mk (Kd.S_mono (ok':=fun k => some k ≠ (Value.slice A5 b.length c5).ownBlock) (Kd.S_elder' HO.out (Kd.R_base hr2) hb2) (fun k hk => hk.2))
                have HA2:=Aside0.mk (Kd.S_mono (ok':=fun k => True ∧ some k ≠ (Value.slice A9 g.length c9).ownBlock) (Kd.S_below HA.out hb2) (fun k hk => ⟨trivial,hk⟩))
                have HS2:=Aside0.mk (blk_below HS.out hb2)
                have HQ2:=Aside0.mk (blk_below HQ.out hb2)
                have HTV2:=Aside0.mk (RdI.below HTV.out hb2)
                have HBV2:=Aside0.mk (RdI.below HBV.out hb2)
                have BW2:=Aside0.mk (below_then BW.out BW.out.size hb2)
                clear hun hb2 hr2 k0 HO HA HS HQ HTV HBV BW hx0
                have k0 : w2.cell? ⟨gs,0,none⟩ = some (.slice A9 g.length c9):=(blk_cell HS2.out 0).trans rfl
                go_wp2_with ((with_reducible refine gate_builtin (b:=.append) (xs:=#[.tmp 116,.tmp 118]) rfl ?_);at_builtin;refine Kd.S_append (Kd.slice 5 (Kd.int .u8)) (w0:=w0) w0.heap.size rfl (.tmp 116) (.tmp 118) 23 22 (.slice none 0 0) 24 rfl Try.underlying23 (by kernel_rfl) rfl (by decide) (by omega) (.slice A9 g.length c9) g b [.slice A5 b.length c5] (fun _ => True) (fun k_ => some k_ = (Value.slice A5 b.length c5).ownBlock) rfl rfl ?aP ?aK ?aF ?aO ?aB ?aS ?aL ?_;(case aP => exact Kd.M_row (Kd.R_tight rfl HRB.out));(case aK => exact fun k hk => ⟨trivial,fun he => by have h1:=(Kd.R_apart' HRB.out (Kd.S_typed HE.out) (by decide)).1 k hk.symm;exact h1.2 he⟩);(case aF => exact (fun _ _ => trivial));(case aO => exact Kd.S_mono HE.out (fun k hk => ⟨trivial,fun e_ => hk e_⟩));(case aB => exact BW2.out);(case aS => exact BW2.out.size);(case aL => omega);intro v3 w3 ho3 hb3 hg3 hat3;obtain ⟨A6,c6,rfl⟩:=Kd.S_slice ho3;have HO3:=Aside0.mk ho3;have BW3:=Aside0.mk hb3;have HA3:=Aside0.mk (Kd.S_after HA2.out hg3 hat3);have HS3:=Aside0.mk (blk_grown HS2.out hg3 (ne_own HE.out HS2.out (by decide)));have HQ3:=Aside0.mk (blk_grown HQ2.out hg3 (ne_own HE.out HQ2.out (by decide)));have HTV3:=Aside0.mk (RdI.grown HTV2.out (Kd.S_typed HE.out) (by decide) hg3);have HBV3:=Aside0.mk (RdI.grown HBV2.out (Kd.S_typed HE.out) (by decide) hg3);have k30 : w3.cell? ⟨gs,0,none⟩ = some (.slice A9 g.length c9):=(blk_cell HS3.out 0).trans rfl;have f30:=blk_frozen HS3.out 0;clear ho3 hb3 hg3 hat3)
                have hl4 : (g ++ [b]).length = g.length + 1:=by simp
                rw [hl4] at HO3 HA3
                have HO4:=Aside0.mk (S_other HO3.out HS3.out (by decide) 0 (.slice A6 (g.length + 1) c6))
                have HA4:=Aside0.mk (S_other (Kd.S_mono (ok':=fun k => some k ≠ (Value.slice A6 (g.length + 1) c6).ownBlock) HA3.out (fun k hk => hk.2)) HS3.out (by decide) 0 (.slice A6 (g.length + 1) c6))
                have HS4:=Aside0.mk (blk_setl HS3.out 0 (.slice A6 (g.length + 1) c6))
                have HQ4:=Aside0.mk (blk_seto HQ3.out hne 0 (.slice A6 (g.length + 1) c6))
                have HTV4:=Aside0.mk (RdI.other HTV3.out HS3.out (by decide) 0 (.slice A6 (g.length + 1) c6))
                have HBV4:=Aside0.mk (RdI.other HBV3.out HS3.out (by decide) 0 (.slice A6 (g.length + 1) c6))
                have BW4:=Aside0.mk (BW3.out.setCell (p:=⟨gs,0,none⟩) hgs (.slice A6 (g.length + 1) c6))
                go_roundg (arr.length - (kk + 1))
                case measure => omega
                case rel => exact ⟨kk + 1,g ++ [b],_,by omega,by omega,by go_num,by rw [hl4];omega,HTG,HO4,HA4,HS4,HQ4,HTV4,HBV4,BW4⟩
              · have HTG : Aside0 (g = takeL l1 known T (arr.take (kk + 1)) got):=⟨by rw [HTS.out,if_neg hf,if_neg hs]⟩
                have hqe : (q == ((g.length : Int) % 16)) = false:=beq_eq_false_iff_ne.mpr (by omega)
                clear hq hs hf HTS
                go_wp2_with fail
                refine hun.mono ?_
                rintro e w2 ⟨v2,rfl,_,hb2⟩
                have HO2:=Aside0.mk (Kd.S_below HO.out hb2)
                have HA2:=Aside0.mk (Kd.S_below HA.out hb2)
                have HS2:=Aside0.mk (blk_below HS.out hb2)
                have HQ2:=Aside0.mk (blk_below HQ.out hb2)
                have HTV2:=Aside0.mk (RdI.below HTV.out hb2)
                have HBV2:=Aside0.mk (RdI.below HBV.out hb2)
                have BW2:=Aside0.mk (below_then BW.out BW.out.size hb2)
                clear hun hb2 k0 HO HA HS HQ HTV HBV BW hx0
                have k0 : w2.cell? ⟨gs,0,none⟩ = some (.slice A9 g.length c9):=(blk_cell HS2.out 0).trans rfl
                go_wp2_with fail
                go_roundg (arr.length - (kk + 1))
                case measure => omega
                case rel => exact ⟨kk + 1,g,_,by omega,by omega,by go_num,by omega,HTG,HO2,HA2,HS2,HQ2,HTV2,HBV2,BW2⟩
          · have e : kk = arr.length:=by omega
            subst e
            rw [List.take_length] at HG
            have HGE : Aside0 (takeL l1 known T arr got = g):=⟨HG.out.symm⟩
            clear HA HG
            have p3 : (arr.length < arr.length) = False:=eq_false (by omega)
            go_wp2_with fail
            first | go_end0 | ((try simp only [Exit.inBlock,Exit.then]);refine bodyPost_ret (results_none rfl _ _ _) rfl ?_)
            exact ⟨.slice A9 g.length c9,.slice A3 tl c3,rfl,HS.out,HQ.out,by rw [HARR.out,HGE.out];exact HO.out,HTV.out,HBV.out,BW.out⟩

-- LIB answalk
set_option maxHeartbeats 16000000 in
set_option maxRecDepth 1000000 in
theorem x_answer (win rounds sent known : Nat) (gs gq : Nat) (tv bv gv : Value) (T Bk : List Int) (got : List (List Int)) (qs : Array Value) (w0 w : World)
    (hwin : win ≤ 8) (hkn : known ≤ 60) (hse : sent ≤ 100000) (hgl : got.length ≤ 100000) (hK : fatesB Bk = true) (hB : Below w0.heap.size w0 w) (hgs : w0.heap.size ≤ gs)
    (hS : w.heap[gs]? = some (.cells #[gv,.int .i64 rounds,.int .i64 sent,.bool false,.int .i64 known,tv,bv] 76 (0,0)))
    (hQ : w.heap[gq]? = some (.cells qs 28 (0,0)))
    (hO : Kd.S (Kd.slice 5 (Kd.int .u8)) 22 w w0.heap.size (fun _ => True) gv got) (hTV : RdI w0 w tv T) (hBV : RdI w0 w bv Bk) :
    Calls Try.prog 58 #[.pointer (some ⟨gs,0,none⟩),.int .i64 win] w fun e w' => ∃ bv' : Value,e = .returned (.tuple #[]) ∧
      w'.heap[gs]? = some (.cells #[gv,.int .i64 rounds,.int .i64 ((sent : Int) + 1),.bool false,.int .i64 ((hearL (decide (Bk.getD 0 0 = 4)) win (got.length % 16) (arrI Bk 1).length known : Nat) : Int),tv,bv'] 76 (0,0)) ∧ w'.heap[gq]? = some (.cells qs 28 (0,0)) ∧
      Kd.S (Kd.slice 5 (Kd.int .u8)) 22 w' w0.heap.size (fun _ => True) gv got ∧ RdI w0 w' tv T ∧ RdI w0 w' bv' (Bk.drop 1) ∧ Below w0.heap.size w0 w':=by
  have hu:=Try.underlying28
  have hu2:=Try.underlying76
  have HS:=Aside0.mk hS
  have HQ:=Aside0.mk hQ
  have HO:=Aside0.mk hO
  have HTV:=Aside0.mk hTV
  have HBV:=Aside0.mk hBV
  have HB:=Aside0.mk hB
  have HFK:=Aside0.mk hK
  have hne : gq ≠ gs:=fun he => by
    subst he
    rw [hS] at hQ
    injection hQ with hQ
    injection hQ with _ h2 _
    exact absurd h2 (by decide)
  obtain ⟨A9,c9,rfl⟩:=Kd.S_slice hO
  obtain ⟨At,ct,rfl,hct,hCt⟩:=HBV.out.get HB.out
  have k0 : w.cell? ⟨gs,0,none⟩ = some (.slice A9 got.length c9):=(blk_cell HS.out 0).trans rfl
  have hpb:=fun (A : Option Addr) (c : Nat) (W : World) (hC : Kd.C (Kd.int .u8) W A ([] : List Int).length []) => spec_PackLink.calls 1001 2 ((got.length : Int) % 16) A c [] _ true W hC (Nat.zero_le _) (packS 2 ((got.length : Int) % 16) [] (by omega) (by omega) (by omega) (by omega) (fun x hx => by simp at hx) (by simp) (fun _ => rfl) 1001 (by omega))
  have HPB:=Aside0.mk hpb
  clear hS hQ hO hTV hBV hB hK hpb
  go_enter Try.func58,Try.ntmps58
  go_wp2_with (first | ((with_reducible refine gate_dst (N:=21) rfl ?_);refine Kd.R_lit (w0:=w) (Kd.int .u8) w.heap.size 5 ?hg (N:=21) ?hd (xs:=([] : List Int)) (inner:=[]) (ok:=fun _ => True) (okp:=fun _ => True) ?hr ?hp (fun _ hk => hk) trivial (Below.refl _ _) (Nat.le_refl _) (by simp) ?_;(case hd => rfl);(case hg => rfl);(case hr => first | (go_simp;done) | (go_simp;rfl));(case hp => exact (Reps.none _ _));intro v1 w1 ho1 hb1 _ _;obtain ⟨A1,c1,rfl⟩:=Kd.R_slice ho1;have HC1:=Aside0.mk (Kd.R_reads' ho1).2.2;have HB1:=Aside0.mk hb1;clear ho1 hb1;simp only [List.length_nil]) | (go_at_call 73;refine (HPB.out A1 c1 _ HC1.out).mono ?_;rintro e w2 ⟨v2,rfl,ho2,hb2⟩;obtain ⟨A4,c4,rfl⟩:=Kd.R_slice ho2;have HB2:=Aside0.mk (below_step HB1.out hb2);have HC2:=Aside0.mk (Kd.R_reads' ho2).2.2;have HL2:=Aside0.mk (Kd.R_reads' ho2).2.1;have k6 : w2.cell? ⟨gs,6,none⟩ = some (.slice At Bk.length ct):=(blk_cell (blk_below HS.out HB2.out) 6).trans rfl;clear ho2 hb2))
  have HUB:=Aside0.mk (unpS_back_bad Bk ((got.length : Int) % 16) (by omega) (by omega))
  have HUO:=Aside0.mk (unpS_back_ok Bk ((got.length : Int) % 16) (by omega) (by omega))
  have hpbl : (pkt crcS 2 ((got.length : Int) % 16) []).length = 3:=pkt_len _ _ _ _
  generalize pkt crcS 2 ((got.length : Int) % 16) [] = pb at HUB HUO hpbl HC2 HL2 ⊢
  have hC1:=C_one HC2.out HL2.out
  have HB3:=Aside0.mk (below_step HB2.out (below_alloc (Below.refl _ w2) (.cells #[.slice A4 pb.length c4] 22)))
  have hpw:=spec_PassWire.calls 1001 At ct Bk (some ⟨w2.heap.size,0,none⟩) 1 [pb] (passL Bk [pb]) (w2.alloc (.cells #[.slice A4 pb.length c4] 22)) (Kd.C_below hCt HB3.out) hct hC1 (by simp) (pw_eq HFK.out (by simp) (fun b hb => by rw [List.mem_singleton.1 hb,hpbl];omega) 1001 (by omega))
  rw [show passL Bk [pb] = (arrI Bk 1).map (passB Bk [pb]) from rfl] at hpw
  have HPW:=Aside0.mk hpw
  clear hpw hC1 hpbl HC2 HL2 HB2 HC1 HB1 HPB
  refine HPW.out.mono ?_
  rintro e w4 ⟨av,rfl,ha4,hb4⟩
  obtain ⟨Ab,cb,rfl⟩:=Kd.S_slice ha4
  rw [List.length_map] at ha4
  rw [List.length_map]
  have HB4:=Aside0.mk (below_step HB3.out hb4)
  have hS4:=blk_below HS.out HB4.out
  have k66 : w4.cell? ⟨gs,6,none⟩ = some (.slice At Bk.length ct):=(blk_cell hS4 6).trans rfl
  have hlb:=spec_l4Behind.calls At ct Bk (1 : Nat) (Bk.drop 1) w4 (Kd.C_below hCt HB4.out) hct (behind_eq HFK.out 1)
  rw [show ((1 : Nat) : Int) = 1 from rfl] at hlb
  have HLB:=Aside0.mk hlb
  have hA4:=Kd.S_lower ha4 (show w.heap.size ≤ _ from HB3.out.size)
  have HA4:=Aside0.mk hA4
  clear hb4 ha4 HB3 HPW hlb k6 k0 hCt hS4 hA4
  go_wp2_with fail
  refine HLB.out.mono ?_
  rintro e w5 ⟨v5,rfl,hr5,hb5⟩
  obtain ⟨A5,c5,rfl⟩:=Kd.R_slice hr5
  have HB5:=Aside0.mk (below_step HB4.out hb5)
  have hS5:=blk_below HS.out HB5.out
  have k2 : w5.cell? ⟨gs,2,none⟩ = some (.int .i64 sent):=(blk_cell hS5 2).trans rfl
  have k6 : w5.cell? ⟨gs,6,none⟩ = some (.slice At Bk.length ct):=(blk_cell hS5 6).trans rfl
  have f2:=blk_frozen hS5 2
  have f6:=blk_frozen hS5 6
  have hS5b:=blk_setl hS5 6 (.slice A5 (Bk.drop 1).length c5)
  have HS6:=Aside0.mk (blk_setl hS5b 2 (.int .i64 ((sent : Int) + 1)))
  have HQ6:=Aside0.mk (blk_seto (blk_seto (blk_below HQ.out HB5.out) hne 6 (.slice A5 (Bk.drop 1).length c5)) hne 2 (.int .i64 ((sent : Int) + 1)))
  have HO6:=Aside0.mk (S_other (S_other (Kd.S_below HO.out HB5.out) hS5 (by decide) 6 (.slice A5 (Bk.drop 1).length c5)) hS5b (by decide) 2 (.int .i64 ((sent : Int) + 1)))
  have HA6:=Aside0.mk (S_other (S_other (Kd.S_below HA4.out hb5) hS5 (by decide) 6 (.slice A5 (Bk.drop 1).length c5)) hS5b (by decide) 2 (.int .i64 ((sent : Int) + 1)))
  have HTV6:=Aside0.mk (RdI.other (RdI.other (RdI.below HTV.out HB5.out) hS5 (by decide) 6 (.slice A5 (Bk.drop 1).length c5)) hS5b (by decide) 2 (.int .i64 ((sent : Int) + 1)))
  have hw0 : w0.heap.size ≤ w.heap.size:=HB.out.size
  have hw4 : w.heap.size ≤ w4.heap.size:=HB4.out.size
  have HBV6 : Aside0 (RdI w0 ((w5.setCell ⟨gs,6,none⟩ (.slice A5 (Bk.drop 1).length c5)).setCell ⟨gs,2,none⟩ (.int .i64 ((sent : Int) + 1))) (.slice A5 (Bk.drop 1).length c5) (Bk.drop 1)):=⟨RdI.other (RdI.other (Or.inr (Kd.R_lower hr5 (Nat.le_trans hw0 hw4))) hS5 (by decide) 6 (.slice A5 (Bk.drop 1).length c5)) hS5b (by decide) 2 (.int .i64 ((sent : Int) + 1))⟩
  have BW6:=Aside0.mk (((below_then HB.out hw0 HB5.out).setCell (p:=⟨gs,6,none⟩) hgs (.slice A5 (Bk.drop 1).length c5)).setCell (p:=⟨gs,2,none⟩) hgs (.int .i64 ((sent : Int) + 1)))
  clear hS5 hS5b hr5 hb5 HLB HA4 HB4 HB5 k66 hw0 hw4 HS HQ HO HTV HBV HB
  generalize (Bk.drop 1).length = tl at HS6 HQ6 HO6 HA6 HTV6 HBV6 BW6 ⊢
  go_upto_region 4 with (fail)
  generalize (w5.setCell ⟨gs,6,none⟩ (.slice A5 tl c5)).setCell ⟨gs,2,none⟩ (.int .i64 ((sent : Int) + 1)) = W6 at HS6 HQ6 HO6 HA6 HTV6 HBV6 BW6 ⊢
  clear k2 k6 f2 f6
  have hcn : (arrI Bk 1).length ≤ 2:=arrI_len _ 1
  have HOG:=Aside0.mk (fun (kk : Nat) => one_get Bk pb kk)
  generalize harr : arrI Bk 1 = ar at HA6 HOG hcn ⊢
  have HARR:=Aside0.mk harr
  clear harr
  generalize w.heap.size = bz at HA6
  go_wp2_with fail
  go_loopg [7] ar.length (fun gg s7 wr => ∃ (kk kn : Nat),kk ≤ ar.length ∧ ar.length - kk ≤ gg ∧ s7 = .int .i64 (kk : Int) ∧ kn ≤ known + kk * (win + 1) ∧ Aside0 (kn = hearL (decide (Bk.getD 0 0 = 4)) win (got.length % 16) kk known) ∧
    Aside0 (wr.heap[gs]? = some (.cells #[.slice A9 got.length c9,.int .i64 rounds,.int .i64 ((sent : Int) + 1),.bool false,.int .i64 (kn : Int),tv,.slice A5 tl c5] 76 (0,0))) ∧ Aside0 (wr.heap[gq]? = some (.cells qs 28 (0,0))) ∧
    Aside0 (Kd.S (Kd.slice 5 (Kd.int .u8)) 22 wr w0.heap.size (fun _ => True) (.slice A9 got.length c9) got) ∧ Aside0 (Kd.S (Kd.slice 5 (Kd.int .u8)) 22 wr bz (fun _ => True) (.slice Ab ar.length cb) (ar.map (passB Bk [pb]))) ∧
    Aside0 (RdI w0 wr tv T) ∧ Aside0 (RdI w0 wr (.slice A5 tl c5) (Bk.drop 1)) ∧ Aside0 (Below w0.heap.size w0 wr))
  case atStart => exact ⟨0,known,Nat.zero_le _,Nat.le_refl _,rfl,by omega,⟨rfl⟩,HS6,HQ6,HO6,HA6,HTV6,HBV6,BW6⟩
  case round =>
    clear HS6 HQ6 HO6 HA6 HTV6 HBV6 BW6
    obtain ⟨kk,kn,hkk,hg5,rfl,hkb,HH,HS,HQ,HO,HA,HTV,HBV,BW⟩:=hrel
    have hkn2 : kn ≤ 100:=by
      have h1 : kk * (win + 1) ≤ 2 * (8 + 1):=Nat.mul_le_mul (by omega) (by omega)
      omega
    by_cases hlt : kk < ar.length
    · obtain ⟨ad,A',c',e,hx0,hlc,hC⟩:=at_L4 (Kd.S_reads' HA.out).2.2 (kk : Int) (by omega) (by rw [List.length_map];omega)
      cases e
      have hog : rd_L4 (ar.map (passB Bk [pb])) (kk : Int) = passB Bk [pb] 0:=HOG.out kk hlt
      rw [hog,Int.toNat_natCast] at hx0
      rw [hog] at hlc hC
      have HHS : Aside0 (hearL (decide (Bk.getD 0 0 = 4)) win (got.length % 16) (kk + 1) known = if decide (Bk.getD 0 0 = 4) = true then kn else seekL kn win (got.length % 16)):=⟨by rw [hearL_snoc,← HH.out]⟩
      have p1 : ((kk : Int) < (ar.length : Int)) = True:=eq_true (by omega)
      have p2 : (kk < ar.length) = True:=eq_true hlt
      have hub:=HUB.out
      have huo:=HUO.out
      clear hog
      generalize passB Bk [pb] 0 = pk at hx0 hlc hC hub huo
      by_cases hf : Bk.getD 0 0 = 4
      · have HTG : Aside0 (kn = hearL (decide (Bk.getD 0 0 = 4)) win (got.length % 16) (kk + 1) known):=⟨by rw [HHS.out,if_pos (decide_eq_true hf)]⟩
        have hun:=spec_UnpackLink.calls 1001 A' c' pk _ _ _ _ wr hC hlc (hub hf)
        clear hub huo hf HHS hlc hC
        go_wp2_with fail
        refine hun.mono ?_
        rintro e w6 ⟨v6,rfl,_,hb6⟩
        have HS6:=Aside0.mk (blk_below HS.out hb6)
        have HQ6:=Aside0.mk (blk_below HQ.out hb6)
        have HO6:=Aside0.mk (Kd.S_below HO.out hb6)
        have HA6:=Aside0.mk (Kd.S_below HA.out hb6)
        have HTV6:=Aside0.mk (RdI.below HTV.out hb6)
        have HBV6:=Aside0.mk (RdI.below HBV.out hb6)
        have BW6:=Aside0.mk (below_then BW.out BW.out.size hb6)
        clear hun hb6 hx0 HS HQ HO HA HTV HBV BW
        go_wp2_with fail
        go_roundg (ar.length - (kk + 1))
        case measure => omega
        case rel => exact ⟨kk + 1,kn,by omega,by omega,by go_num,by rw [Nat.succ_mul];omega,HTG,HS6,HQ6,HO6,HA6,HTV6,HBV6,BW6⟩
      · have HTG : Aside0 (seekL kn win (got.length % 16) = hearL (decide (Bk.getD 0 0 = 4)) win (got.length % 16) (kk + 1) known):=⟨by rw [HHS.out,if_neg (by rw [decide_eq_false hf];decide)]⟩
        have hun:=spec_UnpackLink.calls 1001 A' c' pk _ _ _ _ wr hC hlc (huo hf)
        have HKS:=Aside0.mk (seekL_le kn win (got.length % 16))
        clear hub huo hf HHS hlc hC
        go_wp2_with fail
        refine hun.mono ?_
        rintro e w6 ⟨v6,rfl,_,hb6⟩
        have HS6:=Aside0.mk (blk_below HS.out hb6)
        have HQ6:=Aside0.mk (blk_below HQ.out hb6)
        have HO6:=Aside0.mk (Kd.S_below HO.out hb6)
        have HA6:=Aside0.mk (Kd.S_below HA.out hb6)
        have HTV6:=Aside0.mk (RdI.below HTV.out hb6)
        have HBV6:=Aside0.mk (RdI.below HBV.out hb6)
        have BW6:=Aside0.mk (below_then BW.out BW.out.size hb6)
        have k4 : w6.cell? ⟨gs,4,none⟩ = some (.int .i64 (kn : Int)):=(blk_cell HS6.out 4).trans rfl
        clear hun hb6 hx0 HS HQ HO HA HTV HBV BW
        go_wp2_with fail
        clear k4
        obtain ⟨wo,HO9,HB9⟩ : ∃ wo : World,Aside0 (wo = w6) ∧ Aside0 (wo = w6):=⟨w6,⟨rfl⟩,⟨rfl⟩⟩
        clear HO9 HB9
        go_loopg [12] (win + 1) (fun gg s12 wr => ∃ (k f : Nat),k + f = kn + win + 1 ∧ f ≤ gg ∧ s12 = .int .i64 (k : Int) ∧ Aside0 (seekF (got.length % 16) f k kn = seekL kn win (got.length % 16)) ∧ Aside0 (wr = w6))
        case atStart => exact ⟨kn,win + 1,by omega,Nat.le_refl _,rfl,⟨rfl⟩,⟨rfl⟩⟩
        case round =>
          obtain ⟨k,f,hkf,hfg,rfl,HSK,HW6⟩:=hrel
          have HS7 : Aside0 (wr.heap[gs]? = some (.cells #[.slice A9 got.length c9,.int .i64 rounds,.int .i64 ((sent : Int) + 1),.bool false,.int .i64 (kn : Int),tv,.slice A5 tl c5] 76 (0,0))):=⟨by rw [HW6.out];exact HS6.out⟩
          have k4 : wr.cell? ⟨gs,4,none⟩ = some (.int .i64 (kn : Int)):=(blk_cell HS7.out 4).trans rfl
          have f4:=blk_frozen HS7.out 4
          cases f with
          | zero =>
            have HTK : Aside0 (kn = hearL (decide (Bk.getD 0 0 = 4)) win (got.length % 16) (kk + 1) known):=⟨by rw [← HTG.out,← HSK.out];rfl⟩
            have q1 : ((k : Int) ≤ (kn : Int) + (win : Int)) = False:=eq_false (by omega)
            obtain rfl:=HW6.out
            clear HSK HTG HW6
            go_wp2_with fail
            go_roundg (ar.length - (kk + 1))
            case measure => omega
            case rel => exact ⟨kk + 1,kn,by omega,by omega,by go_num,by rw [Nat.succ_mul];omega,HTK,HS6,HQ6,HO6,HA6,HTV6,HBV6,BW6⟩
          | succ f =>
            have q1 : ((k : Int) ≤ (kn : Int) + (win : Int)) = True:=eq_true (by omega)
            by_cases hq : k % 16 = got.length % 16
            · have HTK : Aside0 (k = hearL (decide (Bk.getD 0 0 = 4)) win (got.length % 16) (kk + 1) known):=⟨by rw [← HTG.out,← HSK.out,seekF,if_pos hq]⟩
              have q2 : ((k : Int) % 16 == (got.length : Int) % 16) = true:=beq_iff_eq.mpr (by omega)
              have HS8 : Aside0 ((wr.setCell ⟨gs,4,none⟩ (.int .i64 (k : Int))).heap[gs]? = some (.cells #[.slice A9 got.length c9,.int .i64 rounds,.int .i64 ((sent : Int) + 1),.bool false,.int .i64 (k : Int),tv,.slice A5 tl c5] 76 (0,0))):=⟨blk_setl HS7.out 4 (.int .i64 (k : Int))⟩
              have HQ8 : Aside0 ((wr.setCell ⟨gs,4,none⟩ (.int .i64 (k : Int))).heap[gq]? = some (.cells qs 28 (0,0))):=⟨by rw [HW6.out];exact blk_seto HQ6.out hne 4 (.int .i64 (k : Int))⟩
              have HO8:=Aside0.mk (S_other HO6.out HS6.out (by decide) 4 (.int .i64 (k : Int)))
              have HA8:=Aside0.mk (S_other HA6.out HS6.out (by decide) 4 (.int .i64 (k : Int)))
              have HTV8:=Aside0.mk (RdI.other HTV6.out HS6.out (by decide) 4 (.int .i64 (k : Int)))
              have HBV8:=Aside0.mk (RdI.other HBV6.out HS6.out (by decide) 4 (.int .i64 (k : Int)))
              have BW8:=Aside0.mk (BW6.out.setCell (p:=⟨gs,4,none⟩) hgs (.int .i64 (k : Int)))
              rw [← HW6.out] at HO8 HA8 HTV8 HBV8 BW8
              clear HSK HTG HW6 hq HS6 HQ6 HO6 HA6 HTV6 HBV6 BW6
              go_wp2_with fail
              go_roundg (ar.length - (kk + 1))
              case measure => omega
              case rel => exact ⟨kk + 1,k,by omega,by omega,by go_num,by rw [Nat.succ_mul];omega,HTK,HS8,HQ8,HO8,HA8,HTV8,HBV8,BW8⟩
            · have HSK2 : Aside0 (seekF (got.length % 16) f (k + 1) kn = seekL kn win (got.length % 16)):=⟨by rw [← HSK.out,seekF,if_neg hq]⟩
              have q2 : ((k : Int) % 16 == (got.length : Int) % 16) = false:=beq_eq_false_iff_ne.mpr (by omega)
              clear HSK hq
              go_wp2_with fail
              go_roundg f
              case measure => omega
              case rel => exact ⟨k + 1,f,by omega,by omega,by go_num,HSK2,HW6⟩
    · have e : kk = ar.length:=by omega
      subst e
      have HKN : Aside0 (hearL (decide (Bk.getD 0 0 = 4)) win (got.length % 16) (arrI Bk 1).length known = kn):=⟨by rw [HARR.out];exact HH.out.symm⟩
      have p3 : ((ar.length : Int) < (ar.length : Int)) = False:=eq_false (by omega)
      clear HA HH HUB HUO HOG
      go_wp2_with fail
      first | go_end0 | ((try simp only [Exit.inBlock,Exit.then]);refine bodyPost_ret (results_none rfl _ _ _) rfl ?_)
      refine ⟨rfl,.slice A5 tl c5,?_,HQ.out,HO.out,HTV.out,?_,BW.out⟩
      · have h1:=HS.out
        rw [← HKN.out] at h1
        exact h1
      · rw [← List.drop_one]
        exact HBV.out

-- LIB l5run
theorem results_c {P : Program} {fn : Func} {p : Tmp} {ty : TypeId} (h : fn.results = #[.cell p ty]) (tmps : Array Value) (w : World) (g : Nat) (t : TypeId) (cs : Array Value) (fr : Nat × Nat) (d : TypeDesc)
    (hp : tmps.getD p undef = .pointer (some ⟨g,0,none⟩)) (hg : w.heap[g]? = some (.cells cs t fr))
    (hu : P.underlying ty = some d) (hd : (match d with | .struct _ | .array _ _ => true | _ => false) = true) (hi : (P.info? ty).map (·.size) = some cs.size) :
    (results fn tmps).run P w = .ok (.agg cs) w:=by
  have hp' : tmps[p]?.getD undef = .pointer (some ⟨g,0,none⟩):=by simpa using hp
  simp [results,h,hp',asAddr,run_loadVar_row w g t ty cs fr d hg hu hd hi]
set_option maxHeartbeats 16000000 in
set_option maxRecDepth 1000000 in
theorem x_l5Run (win rounds : Nat) (A1 : Option Addr) (c1 : Nat) (l1 : List (List Int)) (A2 : Option Addr) (c2 : Nat) (l2 : List Int) (A3 : Option Addr) (c3 : Nat) (l3 : List Int) (w : World) (hok : linkB win l1 l2 l3 rounds = true) (hby : ∀ b ∈ l1, BytesL b)
    (hr1 : Kd.C (Kd.slice 5 (Kd.int .u8)) w A1 l1.length l1) (hc1 : l1.length ≤ c1) (hr2 : Kd.C (Kd.int .i64) w A2 l2.length l2) (hc2 : l2.length ≤ c2) (hr3 : Kd.C (Kd.int .i64) w A3 l3.length l3) (hc3 : l3.length ≤ c3) :
    Calls Try.prog 37 #[.int .i64 win,.slice A1 l1.length c1,.slice A2 l2.length c2,.slice A3 l3.length c3,.int .i64 rounds] w fun e w' => ∃ v : Value,
      e = .returned (.agg #[v,.int .i64 (runL win l1 l2 l3 rounds startL).rounds,.int .i64 (((runL win l1 l2 l3 rounds startL).so : Int) + (runL win l1 l2 l3 rounds startL).si),.bool (decide (l1.length ≤ (runL win l1 l2 l3 rounds startL).known))]) ∧
      Kd.S (Kd.slice 5 (Kd.int .u8)) 22 w' w.heap.size (fun _ => True) v (runL win l1 l2 l3 rounds startL).got ∧ Below w.heap.size w w':=by
  have hu:=Try.underlying28
  have hu2:=Try.underlying76
  have hb:=hok
  unfold linkB at hb
  simp only [Bool.and_eq_true,decide_eq_true_eq,List.all_eq_true] at hb
  obtain ⟨⟨hw1,hw2⟩,hn,hll,hf2,hf3,hro0,hro⟩:=hb
  have HR1:=Aside0.mk hr1
  have HR2:=Aside0.mk hr2
  have HR3:=Aside0.mk hr3
  have HC2:=Aside0.mk hc2
  have HC3:=Aside0.mk hc3
  have HLL:=Aside0.mk hll
  have HBY:=Aside0.mk hby
  have HF2:=Aside0.mk hf2
  have HF3:=Aside0.mk hf3
  have hba:=below_alloc (Below.refl w.heap.size w) (.cells #[.slice none 0 0,.int .i64 0,.int .i64 0,.bool false] 28)
  have hna:=blk_new w (.cells #[.slice none 0 0,.int .i64 0,.int .i64 0,.bool false] 28)
  have hza : (w.alloc (.cells #[.slice none 0 0,.int .i64 0,.int .i64 0,.bool false] 28)).heap.size = w.heap.size + 1:=by simp
  have HBA:=Aside0.mk hba
  have HNA:=Aside0.mk hna
  have HZA:=Aside0.mk hza
  obtain ⟨fin,hfin⟩ : ∃ fin,fin = runL win l1 l2 l3 rounds startL:=⟨_,rfl⟩
  rw [← hfin]
  have HFIN:=Aside0.mk hfin
  clear hr1 hr2 hr3 hc1 hc2 hc3 hll hby hf2 hf3 hok hfin hba hna hza
  go_enter Try.func37,Try.ntmps37
  go_wp2_with ((with_reducible refine gate_dst (N:=14) rfl ?_);refine Kd.S_lit (Kd.slice 5 (Kd.int .u8)) w.heap.size 22 ?hg (w0:=w) (N:=14) ?hd (xs:=([] : List (List Int))) (inner:=[]) (ok:=fun _ => True) (okp:=fun _ => True) ?hr ?hp (fun _ hk => hk) trivial HBA.out HBA.out.size (by simp) ?_;(case hd => rfl);(case hg => rfl);(case hr => first | (go_simp;done) | (go_simp;rfl));(case hp => exact (Reps.none _ _));intro v1 w1 ho1 hb1 hg1 _;obtain ⟨Ag,cg,rfl⟩:=Kd.S_slice ho1;have HO1:=Aside0.mk ho1;have HB1:=Aside0.mk hb1;have HQ1:=Aside0.mk (blk_grown HNA.out hg1 (by simp));clear ho1 hb1 hg1;simp only [List.length_nil])
  have hgs : w.heap.size ≤ w1.heap.size:=HB1.out.size
  have hzq : w.heap.size < w1.heap.size:=blk_lt HQ1.out
  have HS2:=Aside0.mk (blk_new w1 (.cells #[.slice Ag 0 cg,.int .i64 0,.int .i64 0,.bool false,.int .i64 0,.slice A2 l2.length c2,.slice A3 l3.length c3] 76))
  have HQ2:=Aside0.mk (blk_alloc HQ1.out (.cells #[.slice Ag 0 cg,.int .i64 0,.int .i64 0,.bool false,.int .i64 0,.slice A2 l2.length c2,.slice A3 l3.length c3] 76))
  have HO2:=Aside0.mk (Kd.S_alloc HO1.out (.cells #[.slice Ag 0 cg,.int .i64 0,.int .i64 0,.bool false,.int .i64 0,.slice A2 l2.length c2,.slice A3 l3.length c3] 76))
  have BW2:=Aside0.mk (below_alloc HB1.out (.cells #[.slice Ag 0 cg,.int .i64 0,.int .i64 0,.bool false,.int .i64 0,.slice A2 l2.length c2,.slice A3 l3.length c3] 76))
  have hne : w.heap.size ≠ w1.heap.size:=by omega
  clear HB1 HO1 HQ1 HBA HNA HZA hzq
  generalize w1.alloc (.cells #[.slice Ag 0 cg,.int .i64 0,.int .i64 0,.bool false,.int .i64 0,.slice A2 l2.length c2,.slice A3 l3.length c3] 76) = W0 at HS2 HQ2 HO2 BW2 ⊢
  generalize w1.heap.size = gs at HS2 hgs hne ⊢
  go_loopg [] rounds (fun gg wr => ∃ (s : LS) (gv tv bv : Value),s.rounds ≤ rounds ∧ rounds - s.rounds ≤ gg ∧ s.known ≤ 77 ∧ s.so ≤ 8 * s.rounds ∧ Aside0 (s.si = s.rounds) ∧ s.got.length ≤ 16 * s.rounds ∧
    Aside0 (fin = runL win l1 l2 l3 (rounds - s.rounds) s) ∧ Aside0 (wr.heap[gs]? = some (.cells #[gv,.int .i64 s.rounds,.int .i64 ((s.so + s.si : Nat) : Int),.bool false,.int .i64 s.known,tv,bv] 76 (0,0))) ∧
    Aside0 (wr.heap[w.heap.size]? = some (.cells #[.slice none 0 0,.int .i64 0,.int .i64 0,.bool false] 28 (0,0))) ∧ Aside0 (Kd.S (Kd.slice 5 (Kd.int .u8)) 22 wr w.heap.size (fun _ => True) gv s.got) ∧
    Aside0 (RdI w wr tv (l2.drop s.so)) ∧ Aside0 (RdI w wr bv (l3.drop s.si)) ∧ Aside0 (Below w.heap.size w wr))
  case atStart => exact ⟨startL,.slice Ag 0 cg,.slice A2 l2.length c2,.slice A3 l3.length c3,Nat.zero_le _,Nat.le_refl _,by simp [startL],Nat.zero_le _,⟨rfl⟩,Nat.zero_le _,HFIN,HS2,HQ2,HO2,⟨Or.inl ⟨A2,c2,rfl,HC2.out,HR2.out⟩⟩,⟨Or.inl ⟨A3,c3,rfl,HC3.out,HR3.out⟩⟩,BW2⟩
  case round =>
    clear HFIN HS2 HQ2 HO2 BW2
    obtain ⟨s,gv,tv,bv,hr1,hgg,hkn,hso,HSI,hgl,HF,HS,HQ,HO,HTV,HBV,BW⟩:=hrel
    have hsi1 : s.si ≤ 400:=by have:=HSI.out;omega
    have k1 : wr.cell? ⟨gs,1,none⟩ = some (.int .i64 s.rounds):=(blk_cell HS.out 1).trans rfl
    have k3 : wr.cell? ⟨gs,3,none⟩ = some (.bool false):=(blk_cell HS.out 3).trans rfl
    have k4 : wr.cell? ⟨gs,4,none⟩ = some (.int .i64 s.known):=(blk_cell HS.out 4).trans rfl
    by_cases hgo : s.known < l1.length ∧ s.rounds < rounds
    · obtain ⟨hk,hr⟩:=hgo
      have f1:=blk_frozen HS.out 1
      have p1 : ((s.known : Int) < (l1.length : Int)) = True:=eq_true (by omega)
      have p2 : ((s.rounds : Int) < (rounds : Int)) = True:=eq_true (by omega)
      go_wp2_with fail
      have hS1:=blk_setl HS.out 1 (.int .i64 ((s.rounds : Int) + 1))
      have hm8 : manyL l1 win s.known ≤ 8:=by unfold manyL;omega
      have hsend:=x_send win (s.rounds + 1) (s.so + s.si) s.known gs w.heap.size A1 c1 l1 tv bv gv (l2.drop s.so) (l3.drop s.si) s.got _ w _ (by omega) hn (by omega) (by omega) (by omega) (fatesB_drop HF2.out _) HLL.out HBY.out HR1.out (BW.out.setCell (p:=⟨gs,1,none⟩) hgs (.int .i64 ((s.rounds : Int) + 1))) hgs hS1 (blk_seto HQ.out hne 1 (.int .i64 ((s.rounds : Int) + 1)))
        (S_other HO.out HS.out (by decide) 1 (.int .i64 ((s.rounds : Int) + 1))) (RdI.other HTV.out HS.out (by decide) 1 (.int .i64 ((s.rounds : Int) + 1))) (RdI.other HBV.out HS.out (by decide) 1 (.int .i64 ((s.rounds : Int) + 1)))
      have HSEND:=Aside0.mk hsend
      clear hsend hS1 k1 k3 k4 f1 p1 p2 HS HQ HO HTV HBV BW
      refine HSEND.out.mono ?_
      rintro e w2 ⟨gv2,tv2,rfl,hS2,hQ2,hO2,hT2,hV2,hB2⟩
      have hgt : takeL l1 s.known (l2.drop s.so) (arrI (l2.drop s.so) (manyL l1 win s.known)) s.got = gotL win l1 l2 s:=rfl
      rw [hgt] at hO2
      have hgtl : (gotL win l1 l2 s).length ≤ s.got.length + 16:=by
        rw [← hgt]
        refine Nat.le_trans (takeL_len _ _ _ _ _) ?_
        have:=arrI_len (l2.drop s.so) (manyL l1 win s.known)
        omega
      have hans:=x_answer win (s.rounds + 1) (s.so + s.si + manyL l1 win s.known) s.known gs w.heap.size tv2 bv gv2 _ (l3.drop s.si) (gotL win l1 l2 s) _ w w2 (by omega) (by omega) (by omega) (by omega) (fatesB_drop HF3.out _) hB2 hgs hS2 hQ2 hO2 hT2 hV2
      have HANS:=Aside0.mk hans
      clear hans hS2 hQ2 hO2 hT2 hV2 hB2 HSEND hgt
      go_wp2_with fail
      refine HANS.out.mono ?_
      rintro e w3 ⟨bv3,rfl,hS3,hQ3,hO3,hT3,hV3,hB3⟩
      have hkl : hearL (decide ((l3.drop s.si).getD 0 0 = 4)) win ((gotL win l1 l2 s).length % 16) (arrI (l3.drop s.si) 1).length s.known = knownL win l1 l2 l3 s:=rfl
      have hkn3 : knownL win l1 l2 l3 s ≤ 77:=by
        rw [← hkl]
        refine Nat.le_trans (hearL_le _ _ _ _ _) ?_
        have h1:=arrI_len (l3.drop s.si) 1
        have h2 : (arrI (l3.drop s.si) 1).length * (win + 1) ≤ 2 * (8 + 1):=Nat.mul_le_mul (by omega) (by omega)
        omega
      rw [hkl] at hS3
      rw [List.drop_drop] at hT3 hV3
      have HS3:=Aside0.mk hS3
      have HQ3:=Aside0.mk hQ3
      have HO3:=Aside0.mk hO3
      have HT3:=Aside0.mk hT3
      have HV3:=Aside0.mk hV3
      have HB3:=Aside0.mk hB3
      have HSN : Aside0 (fin = runL win l1 l2 l3 (rounds - (s.rounds + 1)) (roundL win l1 l2 l3 s)):=⟨by
        rw [HF.out]
        obtain ⟨d,hd⟩ : ∃ d,rounds - s.rounds = d + 1:=⟨rounds - s.rounds - 1,by omega⟩
        rw [hd,runL,if_pos hk,show rounds - (s.rounds + 1) = d from by omega]⟩
      clear hS3 hQ3 hO3 hT3 hV3 hB3 HANS hkl HF
      go_wp2_with fail
      go_roundg (rounds - (s.rounds + 1))
      case measure => omega
      case rel => exact ⟨roundL win l1 l2 l3 s,gv2,tv2,bv3,by show s.rounds + 1 ≤ rounds;omega,by show rounds - (s.rounds + 1) ≤ _;omega,hkn3,by show s.so + manyL l1 win s.known ≤ 8 * (s.rounds + 1);omega,⟨by show s.si + 1 = s.rounds + 1;rw [HSI.out]⟩,by show (gotL win l1 l2 s).length ≤ 16 * (s.rounds + 1);omega,HSN,⟨by rw [HS3.out];show _ = some (Obj.cells #[_,_,.int .i64 (((s.so + manyL l1 win s.known) + (s.si + 1) : Nat) : Int),_,_,_,_] _ _);rw [show (((s.so + manyL l1 win s.known) + (s.si + 1) : Nat) : Int) = ((s.so + s.si + manyL l1 win s.known : Nat) : Int) + 1 from by omega];rfl⟩,HQ3,HO3,HT3,HV3,HB3⟩
    · have HE : Aside0 (fin = s) := ⟨by
        rw [HF.out]
        by_cases h : s.rounds < rounds
        · obtain ⟨d,hd⟩ : ∃ d,rounds - s.rounds = d + 1:=⟨rounds - s.rounds - 1,by omega⟩
          rw [hd,runL,if_neg (fun h2 => hgo ⟨h2,h⟩)]
        · rw [show rounds - s.rounds = 0 from by omega,runL]⟩
      have HE2 : Aside0 (fin.rounds = s.rounds ∧ fin.so = s.so ∧ fin.si = s.si ∧ fin.known = s.known ∧ fin.got = s.got):=⟨by rw [HE.out];exact ⟨rfl,rfl,rfl,rfl,rfl⟩⟩
      have f3:=blk_frozen HS.out 3
      obtain ⟨A9,c9,rfl⟩:=Kd.S_slice HO.out
      clear HTV HBV
      by_cases hk : s.known < l1.length
      · have p1 : ((s.known : Int) < (l1.length : Int)) = True:=eq_true (by omega)
        have p2 : ((s.rounds : Int) < (rounds : Int)) = False:=eq_false (fun h => hgo ⟨hk,by omega⟩)
        have p3 : ((l1.length : Int) ≤ (s.known : Int)) = False:=eq_false (by omega)
        have HP : Aside0 (decide (l1.length ≤ s.known) = false):=⟨decide_eq_false (by omega)⟩
        clear hgo hk HF
        go_upto_region 7 with (fail)
        have HX1:=Aside0.mk (blk_setl HS.out 3 (.bool false))
        have HX2:=Aside0.mk (blk_seto HQ.out hne 3 (.bool false))
        have HOX:=Aside0.mk (S_other HO.out HS.out (by decide) 3 (.bool false))
        have BWX:=Aside0.mk (BW.out.setCell (p:=⟨gs,3,none⟩) hgs (.bool false))
        clear k1 k3 k4 f3 p1 HO BW HS HQ
        generalize wr.setCell ⟨gs,3,none⟩ (.bool false) = W9 at HX1 HX2 HOX BWX ⊢
        have k0 : W9.cell? ⟨gs,0,none⟩ = some (.slice A9 s.got.length c9):=(blk_cell HX1.out 0).trans rfl
        have k1 : W9.cell? ⟨gs,1,none⟩ = some (.int .i64 s.rounds):=(blk_cell HX1.out 1).trans rfl
        have k2 : W9.cell? ⟨gs,2,none⟩ = some (.int .i64 ((s.so : Int) + (s.si : Int))):=(blk_cell HX1.out 2).trans rfl
        have k3 : W9.cell? ⟨gs,3,none⟩ = some (.bool false):=(blk_cell HX1.out 3).trans rfl
        have e0 : W9.cell? ⟨w.heap.size,0,none⟩ = some (.slice none 0 0):=(blk_cell HX2.out 0).trans rfl
        have e1 : W9.cell? ⟨w.heap.size,1,none⟩ = some (.int .i64 0):=(blk_cell HX2.out 1).trans rfl
        have e2 : W9.cell? ⟨w.heap.size,2,none⟩ = some (.int .i64 0):=(blk_cell HX2.out 2).trans rfl
        have e3 : W9.cell? ⟨w.heap.size,3,none⟩ = some (.bool false):=(blk_cell HX2.out 3).trans rfl
        have g0:=blk_frozen HX2.out 0
        have g1:=blk_frozen HX2.out 1
        have g2:=blk_frozen HX2.out 2
        have g3:=blk_frozen HX2.out 3
        go_wp2_with fail
        have HY:=blk_setl (blk_setl (blk_setl (blk_setl HX2.out 0 (.slice A9 s.got.length c9)) 1 (.int .i64 s.rounds)) 2 (.int .i64 ((s.so : Int) + (s.si : Int)))) 3 (.bool false)
        have HOY:=Aside0.mk (S_other (S_other (S_other (S_other HOX.out HX2.out (by decide) 0 (.slice A9 s.got.length c9)) (blk_setl HX2.out 0 _) (by decide) 1 (.int .i64 s.rounds)) (blk_setl (blk_setl HX2.out 0 _) 1 _) (by decide) 2 (.int .i64 ((s.so : Int) + (s.si : Int)))) (blk_setl (blk_setl (blk_setl HX2.out 0 _) 1 _) 2 _) (by decide) 3 (.bool false))
        have BWY:=Aside0.mk ((((BWX.out.setCell (p:=⟨w.heap.size,0,none⟩) (Nat.le_refl _) (.slice A9 s.got.length c9)).setCell (p:=⟨w.heap.size,1,none⟩) (Nat.le_refl _) (.int .i64 s.rounds)).setCell (p:=⟨w.heap.size,2,none⟩) (Nat.le_refl _) (.int .i64 ((s.so : Int) + (s.si : Int)))).setCell (p:=⟨w.heap.size,3,none⟩) (Nat.le_refl _) (.bool false))
        clear HOX BWX HX1 HX2 k0 k1 k2 k3 e0 e1 e2 e3 g0 g1 g2 g3
        generalize (((W9.setCell ⟨w.heap.size,0,none⟩ (.slice A9 s.got.length c9)).setCell ⟨w.heap.size,1,none⟩ (.int .i64 s.rounds)).setCell ⟨w.heap.size,2,none⟩ (.int .i64 ((s.so : Int) + (s.si : Int)))).setCell ⟨w.heap.size,3,none⟩ (.bool false) = W10 at HY HOY BWY ⊢
        refine bodyPost_ret (results_c rfl _ _ w.heap.size 28 #[.slice A9 s.got.length c9,.int .i64 s.rounds,.int .i64 ((s.so : Int) + (s.si : Int)),.bool false] (0,0) _ rfl HY hu rfl (by kernel_rfl)) rfl ?_
        obtain ⟨q1,q2,q3,q4,q5⟩:=HE2.out
        refine ⟨.slice A9 s.got.length c9,?_,?_,?_⟩
        · rw [q1,q2,q3,q4,HP.out]
        · rw [q5];exact HOY.out
        · exact BWY.out
      · have p1 : ((s.known : Int) < (l1.length : Int)) = False:=eq_false (by omega)
        have p3 : ((l1.length : Int) ≤ (s.known : Int)) = True:=eq_true (by omega)
        have HP : Aside0 (decide (l1.length ≤ s.known) = true):=⟨decide_eq_true (by omega)⟩
        clear hgo hk HF
        by_cases hr : s.rounds < rounds
        · have p2 : ((s.rounds : Int) < (rounds : Int)) = True:=eq_true (by omega)
          clear hr
          go_upto_region 7 with (fail)
          have HX1:=Aside0.mk (blk_setl HS.out 3 (.bool true))
          have HX2:=Aside0.mk (blk_seto HQ.out hne 3 (.bool true))
          have HOX:=Aside0.mk (S_other HO.out HS.out (by decide) 3 (.bool true))
          have BWX:=Aside0.mk (BW.out.setCell (p:=⟨gs,3,none⟩) hgs (.bool true))
          clear k1 k3 k4 f3 p1 HO BW HS HQ
          generalize wr.setCell ⟨gs,3,none⟩ (.bool true) = W9 at HX1 HX2 HOX BWX ⊢
          have k0 : W9.cell? ⟨gs,0,none⟩ = some (.slice A9 s.got.length c9):=(blk_cell HX1.out 0).trans rfl
          have k1 : W9.cell? ⟨gs,1,none⟩ = some (.int .i64 s.rounds):=(blk_cell HX1.out 1).trans rfl
          have k2 : W9.cell? ⟨gs,2,none⟩ = some (.int .i64 ((s.so : Int) + (s.si : Int))):=(blk_cell HX1.out 2).trans rfl
          have k3 : W9.cell? ⟨gs,3,none⟩ = some (.bool true):=(blk_cell HX1.out 3).trans rfl
          have e0 : W9.cell? ⟨w.heap.size,0,none⟩ = some (.slice none 0 0):=(blk_cell HX2.out 0).trans rfl
          have e1 : W9.cell? ⟨w.heap.size,1,none⟩ = some (.int .i64 0):=(blk_cell HX2.out 1).trans rfl
          have e2 : W9.cell? ⟨w.heap.size,2,none⟩ = some (.int .i64 0):=(blk_cell HX2.out 2).trans rfl
          have e3 : W9.cell? ⟨w.heap.size,3,none⟩ = some (.bool false):=(blk_cell HX2.out 3).trans rfl
          have g0:=blk_frozen HX2.out 0
          have g1:=blk_frozen HX2.out 1
          have g2:=blk_frozen HX2.out 2
          have g3:=blk_frozen HX2.out 3
          go_wp2_with fail
          have HY:=blk_setl (blk_setl (blk_setl (blk_setl HX2.out 0 (.slice A9 s.got.length c9)) 1 (.int .i64 s.rounds)) 2 (.int .i64 ((s.so : Int) + (s.si : Int)))) 3 (.bool true)
          have HOY:=Aside0.mk (S_other (S_other (S_other (S_other HOX.out HX2.out (by decide) 0 (.slice A9 s.got.length c9)) (blk_setl HX2.out 0 _) (by decide) 1 (.int .i64 s.rounds)) (blk_setl (blk_setl HX2.out 0 _) 1 _) (by decide) 2 (.int .i64 ((s.so : Int) + (s.si : Int)))) (blk_setl (blk_setl (blk_setl HX2.out 0 _) 1 _) 2 _) (by decide) 3 (.bool true))
          have BWY:=Aside0.mk ((((BWX.out.setCell (p:=⟨w.heap.size,0,none⟩) (Nat.le_refl _) (.slice A9 s.got.length c9)).setCell (p:=⟨w.heap.size,1,none⟩) (Nat.le_refl _) (.int .i64 s.rounds)).setCell (p:=⟨w.heap.size,2,none⟩) (Nat.le_refl _) (.int .i64 ((s.so : Int) + (s.si : Int)))).setCell (p:=⟨w.heap.size,3,none⟩) (Nat.le_refl _) (.bool true))
          clear HOX BWX HX1 HX2 k0 k1 k2 k3 e0 e1 e2 e3 g0 g1 g2 g3
          generalize (((W9.setCell ⟨w.heap.size,0,none⟩ (.slice A9 s.got.length c9)).setCell ⟨w.heap.size,1,none⟩ (.int .i64 s.rounds)).setCell ⟨w.heap.size,2,none⟩ (.int .i64 ((s.so : Int) + (s.si : Int)))).setCell ⟨w.heap.size,3,none⟩ (.bool true) = W10 at HY HOY BWY ⊢
          refine bodyPost_ret (results_c rfl _ _ w.heap.size 28 #[.slice A9 s.got.length c9,.int .i64 s.rounds,.int .i64 ((s.so : Int) + (s.si : Int)),.bool true] (0,0) _ rfl HY hu rfl (by kernel_rfl)) rfl ?_
          obtain ⟨q1,q2,q3,q4,q5⟩:=HE2.out
          refine ⟨.slice A9 s.got.length c9,?_,?_,?_⟩
          · rw [q1,q2,q3,q4,HP.out]
          · rw [q5];exact HOY.out
          · exact BWY.out
        · have p2 : ((s.rounds : Int) < (rounds : Int)) = False:=eq_false (by omega)
          clear hr
          go_upto_region 7 with (fail)
          have HX1:=Aside0.mk (blk_setl HS.out 3 (.bool true))
          have HX2:=Aside0.mk (blk_seto HQ.out hne 3 (.bool true))
          have HOX:=Aside0.mk (S_other HO.out HS.out (by decide) 3 (.bool true))
          have BWX:=Aside0.mk (BW.out.setCell (p:=⟨gs,3,none⟩) hgs (.bool true))
          clear k1 k3 k4 f3 p1 HO BW HS HQ
          generalize wr.setCell ⟨gs,3,none⟩ (.bool true) = W9 at HX1 HX2 HOX BWX ⊢
          have k0 : W9.cell? ⟨gs,0,none⟩ = some (.slice A9 s.got.length c9):=(blk_cell HX1.out 0).trans rfl
          have k1 : W9.cell? ⟨gs,1,none⟩ = some (.int .i64 s.rounds):=(blk_cell HX1.out 1).trans rfl
          have k2 : W9.cell? ⟨gs,2,none⟩ = some (.int .i64 ((s.so : Int) + (s.si : Int))):=(blk_cell HX1.out 2).trans rfl
          have k3 : W9.cell? ⟨gs,3,none⟩ = some (.bool true):=(blk_cell HX1.out 3).trans rfl
          have e0 : W9.cell? ⟨w.heap.size,0,none⟩ = some (.slice none 0 0):=(blk_cell HX2.out 0).trans rfl
          have e1 : W9.cell? ⟨w.heap.size,1,none⟩ = some (.int .i64 0):=(blk_cell HX2.out 1).trans rfl
          have e2 : W9.cell? ⟨w.heap.size,2,none⟩ = some (.int .i64 0):=(blk_cell HX2.out 2).trans rfl
          have e3 : W9.cell? ⟨w.heap.size,3,none⟩ = some (.bool false):=(blk_cell HX2.out 3).trans rfl
          have g0:=blk_frozen HX2.out 0
          have g1:=blk_frozen HX2.out 1
          have g2:=blk_frozen HX2.out 2
          have g3:=blk_frozen HX2.out 3
          go_wp2_with fail
          have HY:=blk_setl (blk_setl (blk_setl (blk_setl HX2.out 0 (.slice A9 s.got.length c9)) 1 (.int .i64 s.rounds)) 2 (.int .i64 ((s.so : Int) + (s.si : Int)))) 3 (.bool true)
          have HOY:=Aside0.mk (S_other (S_other (S_other (S_other HOX.out HX2.out (by decide) 0 (.slice A9 s.got.length c9)) (blk_setl HX2.out 0 _) (by decide) 1 (.int .i64 s.rounds)) (blk_setl (blk_setl HX2.out 0 _) 1 _) (by decide) 2 (.int .i64 ((s.so : Int) + (s.si : Int)))) (blk_setl (blk_setl (blk_setl HX2.out 0 _) 1 _) 2 _) (by decide) 3 (.bool true))
          have BWY:=Aside0.mk ((((BWX.out.setCell (p:=⟨w.heap.size,0,none⟩) (Nat.le_refl _) (.slice A9 s.got.length c9)).setCell (p:=⟨w.heap.size,1,none⟩) (Nat.le_refl _) (.int .i64 s.rounds)).setCell (p:=⟨w.heap.size,2,none⟩) (Nat.le_refl _) (.int .i64 ((s.so : Int) + (s.si : Int)))).setCell (p:=⟨w.heap.size,3,none⟩) (Nat.le_refl _) (.bool true))
          clear HOX BWX HX1 HX2 k0 k1 k2 k3 e0 e1 e2 e3 g0 g1 g2 g3
          generalize (((W9.setCell ⟨w.heap.size,0,none⟩ (.slice A9 s.got.length c9)).setCell ⟨w.heap.size,1,none⟩ (.int .i64 s.rounds)).setCell ⟨w.heap.size,2,none⟩ (.int .i64 ((s.so : Int) + (s.si : Int)))).setCell ⟨w.heap.size,3,none⟩ (.bool true) = W10 at HY HOY BWY ⊢
          refine bodyPost_ret (results_c rfl _ _ w.heap.size 28 #[.slice A9 s.got.length c9,.int .i64 s.rounds,.int .i64 ((s.so : Int) + (s.si : Int)),.bool true] (0,0) _ rfl HY hu rfl (by kernel_rfl)) rfl ?_
          obtain ⟨q1,q2,q3,q4,q5⟩:=HE2.out
          refine ⟨.slice A9 s.got.length c9,?_,?_,?_⟩
          · rw [q1,q2,q3,q4,HP.out]
          · rw [q5];exact HOY.out
          · exact BWY.out

/-! ### spec_l5Run: function 37 (by hand) -/
def spec_l5Run.f (a0 : Int) (l1 : List (List Int)) (l2 : List Int) (l3 : List Int) (a4 : Int) : Option ((List (List Int)) × Int × Int × Bool) :=
 if linkB a0 l1 l2 l3 a4 = true ∧ bytesB l1 = true then some ((runL a0.toNat l1 l2 l3 a4.toNat startL).got,((runL a0.toNat l1 l2 l3 a4.toNat startL).rounds : Int),((runL a0.toNat l1 l2 l3 a4.toNat startL).so : Int) + ((runL a0.toNat l1 l2 l3 a4.toNat startL).si : Int),decide (l1.length ≤ (runL a0.toNat l1 l2 l3 a4.toNat startL).known)) else none
set_option maxHeartbeats 4000000 in
set_option maxRecDepth 100000 in
theorem spec_l5Run.calls (a0 : Int) (A1 : Option Addr) (c1 : Nat) (l1 : List (List Int)) (A2 : Option Addr) (c2 : Nat) (l2 : List Int) (A3 : Option Addr) (c3 : Nat) (l3 : List Int) (a4 : Int) (r1 : List (List Int)) (r2 : Int) (r3 : Int) (r4 : Bool) (w : World) (hr1 : Kd.C (Kd.slice 5 (Kd.int .u8)) w A1 l1.length l1) (hc1 : l1.length ≤ c1) (hr2 : Kd.C (Kd.int .i64) w A2 l2.length l2) (hc2 : l2.length ≤ c2) (hr3 : Kd.C (Kd.int .i64) w A3 l3.length l3) (hc3 : l3.length ≤ c3) (h : spec_l5Run.f a0 l1 l2 l3 a4 = some (r1,r2,r3,r4)) :
  Calls Try.prog 37 #[.int .i64 a0,.slice A1 l1.length c1,.slice A2 l2.length c2,.slice A3 l3.length c3,.int .i64 a4] w fun e w' => ∃ v0_ : Value,e = .returned (.agg #[v0_,.int .i64 r2,.int .i64 r3,.bool r4]) ∧ Kd.S (Kd.slice 5 (Kd.int .u8)) 22 w' w.heap.size (fun _ => True) v0_ r1 ∧ Below w.heap.size w w':=by
 unfold spec_l5Run.f at h
 by_cases hl : linkB a0 l1 l2 l3 a4 = true ∧ bytesB l1 = true
 ·rw [if_pos hl] at h
  injection h with h
  injection h with h1 h
  injection h with h2 h
  injection h with h3 h4
  subst h1
  subst h2
  subst h3
  subst h4
  have hl2:=hl.1
  unfold linkB at hl2
  simp only [Bool.and_eq_true,decide_eq_true_eq] at hl2
  obtain ⟨n,rfl⟩ : ∃ n : Nat,a0 = (n : Int):=⟨a0.toNat,by omega⟩
  obtain ⟨k,rfl⟩ : ∃ n : Nat,a4 = (n : Int):=⟨a4.toNat,by omega⟩
  rw [Int.toNat_natCast,Int.toNat_natCast]
  exact x_l5Run n k A1 c1 l1 A2 c2 l2 A3 c3 l3 w hl.1 (bytesB_iff.1 hl.2) hr1 hc1 hr2 hc2 hr3 hc3
 ·rw [if_neg hl] at h
  cases h

/-! ### spec_RunLink: function 11 -/
def spec_RunLink.f (k : Nat) (a0 : Int) (l1 : List (List Int)) (l2 : List Int) (l3 : List Int) (a4 : Int) : Option ((List (List Int)) × Int × Int × Bool × Bool):=(spec_l5Link.f k a0 l1 l2 l3).bind fun t398 => (if t398 = true then ((spec_l1In.f a4 0 400).bind fun t399 => (if t399 = true then ((spec_l5Run.f a0 l1 l2 l3 a4).bind fun bt400 => (some (bt400.1,bt400.2.1,bt400.2.2.1,bt400.2.2.2,true))) else (some (([] : List (List Int)),0,0,false,false)))) else (some (([] : List (List Int)),0,0,false,false)))
theorem spec_RunLink.mono : ∀ a0 a1 a2 a3 a4 k,LeO (spec_RunLink.f k a0 a1 a2 a3 a4) (spec_RunLink.f (k + 1) a0 a1 a2 a3 a4):=by
 intro a0 a1 a2 a3 a4 k
 unfold spec_RunLink.f
 repeat' first
   | (with_reducible exact spec_l5Link.mono _ _ _ _ _)
   | (with_reducible exact LeO.refl _)
   | (with_reducible exact LeO.none _)
   | (with_reducible refine LeO.ite ?_ ?_)
   | (with_reducible refine LeO.bind ?_ (fun _ => ?_))
   | exact spec_l5Link.mono _ _ _ _ _
   | exact LeO.none _
   | refine LeO.ite ?_ ?_
   | refine LeO.bind ?_ (fun _ => ?_)
set_option maxHeartbeats 8000000 in
set_option maxRecDepth 100000 in
theorem spec_RunLink.calls (k : Nat) (a0 : Int) (A1 : Option Addr) (c1 : Nat) (l1 : List (List Int)) (A2 : Option Addr) (c2 : Nat) (l2 : List Int) (A3 : Option Addr) (c3 : Nat) (l3 : List Int) (a4 : Int) (r1 : List (List Int)) (r2 : Int) (r3 : Int) (r4 : Bool) (r5 : Bool) (w : World) (hr1 : Kd.C (Kd.slice 5 (Kd.int .u8)) w A1 l1.length l1) (hc1 : l1.length ≤ c1) (hr2 : Kd.C (Kd.int .i64) w A2 l2.length l2) (hc2 : l2.length ≤ c2) (hr3 : Kd.C (Kd.int .i64) w A3 l3.length l3) (hc3 : l3.length ≤ c3) (h : spec_RunLink.f k a0 l1 l2 l3 a4 = some (r1,r2,r3,r4,r5)) :
  Calls Try.prog 11 #[.int .i64 a0,.slice A1 l1.length c1,.slice A2 l2.length c2,.slice A3 l3.length c3,.int .i64 a4] w fun e w' => ∃ v0_ : Value,e = .returned (.tuple #[.agg #[v0_,.int .i64 r2,.int .i64 r3,.bool r4],.bool r5]) ∧ Kd.S (Kd.slice 5 (Kd.int .u8)) 22 w' w.heap.size (fun _ => True) v0_ r1 ∧ Below w.heap.size w w':=by
 have hu28:=Try.underlying28
 have HR1:=mk_ hr1
 have HC1:=mk_ hc1
 clear hr1 hc1
 have HR2:=mk_ hr2
 have HC2:=mk_ hc2
 clear hr2 hc2
 have HR3:=mk_ hr3
 have HC3:=mk_ hc3
 clear hr3 hc3
 have HB:=mk_ (Below.refl w.heap.size w)
 have H : ((spec_l5Link.f k a0 l1 l2 l3).bind fun t398 => (if t398 = true then ((spec_l1In.f a4 0 400).bind fun t399 => (if t399 = true then ((spec_l5Run.f a0 l1 l2 l3 a4).bind fun bt400 => (some (bt400.1,bt400.2.1,bt400.2.2.1,bt400.2.2.2,true))) else (some (([] : List (List Int)),0,0,false,false)))) else (some (([] : List (List Int)),0,0,false,false)))) = some (r1,r2,r3,r4,r5):=h
 clear h
 replace H:=Option.bind_eq_some_iff.mp H
 obtain ⟨t398,A60,H⟩:=H
 replace H : (if t398 = true then ((spec_l1In.f a4 0 400).bind fun t399 => (if t399 = true then ((spec_l5Run.f a0 l1 l2 l3 a4).bind fun bt400 => (some (bt400.1,bt400.2.1,bt400.2.2.1,bt400.2.2.2,true))) else (some (([] : List (List Int)),0,0,false,false)))) else (some (([] : List (List Int)),0,0,false,false))) = some (r1,r2,r3,r4,r5):=H
 have A6:=mk_ A60
 clear A60
 by_cases c7 : t398 = true
 ·subst c7
  have H1 : ((spec_l1In.f a4 0 400).bind fun t399 => (if t399 = true then ((spec_l5Run.f a0 l1 l2 l3 a4).bind fun bt400 => (some (bt400.1,bt400.2.1,bt400.2.2.1,bt400.2.2.2,true))) else (some (([] : List (List Int)),0,0,false,false)))) = some (r1,r2,r3,r4,r5):=by rw [if_pos rfl] at H;exact H
  clear H
  have H:=H1
  clear H1
  replace H:=Option.bind_eq_some_iff.mp H
  obtain ⟨t399,A80,H⟩:=H
  replace H : (if t399 = true then ((spec_l5Run.f a0 l1 l2 l3 a4).bind fun bt400 => (some (bt400.1,bt400.2.1,bt400.2.2.1,bt400.2.2.2,true))) else (some (([] : List (List Int)),0,0,false,false))) = some (r1,r2,r3,r4,r5):=H
  have A8:=mk_ A80
  clear A80
  by_cases c9 : t399 = true
  ·subst c9
   have H1 : ((spec_l5Run.f a0 l1 l2 l3 a4).bind fun bt400 => (some (bt400.1,bt400.2.1,bt400.2.2.1,bt400.2.2.2,true))) = some (r1,r2,r3,r4,r5):=by rw [if_pos rfl] at H;exact H
   clear H
   have H:=H1
   clear H1
   replace H:=Option.bind_eq_some_iff.mp H
   obtain ⟨⟨t400,t403,t404,t405⟩,A100,H⟩:=H
   replace H : (some (t400,t403,t404,t405,true)) = some (r1,r2,r3,r4,r5):=H
   have A10:=mk_ A100
   clear A100
   simp only [Option.some.injEq,Prod.mk.injEq] at H
   obtain ⟨rfl,rfl,rfl,rfl,rfl⟩:=H
   go_enter Try.func11,Try.ntmps11
   go_wp2_with (first|((with_reducible refine gate_dst (N:=10) rfl ?_);refine box_event ?hg (N:=10) ?hd (cs:=#[.slice none 0 0,.int .i64 0,.int .i64 0,.bool false]) (t:=28) ?hr ?_;(case hd => rfl);(case hg => rfl);(case hr => first|(go_simp;done)|(go_simp;rfl));intro gb397 hg w11 hbox hb;have n0_:=mk_ (st_ (qb_ HB) hb);have n1_:=mk_ (hbox);have n2_:=mk_ ((by rw [hg];exact (bz_ (qb_ HB)) : w.heap.size ≤ gb397));have n3_:=mk_ ((by rw [hg];exact (bz_ (qb_ HB)) : w.heap.size ≤ gb397));clear HB;have HB:=n0_;have BK397:=n1_;have GW397:=n2_;have GE397:=n3_;clear n0_ n1_ n2_ n3_ hb hbox hg)|((with_reducible refine gate_callee (f:=35) rfl ?_);refine goesL_ (some 16) rfl rfl Try.func35 (by kernel_rfl) rfl #[.int .i64 a0,.slice A1 l1.length c1,.slice A2 l2.length c2,.slice A3 l3.length c3] rfl qm_ ?_;(with_reducible refine (spec_l5Link.calls k a0 _ _ l1 _ _ l2 _ _ l3 true _ ?side1 ?side2 ?side3 ?side4 ?side5 ?side6 A6.out).mono ?_);(case side1 => exact qn_ HR1 HB);(case side2 => exact HC1.out);(case side3 => exact qn_ HR2 HB);(case side4 => exact HC2.out);(case side5 => exact qn_ HR3 HB);(case side6 => exact HC3.out);rintro e w' ⟨rfl,⟨nd,rfl⟩⟩;refine ⟨_,rfl,?_⟩;(try (rw [drewN_self w11];generalize hq_ : World.drewN w11 _ = w11;have n0_ : Aside0 (w11.heap[gb397]? = some (.cells #[.slice none 0 0,.int .i64 0,.int .i64 0,.bool false] 28 (0,0))):=⟨by rw [← hq_];exact (qk_ BK397)⟩;have n1_ : Aside0 (Below w.heap.size w w11):=⟨by rw [← hq_];exact (qc_ HB GE397)⟩;clear BK397 HB hq_;have BK397:=n0_;have HB:=n1_;clear n0_ n1_)))|(go_at_call 36;(with_reducible refine (spec_l1In.calls a4 0 400 true _ A8.out).mono ?_);rintro e w' ⟨rfl,⟨nd,rfl⟩⟩;(try (rw [drewN_self w11];generalize hq_ : World.drewN w11 _ = w11;have n0_ : Aside0 (w11.heap[gb397]? = some (.cells #[.slice none 0 0,.int .i64 0,.int .i64 0,.bool false] 28 (0,0))):=⟨by rw [← hq_];exact (qk_ BK397)⟩;have n1_ : Aside0 (Below w.heap.size w w11):=⟨by rw [← hq_];exact (qc_ HB GE397)⟩;clear BK397 HB hq_;have BK397:=n0_;have HB:=n1_;clear n0_ n1_)))|((with_reducible refine gate_callee (f:=37) rfl ?_);refine goesL_ (some 29) rfl rfl Try.func37 (by kernel_rfl) rfl #[.int .i64 a0,.slice A1 l1.length c1,.slice A2 l2.length c2,.slice A3 l3.length c3,.int .i64 a4] rfl qm_ ?_;(with_reducible refine (spec_l5Run.calls a0 _ _ l1 _ _ l2 _ _ l3 a4 t400 t403 t404 t405 _ ?side1 ?side2 ?side3 ?side4 ?side5 ?side6 A10.out).mono ?_);(case side1 => exact qn_ HR1 HB);(case side2 => exact HC1.out);(case side3 => exact qn_ HR2 HB);(case side4 => exact HC2.out);(case side5 => exact qn_ HR3 HB);(case side6 => exact HC3.out);rintro e w12 ⟨v401,rfl,ho0,hb⟩;refine ⟨_,rfl,?_⟩;have n0_:=mk_ (Kd.S_lower ho0 (bz_ (qc_ HB GE397)));have n1_:=mk_ (blk_below (g:=gb397) (o:=.cells #[.slice none 0 0,.int .i64 0,.int .i64 0,.bool false] 28 (0,0)) (qk_ BK397) hb);have n2_:=mk_ (st_ (qc_ HB GE397) hb);clear BK397 HB;have HO402:=n0_;have BK397:=n1_;have HB:=n2_;clear n0_ n1_ n2_;(try clear hb);(try clear hb2);(try clear hk);(try clear hi);(try clear ho0);obtain ⟨Ao13,co13,eo13⟩:=Kd.S_slice HO402.out;subst eo13;have hcz14_0 : w12.cell? ⟨gb397,0,none⟩ = some (.slice none 0 0):=(bc_ BK397.out 0).trans rfl;have hcz14_1 : w12.cell? ⟨gb397,1,none⟩ = some (.int .i64 0):=(bc_ BK397.out 1).trans rfl;have hcz14_2 : w12.cell? ⟨gb397,2,none⟩ = some (.int .i64 0):=(bc_ BK397.out 2).trans rfl;have hcz14_3 : w12.cell? ⟨gb397,3,none⟩ = some (.bool false):=(bc_ BK397.out 3).trans rfl;have hfz14_0:=bf_ BK397.out 0;have hfz14_1:=bf_ BK397.out 1;have hfz14_2:=bf_ BK397.out 2;have hfz14_3:=bf_ BK397.out 3))
   refine bodyPost_ret (results_ct rfl _ _ gb397 28 #[.slice Ao13 t400.length co13,.int .i64 t403,.int .i64 t404,.bool t405] (0,0) _ rfl (by (with_reducible repeat (first|apply kn_|apply kd_|apply ka_));refine blk_put (cs:=#[.slice Ao13 t400.length co13,.int .i64 t403,.int .i64 t404,.bool false]) ?_ 3 _ rfl;(with_reducible repeat (first|apply kn_|apply kd_|apply ka_));refine blk_put (cs:=#[.slice Ao13 t400.length co13,.int .i64 t403,.int .i64 0,.bool false]) ?_ 2 _ rfl;(with_reducible repeat (first|apply kn_|apply kd_|apply ka_));refine blk_put (cs:=#[.slice Ao13 t400.length co13,.int .i64 0,.int .i64 0,.bool false]) ?_ 1 _ rfl;(with_reducible repeat (first|apply kn_|apply kd_|apply ka_));refine blk_put (cs:=#[.slice none 0 0,.int .i64 0,.int .i64 0,.bool false]) ?_ 0 _ rfl;(with_reducible repeat (first|apply kn_|apply kd_|apply ka_));exact BK397.out) Try.underlying28 rfl (by kernel_rfl)) rfl ?_
   exact ⟨_,qe_,by (with_reducible repeat (first|apply Kd.S_alloc|apply Kd.S_drewN|apply Kd.S_drew));exact Kd.S_mono (Kd.S_far (p:=⟨gb397,3,none⟩) (Kd.S_far (p:=⟨gb397,2,none⟩) (Kd.S_far (p:=⟨gb397,1,none⟩) (Kd.S_far (p:=⟨gb397,0,none⟩) (Kd.S_types HO402.out BK397.out (by decide)) (λ_ h=>h.2) (.slice Ao13 t400.length co13)) (λ_ h=>h.2) (.int .i64 t403)) (λ_ h=>h.2) (.int .i64 t404)) (λ_ h=>h.2) (.bool t405)) (λ_ _=>trivial),u1_ HB GE397⟩
  ·replace c9:=Bool.eq_false_iff.mpr c9
   subst c9
   have H1 : (some (([] : List (List Int)),0,0,false,false)) = some (r1,r2,r3,r4,r5):=by rw [if_neg (show ¬ (false = true) by decide)] at H;exact H
   clear H
   have H:=H1
   clear H1
   simp only [Option.some.injEq,Prod.mk.injEq] at H
   obtain ⟨rfl,rfl,rfl,rfl,rfl⟩:=H
   go_enter Try.func11,Try.ntmps11
   go_wp2_with (first|((with_reducible refine gate_dst (N:=10) rfl ?_);refine box_event ?hg (N:=10) ?hd (cs:=#[.slice none 0 0,.int .i64 0,.int .i64 0,.bool false]) (t:=28) ?hr ?_;(case hd => rfl);(case hg => rfl);(case hr => first|(go_simp;done)|(go_simp;rfl));intro gb397 hg w15 hbox hb;have n0_:=mk_ (st_ (qb_ HB) hb);have n1_:=mk_ (hbox);have n2_:=mk_ ((by rw [hg];exact (bz_ (qb_ HB)) : w.heap.size ≤ gb397));have n3_:=mk_ ((by rw [hg];exact (bz_ (qb_ HB)) : w.heap.size ≤ gb397));clear HB;have HB:=n0_;have BK397:=n1_;have GW397:=n2_;have GE397:=n3_;clear n0_ n1_ n2_ n3_ hb hbox hg)|((with_reducible refine gate_callee (f:=35) rfl ?_);refine goesL_ (some 16) rfl rfl Try.func35 (by kernel_rfl) rfl #[.int .i64 a0,.slice A1 l1.length c1,.slice A2 l2.length c2,.slice A3 l3.length c3] rfl qm_ ?_;(with_reducible refine (spec_l5Link.calls k a0 _ _ l1 _ _ l2 _ _ l3 true _ ?side1 ?side2 ?side3 ?side4 ?side5 ?side6 A6.out).mono ?_);(case side1 => exact qn_ HR1 HB);(case side2 => exact HC1.out);(case side3 => exact qn_ HR2 HB);(case side4 => exact HC2.out);(case side5 => exact qn_ HR3 HB);(case side6 => exact HC3.out);rintro e w' ⟨rfl,⟨nd,rfl⟩⟩;refine ⟨_,rfl,?_⟩;(try (rw [drewN_self w15];generalize hq_ : World.drewN w15 _ = w15;have n0_ : Aside0 (w15.heap[gb397]? = some (.cells #[.slice none 0 0,.int .i64 0,.int .i64 0,.bool false] 28 (0,0))):=⟨by rw [← hq_];exact (qk_ BK397)⟩;have n1_ : Aside0 (Below w.heap.size w w15):=⟨by rw [← hq_];exact (qc_ HB GE397)⟩;clear BK397 HB hq_;have BK397:=n0_;have HB:=n1_;clear n0_ n1_)))|(go_at_call 36;(with_reducible refine (spec_l1In.calls a4 0 400 false _ A8.out).mono ?_);rintro e w' ⟨rfl,⟨nd,rfl⟩⟩;(try (rw [drewN_self w15];generalize hq_ : World.drewN w15 _ = w15;have n0_ : Aside0 (w15.heap[gb397]? = some (.cells #[.slice none 0 0,.int .i64 0,.int .i64 0,.bool false] 28 (0,0))):=⟨by rw [← hq_];exact (qk_ BK397)⟩;have n1_ : Aside0 (Below w.heap.size w w15):=⟨by rw [← hq_];exact (qc_ HB GE397)⟩;clear BK397 HB hq_;have BK397:=n0_;have HB:=n1_;clear n0_ n1_));have hcz16_0 : w15.cell? ⟨gb397,0,none⟩ = some (.slice none 0 0):=(bc_ BK397.out 0).trans rfl;have hcz16_1 : w15.cell? ⟨gb397,1,none⟩ = some (.int .i64 0):=(bc_ BK397.out 1).trans rfl;have hcz16_2 : w15.cell? ⟨gb397,2,none⟩ = some (.int .i64 0):=(bc_ BK397.out 2).trans rfl;have hcz16_3 : w15.cell? ⟨gb397,3,none⟩ = some (.bool false):=(bc_ BK397.out 3).trans rfl;have hfz16_0:=bf_ BK397.out 0;have hfz16_1:=bf_ BK397.out 1;have hfz16_2:=bf_ BK397.out 2;have hfz16_3:=bf_ BK397.out 3))
   refine bodyPost_ret (results_ct rfl _ _ gb397 28 #[.slice none 0 0,.int .i64 0,.int .i64 0,.bool false] (0,0) _ rfl (by (with_reducible repeat (first|apply kn_|apply kd_|apply ka_));refine blk_put (cs:=#[.slice none 0 0,.int .i64 0,.int .i64 0,.bool false]) ?_ 3 _ rfl;(with_reducible repeat (first|apply kn_|apply kd_|apply ka_));refine blk_put (cs:=#[.slice none 0 0,.int .i64 0,.int .i64 0,.bool false]) ?_ 2 _ rfl;(with_reducible repeat (first|apply kn_|apply kd_|apply ka_));refine blk_put (cs:=#[.slice none 0 0,.int .i64 0,.int .i64 0,.bool false]) ?_ 1 _ rfl;(with_reducible repeat (first|apply kn_|apply kd_|apply ka_));refine blk_put (cs:=#[.slice none 0 0,.int .i64 0,.int .i64 0,.bool false]) ?_ 0 _ rfl;(with_reducible repeat (first|apply kn_|apply kd_|apply ka_));exact BK397.out) Try.underlying28 rfl (by kernel_rfl)) rfl ?_
   exact ⟨_,qe_,by first|exact Kd.S_nil _ _ _ _ _|exact Kd.N_nil _ _ _ _ _|exact Kd.V_nil _ _ _ _ _|exact Kd.Q_nil _ _ _ _ _|exact Kd.R_nil _ _ _ _ _,u1_ HB GE397⟩
 ·replace c7:=Bool.eq_false_iff.mpr c7
  subst c7
  have H1 : (some (([] : List (List Int)),0,0,false,false)) = some (r1,r2,r3,r4,r5):=by rw [if_neg (show ¬ (false = true) by decide)] at H;exact H
  clear H
  have H:=H1
  clear H1
  simp only [Option.some.injEq,Prod.mk.injEq] at H
  obtain ⟨rfl,rfl,rfl,rfl,rfl⟩:=H
  go_enter Try.func11,Try.ntmps11
  go_wp2_with (first|((with_reducible refine gate_dst (N:=10) rfl ?_);refine box_event ?hg (N:=10) ?hd (cs:=#[.slice none 0 0,.int .i64 0,.int .i64 0,.bool false]) (t:=28) ?hr ?_;(case hd => rfl);(case hg => rfl);(case hr => first|(go_simp;done)|(go_simp;rfl));intro gb397 hg w17 hbox hb;have n0_:=mk_ (st_ (qb_ HB) hb);have n1_:=mk_ (hbox);have n2_:=mk_ ((by rw [hg];exact (bz_ (qb_ HB)) : w.heap.size ≤ gb397));have n3_:=mk_ ((by rw [hg];exact (bz_ (qb_ HB)) : w.heap.size ≤ gb397));clear HB;have HB:=n0_;have BK397:=n1_;have GW397:=n2_;have GE397:=n3_;clear n0_ n1_ n2_ n3_ hb hbox hg)|((with_reducible refine gate_callee (f:=35) rfl ?_);refine goesL_ (some 16) rfl rfl Try.func35 (by kernel_rfl) rfl #[.int .i64 a0,.slice A1 l1.length c1,.slice A2 l2.length c2,.slice A3 l3.length c3] rfl qm_ ?_;(with_reducible refine (spec_l5Link.calls k a0 _ _ l1 _ _ l2 _ _ l3 false _ ?side1 ?side2 ?side3 ?side4 ?side5 ?side6 A6.out).mono ?_);(case side1 => exact qn_ HR1 HB);(case side2 => exact HC1.out);(case side3 => exact qn_ HR2 HB);(case side4 => exact HC2.out);(case side5 => exact qn_ HR3 HB);(case side6 => exact HC3.out);rintro e w' ⟨rfl,⟨nd,rfl⟩⟩;refine ⟨_,rfl,?_⟩;(try (rw [drewN_self w17];generalize hq_ : World.drewN w17 _ = w17;have n0_ : Aside0 (w17.heap[gb397]? = some (.cells #[.slice none 0 0,.int .i64 0,.int .i64 0,.bool false] 28 (0,0))):=⟨by rw [← hq_];exact (qk_ BK397)⟩;have n1_ : Aside0 (Below w.heap.size w w17):=⟨by rw [← hq_];exact (qc_ HB GE397)⟩;clear BK397 HB hq_;have BK397:=n0_;have HB:=n1_;clear n0_ n1_));have hcz18_0 : w17.cell? ⟨gb397,0,none⟩ = some (.slice none 0 0):=(bc_ BK397.out 0).trans rfl;have hcz18_1 : w17.cell? ⟨gb397,1,none⟩ = some (.int .i64 0):=(bc_ BK397.out 1).trans rfl;have hcz18_2 : w17.cell? ⟨gb397,2,none⟩ = some (.int .i64 0):=(bc_ BK397.out 2).trans rfl;have hcz18_3 : w17.cell? ⟨gb397,3,none⟩ = some (.bool false):=(bc_ BK397.out 3).trans rfl;have hfz18_0:=bf_ BK397.out 0;have hfz18_1:=bf_ BK397.out 1;have hfz18_2:=bf_ BK397.out 2;have hfz18_3:=bf_ BK397.out 3))
  refine bodyPost_ret (results_ct rfl _ _ gb397 28 #[.slice none 0 0,.int .i64 0,.int .i64 0,.bool false] (0,0) _ rfl (by (with_reducible repeat (first|apply kn_|apply kd_|apply ka_));refine blk_put (cs:=#[.slice none 0 0,.int .i64 0,.int .i64 0,.bool false]) ?_ 3 _ rfl;(with_reducible repeat (first|apply kn_|apply kd_|apply ka_));refine blk_put (cs:=#[.slice none 0 0,.int .i64 0,.int .i64 0,.bool false]) ?_ 2 _ rfl;(with_reducible repeat (first|apply kn_|apply kd_|apply ka_));refine blk_put (cs:=#[.slice none 0 0,.int .i64 0,.int .i64 0,.bool false]) ?_ 1 _ rfl;(with_reducible repeat (first|apply kn_|apply kd_|apply ka_));refine blk_put (cs:=#[.slice none 0 0,.int .i64 0,.int .i64 0,.bool false]) ?_ 0 _ rfl;(with_reducible repeat (first|apply kn_|apply kd_|apply ka_));exact BK397.out) Try.underlying28 rfl (by kernel_rfl)) rfl ?_
  exact ⟨_,qe_,by first|exact Kd.S_nil _ _ _ _ _|exact Kd.N_nil _ _ _ _ _|exact Kd.V_nil _ _ _ _ _|exact Kd.Q_nil _ _ _ _ _|exact Kd.R_nil _ _ _ _ _,u1_ HB GE397⟩

/-! ### laws_szByteS: function 38 -/
def laws_szByteS.f (l0 : List Int) (a1 : Int) : Option (Int):=if (wrap64 (a1 - (l0.length : Int))) < 0 then (some (-1)) else (some (wrap64 (a1 - (l0.length : Int))))
set_option maxHeartbeats 8000000 in
set_option maxRecDepth 100000 in
theorem laws_szByteS.calls (A0 : Option Addr) (c0 : Nat) (l0 : List Int) (a1 : Int) (r : Int) (w : World) (hr0 : Kd.C (Kd.int .u8) w A0 l0.length l0) (hc0 : l0.length ≤ c0) (h : laws_szByteS.f l0 a1 = some r) :
  Calls Try.prog 38 #[.slice A0 l0.length c0,.int .i64 a1] w fun e w' => e = .returned (.int .i64 r) ∧ Drawn0 w w':=by
 have HR0:=mk_ hr0
 have HC0:=mk_ hc0
 clear hr0 hc0
 have H : (if (wrap64 (a1 - (l0.length : Int))) < 0 then (some (-1)) else (some (wrap64 (a1 - (l0.length : Int))))) = some r:=h
 clear h
 by_cases c3 : (wrap64 (a1 - (l0.length : Int))) < 0
 ·rw [if_pos c3] at H
  have c3b0 : decide ((wrap64 (a1 - (l0.length : Int))) < 0) = true:=decide_eq_true c3
  clear c3
  obtain rfl:=Option.some.inj H
  go_enter Try.func38,Try.ntmps38
  go_wp2
  go_ret
  exact ⟨by first|rfl|(simp;done)|(simp [*];done),by repeat (first|exact Drawn0.refl _|apply Drawn0.step)⟩
 ·rw [if_neg c3] at H
  have c3b0 : decide ((wrap64 (a1 - (l0.length : Int))) < 0) = false:=decide_eq_false c3
  clear c3
  obtain rfl:=Option.some.inj H
  go_enter Try.func38,Try.ntmps38
  go_wp2
  go_ret
  exact ⟨by first|rfl|(simp;done)|(simp [*];done),by repeat (first|exact Drawn0.refl _|apply Drawn0.step)⟩

/-! ### laws_szByteSS: function 12 -/
def laws_szByteSS.l0 : Nat → List (List Int) → Int → Int → Option (Int)
 | 0,_,_,_ => none
 | k + 1,x0,x1,x5 => if x5 < (x0.length : Int) then (if 0 ≤ x5 then ((laws_szByteS.f (rd_L4 x0 x5) x1).bind fun t407 => (if t407 < 0 then (some (-1)) else (laws_szByteSS.l0 k x0 t407 (wrap64 (x5 + 1))))) else (none)) else (some x1)
def laws_szByteSS.f (k : Nat) (l0 : List (List Int)) (a1 : Int) : Option (Int):=if (wrap64 (a1 - (l0.length : Int))) < 0 then (some (-1)) else (laws_szByteSS.l0 k l0 (wrap64 (a1 - (l0.length : Int))) 0)
theorem laws_szByteSS.mono_l : ∀ k,(∀ y0 y1 y2,LeO (laws_szByteSS.l0 k y0 y1 y2) (laws_szByteSS.l0 (k + 1) y0 y1 y2))
 | 0 => fun _ _ _ r h => by simp [laws_szByteSS.l0] at h
 | k + 1 => by
  have ih0:=laws_szByteSS.mono_l k
  ·intro y0 y1 y2
   unfold laws_szByteSS.l0
   repeat' first
   | (with_reducible exact ih0 _ _ _)
   | (with_reducible exact LeO.refl _)
   | (with_reducible exact LeO.none _)
   | (with_reducible refine LeO.ite ?_ ?_)
   | (with_reducible refine LeO.bind ?_ (fun _ => ?_))
   | exact ih0 _ _ _
   | exact LeO.none _
   | refine LeO.ite ?_ ?_
   | refine LeO.bind ?_ (fun _ => ?_)
theorem laws_szByteSS.mono : ∀ a0 a1 k,LeO (laws_szByteSS.f k a0 a1) (laws_szByteSS.f (k + 1) a0 a1):=by
 intro a0 a1 k
 have ih0:=laws_szByteSS.mono_l k
 unfold laws_szByteSS.f
 repeat' first
   | (with_reducible exact ih0 _ _ _)
   | (with_reducible exact LeO.refl _)
   | (with_reducible exact LeO.none _)
   | (with_reducible refine LeO.ite ?_ ?_)
   | (with_reducible refine LeO.bind ?_ (fun _ => ?_))
   | exact ih0 _ _ _
   | exact LeO.none _
   | refine LeO.ite ?_ ?_
   | refine LeO.bind ?_ (fun _ => ?_)
set_option maxHeartbeats 8000000 in
set_option maxRecDepth 100000 in
theorem laws_szByteSS.calls (k : Nat) (A0 : Option Addr) (c0 : Nat) (l0 : List (List Int)) (a1 : Int) (r : Int) (w : World) (hr0 : Kd.C (Kd.slice 5 (Kd.int .u8)) w A0 l0.length l0) (hc0 : l0.length ≤ c0) (h : laws_szByteSS.f k l0 a1 = some r) :
  Calls Try.prog 12 #[.slice A0 l0.length c0,.int .i64 a1] w fun e w' => e = .returned (.int .i64 r) ∧ Drawn0 w w':=by
 have HR0:=mk_ hr0
 have HC0:=mk_ hc0
 clear hr0 hc0
 have H : (if (wrap64 (a1 - (l0.length : Int))) < 0 then (some (-1)) else (laws_szByteSS.l0 k l0 (wrap64 (a1 - (l0.length : Int))) 0)) = some r:=h
 clear h
 by_cases c3 : (wrap64 (a1 - (l0.length : Int))) < 0
 ·rw [if_pos c3] at H
  have c3b0 : decide ((wrap64 (a1 - (l0.length : Int))) < 0) = true:=decide_eq_true c3
  clear c3
  obtain rfl:=Option.some.inj H
  go_enter Try.func12,Try.ntmps12
  go_wp2
  go_ret
  exact ⟨by first|rfl|(simp;done)|(simp [*];done),by repeat (first|exact Drawn0.refl _|apply Drawn0.step)⟩
 ·rw [if_neg c3] at H
  have c3b0 : decide ((wrap64 (a1 - (l0.length : Int))) < 0) = false:=decide_eq_false c3
  clear c3
  have H':=mk_ H
  clear H
  go_enter Try.func12,Try.ntmps12
  go_wp2
  go_loopg [1,5] k (fun kq v1 v5 w' => ∃ (x1_1 : Int) (x5_1 : Int),v1 = .int .i64 x1_1 ∧ v5 = .int .i64 x5_1 ∧ Aside0 (laws_szByteSS.l0 kq l0 x1_1 x5_1 = some r) ∧ Aside0 (kq ≤ k) ∧ Drawn0 w w')
  case atStart => exact ⟨(wrap64 (a1 - (l0.length : Int))),(0),qf_,qf_,H',⟨Nat.le_refl _⟩,by repeat (first|exact Drawn0.refl _|apply Drawn0.step)⟩
  case round =>
   clear H'
   try clear c1
   try clear p2
   try clear c3
   try clear c3b0
   obtain ⟨x1_1,x5_1,rfl,rfl,HA,HK1,⟨m1,rfl⟩⟩:=hrel
   cases gk with
   | zero => exact absurd HA.out (by simp [laws_szByteSS.l0])
   | succ k1 =>
    have H:=HA.out
    clear HA
    simp only [laws_szByteSS.l0] at H
    by_cases c4 : x5_1 < (l0.length : Int)
    ·rw [if_pos c4] at H
     have c4b0 : decide (x5_1 < (l0.length : Int)) = true:=decide_eq_true c4
     clear c4
     by_cases c5 : 0 ≤ x5_1
     ·rw [if_pos c5] at H
      have c5b0 : decide (0 ≤ x5_1) = true:=decide_eq_true c5
      clear c5
      replace H:=Option.bind_eq_some_iff.mp H
      obtain ⟨t407,A60,H⟩:=H
      replace H : (if t407 < 0 then (some (-1)) else (laws_szByteSS.l0 k1 l0 t407 (wrap64 (x5_1 + 1)))) = some r:=H
      have A6:=mk_ A60
      clear A60
      by_cases c7 : t407 < 0
      ·rw [if_pos c7] at H
       have c7b0 : decide (t407 < 0) = true:=decide_eq_true c7
       clear c7
       obtain rfl:=Option.some.inj H
       have p406 : 0 ≤ (x5_1 : Int):=od_ qa_
       have q406 : x5_1 < (l0.length : Int):=od_ qa_
       obtain ⟨ad406,A406_0,c406_0,e406,hx406_0,hl406_0,hi406_0⟩:=at_L4 HR0.out x5_1 p406 q406
       cases e406
       have HR406_0:=mk_ hi406_0
       have HC406_0:=mk_ hl406_0
       clear hi406_0 hl406_0
       replace p406:=eq_true p406
       replace q406:=eq_true q406
       go_wp2_with (first|((with_reducible refine gate_callee (f:=38) rfl ?_);refine goesL_ (some 23) rfl rfl Try.func38 (by kernel_rfl) rfl #[.slice A406_0 (rd_L4 l0 x5_1).length c406_0,.int .i64 x1_1] rfl qm_ ?_;(with_reducible refine (laws_szByteS.calls _ _ (rd_L4 l0 x5_1) x1_1 t407 _ ?side1 ?side2 A6.out).mono ?_);(case side1 => repeat (first|exact HR406_0.out|(with_reducible refine ca_ ?_ _)|(with_reducible refine cn_ ?_ _)|(with_reducible refine cd_ ?_)));(case side2 => exact HC406_0.out);rintro e w' ⟨rfl,⟨nd,rfl⟩⟩;refine ⟨_,rfl,?_⟩))
       go_ret
       exact ⟨by first|rfl|(simp;done)|(simp [*];done),by repeat (first|exact Drawn0.refl _|apply Drawn0.step)⟩
      ·rw [if_neg c7] at H
       have c7b0 : decide (t407 < 0) = false:=decide_eq_false c7
       clear c7
       have H':=mk_ H
       clear H
       have p406 : 0 ≤ (x5_1 : Int):=od_ qa_
       have q406 : x5_1 < (l0.length : Int):=od_ qa_
       obtain ⟨ad406,A406_0,c406_0,e406,hx406_0,hl406_0,hi406_0⟩:=at_L4 HR0.out x5_1 p406 q406
       cases e406
       have HR406_0:=mk_ hi406_0
       have HC406_0:=mk_ hl406_0
       clear hi406_0 hl406_0
       replace p406:=eq_true p406
       replace q406:=eq_true q406
       go_wp2_with (first|((with_reducible refine gate_callee (f:=38) rfl ?_);refine goesL_ (some 23) rfl rfl Try.func38 (by kernel_rfl) rfl #[.slice A406_0 (rd_L4 l0 x5_1).length c406_0,.int .i64 x1_1] rfl qm_ ?_;(with_reducible refine (laws_szByteS.calls _ _ (rd_L4 l0 x5_1) x1_1 t407 _ ?side1 ?side2 A6.out).mono ?_);(case side1 => repeat (first|exact HR406_0.out|(with_reducible refine ca_ ?_ _)|(with_reducible refine cn_ ?_ _)|(with_reducible refine cd_ ?_)));(case side2 => exact HC406_0.out);rintro e w' ⟨rfl,⟨nd,rfl⟩⟩;refine ⟨_,rfl,?_⟩))
       go_roundg k1
       case measure => have:=HK1.out;omega
       case rel => exact ⟨(t407),(wrap64 (x5_1 + 1)),qf_,qf_,H',⟨by have:=HK1.out;omega⟩,by repeat (first|exact Drawn0.refl _|apply Drawn0.step)⟩
     ·rw [if_neg c5] at H
      exact absurd H (by simp)
    ·rw [if_neg c4] at H
     have c4b0 : decide (x5_1 < (l0.length : Int)) = false:=decide_eq_false c4
     clear c4
     obtain rfl:=Option.some.inj H
     go_wp2
     go_ret
     exact ⟨by first|rfl|(simp;done)|(simp [*];done),by repeat (first|exact Drawn0.refl _|apply Drawn0.step)⟩

/-! ### laws_toByteS: function 39 -/
def laws_toByteS.l0 : Nat → List Int → List Int → Int → Option (List Int)
 | 0,_,_,_ => none
 | k + 1,x0,x3,x4 => if x4 < (x0.length : Int) then (if 0 ≤ x4 then (if x4 < (x3.length : Int) then (laws_toByteS.l0 k x0 (x3.set (x4 : Int).toNat (rd x0 x4)) (wrap64 (x4 + 1))) else (none)) else (none)) else (some x3)
def laws_toByteS.f (k : Nat) (l0 : List Int) : Option (List Int):=if 0 ≤ (l0.length : Int) then (if ((l0.length : Int) : Int).toNat ≤ 281474976710656 then (laws_toByteS.l0 k l0 (List.replicate ((l0.length : Int) : Int).toNat 0) 0) else (none)) else (none)
theorem laws_toByteS.mono_l : ∀ k,(∀ y0 y1 y2,LeO (laws_toByteS.l0 k y0 y1 y2) (laws_toByteS.l0 (k + 1) y0 y1 y2))
 | 0 => fun _ _ _ r h => by simp [laws_toByteS.l0] at h
 | k + 1 => by
  have ih0:=laws_toByteS.mono_l k
  ·intro y0 y1 y2
   unfold laws_toByteS.l0
   repeat' first
   | (with_reducible exact ih0 _ _ _)
   | (with_reducible exact LeO.refl _)
   | (with_reducible exact LeO.none _)
   | (with_reducible refine LeO.ite ?_ ?_)
   | (with_reducible refine LeO.bind ?_ (fun _ => ?_))
   | exact ih0 _ _ _
   | exact LeO.none _
   | refine LeO.ite ?_ ?_
   | refine LeO.bind ?_ (fun _ => ?_)
theorem laws_toByteS.mono : ∀ a0 k,LeO (laws_toByteS.f k a0) (laws_toByteS.f (k + 1) a0):=by
 intro a0 k
 have ih0:=laws_toByteS.mono_l k
 unfold laws_toByteS.f
 repeat' first
   | (with_reducible exact ih0 _ _ _)
   | (with_reducible exact LeO.refl _)
   | (with_reducible exact LeO.none _)
   | (with_reducible refine LeO.ite ?_ ?_)
   | (with_reducible refine LeO.bind ?_ (fun _ => ?_))
   | exact ih0 _ _ _
   | exact LeO.none _
   | refine LeO.ite ?_ ?_
   | refine LeO.bind ?_ (fun _ => ?_)
set_option maxHeartbeats 8000000 in
set_option maxRecDepth 100000 in
theorem laws_toByteS.calls (k : Nat) (A0 : Option Addr) (c0 : Nat) (l0 : List Int) (r : List Int) (w : World) (hr0 : Kd.C (Kd.int .u8) w A0 l0.length l0) (hc0 : l0.length ≤ c0) (h : laws_toByteS.f k l0 = some r) :
  Calls Try.prog 39 #[.slice A0 l0.length c0] w fun e w' => ∃ v0_ : Value,e = .returned (v0_) ∧ Kd.R (Kd.int .u8) 5 w' w.heap.size (fun _ => True) v0_ r ∧ Below w.heap.size w w':=by
 have HR0:=mk_ hr0
 have HC0:=mk_ hc0
 clear hr0 hc0
 have HB:=mk_ (Below.refl w.heap.size w)
 have H : (if 0 ≤ (l0.length : Int) then (if ((l0.length : Int) : Int).toNat ≤ 281474976710656 then (laws_toByteS.l0 k l0 (List.replicate ((l0.length : Int) : Int).toNat 0) 0) else (none)) else (none)) = some r:=h
 clear h
 by_cases c2 : 0 ≤ (l0.length : Int)
 ·rw [if_pos c2] at H
  have c2b0:=eq_true c2
  have c2b1 : decide (0 ≤ (l0.length : Int)) = true:=decide_eq_true c2
  clear c2
  by_cases c3 : ((l0.length : Int) : Int).toNat ≤ 281474976710656
  ·rw [if_pos c3] at H
   have c3b0:=eq_true c3
   have c3b1 : decide (((l0.length : Int) : Int).toNat ≤ 281474976710656) = true:=decide_eq_true c3
   clear c3
   obtain ⟨y408,hy408⟩ : ∃ y_ : List Int,y_ = (List.replicate ((l0.length : Int) : Int).toNat 0):=⟨_,rfl⟩
   replace H : (laws_toByteS.l0 k l0 y408 0) = some r:=by first|(rw [hy408];with_reducible exact H)|(have H2_:=(Option.bind_some _ _).symm.trans H;rw [hy408];with_reducible exact H2_)|(have H2_:=(Option.bind_some _ _).symm.trans H;with_reducible exact H2_)|with_reducible exact H|(rw [hy408];exact H)|exact H
   have Ny408:=mk_ hy408
   clear hy408
   have H':=mk_ H
   clear H
   go_enter Try.func39,Try.ntmps39
   go_wp2_with (first|((with_reducible refine gate_dst (N:=7) rfl ?_);refine Kd.R_make (Kd.int .u8) _ 5 rfl (N:=7) rfl 22 _ _ rfl (l0.length : Int) rfl rfl Try.underlying22 (.int .u8 0) 1 info5 rfl (by decide) (by omega) 0 (ok:=fun _ => True) (okp:=fun _ => True) rfl (fun _ hk => hk) trivial (od_ qa_) (Nat.le_trans (Nat.mul_le_mul_right _ (od_ qa_ : (l0.length : Int).toNat ≤ 281474976710656)) (by omega)) (Below.refl _ _) (Nat.le_refl _) ?_;intro v409 w4 ho5 hb hg_ hnew_;clear hg_ hnew_;(first|rw [← Ny408.out] at ho5|(simp only [Int.reduceToNat] at ho5;rw [← Ny408.out] at ho5));have n0_:=mk_ (Kd.R_lower ho5 (bz_ (qb_ HB)));have n1_:=mk_ (st_ (qb_ HB) hb);clear HB;have HO410:=n0_;have HB:=n1_;clear n0_ n1_ hb ho5))
   go_loopg [4] k (fun kq v4 w' => ∃ (x3_1 : List Int) (x4_1 : Int),v4 = .int .i64 x4_1 ∧ Aside0 (laws_toByteS.l0 kq l0 x3_1 x4_1 = some r) ∧ Aside0 (kq ≤ k) ∧ Aside0 (Kd.R (Kd.int .u8) 5 w' w.heap.size (fun _ => True) v409 x3_1) ∧ Aside0 (Below w.heap.size w w'))
   case atStart => exact ⟨(y408),(0),qf_,H',⟨Nat.le_refl _⟩,⟨qr_ HO410⟩,⟨u0_ HB⟩⟩
   case round =>
    clear H'
    try clear c2
    try clear c2b0
    try clear c2b1
    try clear p2
    try clear c3
    try clear c3b0
    try clear c3b1
    obtain ⟨x3_1,x4_1,rfl,HA,HK1,HO_3,HB⟩:=hrel
    cases gk with
    | zero => exact absurd HA.out (by simp [laws_toByteS.l0])
    | succ k1 =>
     have H:=HA.out
     clear HA
     simp only [laws_toByteS.l0] at H
     by_cases c6 : x4_1 < (l0.length : Int)
     ·rw [if_pos c6] at H
      have c6b0 : decide (x4_1 < (l0.length : Int)) = true:=decide_eq_true c6
      clear c6
      by_cases c7 : 0 ≤ x4_1
      ·rw [if_pos c7] at H
       have c7b0 : decide (0 ≤ x4_1) = true:=decide_eq_true c7
       clear c7
       by_cases c8 : x4_1 < (x3_1.length : Int)
       ·rw [if_pos c8] at H
        have c8b0 : decide (x4_1 < (x3_1.length : Int)) = true:=decide_eq_true c8
        clear c8
        obtain ⟨y412,hy412⟩ : ∃ y_ : List Int,y_ = (x3_1.set (x4_1 : Int).toNat (rd l0 x4_1)):=⟨_,rfl⟩
        replace H : (laws_toByteS.l0 k1 l0 y412 (wrap64 (x4_1 + 1))) = some r:=by first|(rw [hy412];with_reducible exact H)|(have H2_:=(Option.bind_some _ _).symm.trans H;rw [hy412];with_reducible exact H2_)|(have H2_:=(Option.bind_some _ _).symm.trans H;with_reducible exact H2_)|with_reducible exact H|(rw [hy412];exact H)|exact H
        have Ny412:=mk_ hy412
        clear hy412
        have H':=mk_ H
        clear H
        have p411 : 0 ≤ (x4_1 : Int):=od_ qa_
        have q411 : x4_1 < (l0.length : Int):=od_ qa_
        obtain ⟨ad411,e411,hx411_0⟩:=Kd.at_int HR0.out x4_1 p411 q411
        cases e411
        replace hx411_0:=(HB.out.cell (wl_ w _ hx411_0)).trans hx411_0
        replace p411:=eq_true p411
        replace q411:=eq_true q411
        have p9 : 0 ≤ (x4_1 : Int):=od_ qa_
        have q9 : (x4_1 : Int) < ((x3_1.length : Int) : Int):=od_ qa_
        obtain ⟨go9,co9,eo9,gb9,gl9,cl9,HG9⟩:=Kd.R_form HO_3.out (by omega)
        (first|cases eo9|(injection eo9 with ea_ en_ ec_;(first|subst ea_|(injection ea_ with ea_;subst ea_));subst ec_;clear en_))
        have GB9:=mk_ gb9
        have GG9:=mk_ HG9
        clear gb9 gl9 HG9
        obtain ⟨hx9_0,hf9_0⟩:=Kd.R_celln 0 HO_3.out (x4_1 : Int) p9 q9
        replace p9:=eq_true p9
        replace q9:=eq_true q9
        have HP10:=Kd.R_putg HO_3.out (x4_1 : Int) (rd l0 x4_1)
        go_wp2_with (first|((with_reducible refine gate_store (t:=5) (p:=20) rfl ?_);refine store_event (t:=5) (p:=20) (v:=?vo_w11) (w1:=(wr.setCell ⟨go9,(x4_1 : Int).toNat,none⟩ (.int .u8 (rd l0 x4_1)))) ?hg ?ho ?hn ?hr ?_;(case ho => rfl);(case hg => rfl);(case hn => rfl);(case hr => first|(go_simp;done)|(go_simp;rfl));intro w11 hw;have hg : wr.grownBy w11 (some go9):=(by rw [hw];exact HP10.2);have hp_ : Kd.R (Kd.int .u8) 5 w11 w.heap.size (fun _ => True) (.slice (some ⟨go9,0,none⟩) x3_1.length co9) y412:=(by rw [hw,Ny412.out];exact HP10.1);clear HP10;have n0_:=mk_ (hp_);have n1_:=mk_ ((by rw [hw];exact bs_ (HB.out) GB9.out : Below w.heap.size w w11));clear HO_3 HB;have HO_3:=n0_;have HB:=n1_;clear n0_ n1_ hg hw hp_))
        go_roundg k1
        case measure => have:=HK1.out;omega
        case rel => exact ⟨(y412),(wrap64 (x4_1 + 1)),qf_,H',⟨by have:=HK1.out;omega⟩,⟨qr_ HO_3⟩,⟨u0_ HB⟩⟩
       ·rw [if_neg c8] at H
        exact absurd H (by simp)
      ·rw [if_neg c7] at H
       exact absurd H (by simp)
     ·rw [if_neg c6] at H
      have c6b0 : decide (x4_1 < (l0.length : Int)) = false:=decide_eq_false c6
      clear c6
      obtain rfl:=Option.some.inj H
      go_wp2
      go_ret
      exact ⟨_,qe_,qr_ HO_3,u0_ HB⟩
  ·rw [if_neg c3] at H
   exact absurd H (by simp)
 ·rw [if_neg c2] at H
  exact absurd H (by simp)

/-! ### laws_toByteSS: function 14 -/
def laws_toByteSS.l0 : Nat → List (List Int) → List (List Int) → Int → Option ((List (List Int)))
 | 0,_,_,_ => none
 | k + 1,x0,x3,x4 => if x4 < (x0.length : Int) then (if 0 ≤ x4 then ((laws_toByteS.f k (rd_L4 x0 x4)).bind fun t417 => (if x4 < (x3.length : Int) then (laws_toByteSS.l0 k x0 (x3.set (x4 : Int).toNat t417) (wrap64 (x4 + 1))) else (none))) else (none)) else (some x3)
def laws_toByteSS.f (k : Nat) (l0 : List (List Int)) : Option ((List (List Int))):=if 0 ≤ (l0.length : Int) then (if ((l0.length : Int) : Int).toNat ≤ 11728124029610 then (laws_toByteSS.l0 k l0 (List.replicate ((l0.length : Int) : Int).toNat []) 0) else (none)) else (none)
theorem laws_toByteSS.mono_l : ∀ k,(∀ y0 y1 y2,LeO (laws_toByteSS.l0 k y0 y1 y2) (laws_toByteSS.l0 (k + 1) y0 y1 y2))
 | 0 => fun _ _ _ r h => by simp [laws_toByteSS.l0] at h
 | k + 1 => by
  have ih0:=laws_toByteSS.mono_l k
  ·intro y0 y1 y2
   unfold laws_toByteSS.l0
   repeat' first
   | (with_reducible exact ih0 _ _ _)
   | (with_reducible exact laws_toByteS.mono _ _)
   | (with_reducible exact LeO.refl _)
   | (with_reducible exact LeO.none _)
   | (with_reducible refine LeO.ite ?_ ?_)
   | (with_reducible refine LeO.bind ?_ (fun _ => ?_))
   | exact ih0 _ _ _
   | exact laws_toByteS.mono _ _
   | exact LeO.none _
   | refine LeO.ite ?_ ?_
   | refine LeO.bind ?_ (fun _ => ?_)
theorem laws_toByteSS.mono : ∀ a0 k,LeO (laws_toByteSS.f k a0) (laws_toByteSS.f (k + 1) a0):=by
 intro a0 k
 have ih0:=laws_toByteSS.mono_l k
 unfold laws_toByteSS.f
 repeat' first
   | (with_reducible exact ih0 _ _ _)
   | (with_reducible exact laws_toByteS.mono _ _)
   | (with_reducible exact LeO.refl _)
   | (with_reducible exact LeO.none _)
   | (with_reducible refine LeO.ite ?_ ?_)
   | (with_reducible refine LeO.bind ?_ (fun _ => ?_))
   | exact ih0 _ _ _
   | exact laws_toByteS.mono _ _
   | exact LeO.none _
   | refine LeO.ite ?_ ?_
   | refine LeO.bind ?_ (fun _ => ?_)
set_option maxHeartbeats 8000000 in
set_option maxRecDepth 100000 in
theorem laws_toByteSS.calls (k : Nat) (A0 : Option Addr) (c0 : Nat) (l0 : List (List Int)) (r : List (List Int)) (w : World) (hr0 : Kd.C (Kd.slice 5 (Kd.int .u8)) w A0 l0.length l0) (hc0 : l0.length ≤ c0) (h : laws_toByteSS.f k l0 = some r) :
  Calls Try.prog 14 #[.slice A0 l0.length c0] w fun e w' => ∃ v0_ : Value,e = .returned (v0_) ∧ Kd.S (Kd.slice 5 (Kd.int .u8)) 22 w' w.heap.size (fun _ => True) v0_ r ∧ Below w.heap.size w w':=by
 have HR0:=mk_ hr0
 have HC0:=mk_ hc0
 clear hr0 hc0
 have HB:=mk_ (Below.refl w.heap.size w)
 have H : (if 0 ≤ (l0.length : Int) then (if ((l0.length : Int) : Int).toNat ≤ 11728124029610 then (laws_toByteSS.l0 k l0 (List.replicate ((l0.length : Int) : Int).toNat []) 0) else (none)) else (none)) = some r:=h
 clear h
 by_cases c2 : 0 ≤ (l0.length : Int)
 ·rw [if_pos c2] at H
  have c2b0:=eq_true c2
  have c2b1 : decide (0 ≤ (l0.length : Int)) = true:=decide_eq_true c2
  clear c2
  by_cases c3 : ((l0.length : Int) : Int).toNat ≤ 11728124029610
  ·rw [if_pos c3] at H
   have c3b0:=eq_true c3
   have c3b1 : decide (((l0.length : Int) : Int).toNat ≤ 11728124029610) = true:=decide_eq_true c3
   clear c3
   obtain ⟨y413,hy413⟩ : ∃ y_ : List (List Int),y_ = (List.replicate ((l0.length : Int) : Int).toNat []):=⟨_,rfl⟩
   replace H : (laws_toByteSS.l0 k l0 y413 0) = some r:=by first|(rw [hy413];with_reducible exact H)|(have H2_:=(Option.bind_some _ _).symm.trans H;rw [hy413];with_reducible exact H2_)|(have H2_:=(Option.bind_some _ _).symm.trans H;with_reducible exact H2_)|with_reducible exact H|(rw [hy413];exact H)|exact H
   have Ny413:=mk_ hy413
   clear hy413
   have H':=mk_ H
   clear H
   go_enter Try.func14,Try.ntmps14
   go_wp2_with (first|((with_reducible refine gate_dst (N:=7) rfl ?_);refine Kd.S_make (Kd.slice 5 (Kd.int .u8)) _ 22 rfl (N:=7) rfl 23 _ _ rfl (l0.length : Int) rfl rfl Try.underlying23 (.slice none 0 0) 24 info22 rfl (by decide) (by omega) [] (ok:=fun _ => True) (okp:=fun _ => True) ⟨_,rfl,Kd.R_nil _ _ _ _ _⟩ (fun _ hk => hk) trivial (od_ qa_) (Nat.le_trans (Nat.mul_le_mul_right _ (od_ qa_ : (l0.length : Int).toNat ≤ 11728124029610)) (by omega)) (Below.refl _ _) (Nat.le_refl _) ?_;intro v414 w4 ho5 hb hg_ hnew_;clear hg_ hnew_;(first|rw [← Ny413.out] at ho5|(simp only [Int.reduceToNat] at ho5;rw [← Ny413.out] at ho5));have n0_:=mk_ (Kd.S_lower ho5 (bz_ (qb_ HB)));have n1_:=mk_ (st_ (qb_ HB) hb);clear HB;have HO415:=n0_;have HB:=n1_;clear n0_ n1_ hb ho5))
   go_loopg [4] k (fun kq v4 w' => ∃ (x3_1 : List (List Int)) (x4_1 : Int),v4 = .int .i64 x4_1 ∧ Aside0 (laws_toByteSS.l0 kq l0 x3_1 x4_1 = some r) ∧ Aside0 (kq ≤ k) ∧ Aside0 (Kd.S (Kd.slice 5 (Kd.int .u8)) 22 w' w.heap.size (fun _ => True) v414 x3_1) ∧ Aside0 (Below w.heap.size w w'))
   case atStart => exact ⟨(y413),(0),qf_,H',⟨Nat.le_refl _⟩,⟨by (with_reducible repeat (first|apply Kd.S_alloc|apply Kd.S_drewN|apply Kd.S_drew));exact HO415.out⟩,⟨u0_ HB⟩⟩
   case round =>
    clear H'
    try clear c1
    try clear c2
    try clear c2b0
    try clear c2b1
    try clear p2
    try clear c3
    try clear c3b0
    try clear c3b1
    obtain ⟨x3_1,x4_1,rfl,HA,HK1,HO_3,HB⟩:=hrel
    cases gk with
    | zero => exact absurd HA.out (by simp [laws_toByteSS.l0])
    | succ k1 =>
     have H:=HA.out
     clear HA
     simp only [laws_toByteSS.l0] at H
     by_cases c6 : x4_1 < (l0.length : Int)
     ·rw [if_pos c6] at H
      have c6b0 : decide (x4_1 < (l0.length : Int)) = true:=decide_eq_true c6
      clear c6
      by_cases c7 : 0 ≤ x4_1
      ·rw [if_pos c7] at H
       have c7b0 : decide (0 ≤ x4_1) = true:=decide_eq_true c7
       clear c7
       replace H:=Option.bind_eq_some_iff.mp H
       obtain ⟨t417,A80,H⟩:=H
       replace H : (if x4_1 < (x3_1.length : Int) then (laws_toByteSS.l0 k1 l0 (x3_1.set (x4_1 : Int).toNat t417) (wrap64 (x4_1 + 1))) else (none)) = some r:=H
       have A8:=mk_ A80
       clear A80
       by_cases c9 : x4_1 < (x3_1.length : Int)
       ·rw [if_pos c9] at H
        have c9b0 : decide (x4_1 < (x3_1.length : Int)) = true:=decide_eq_true c9
        clear c9
        obtain ⟨y420,hy420⟩ : ∃ y_ : List (List Int),y_ = (x3_1.set (x4_1 : Int).toNat t417):=⟨_,rfl⟩
        replace H : (laws_toByteSS.l0 k1 l0 y420 (wrap64 (x4_1 + 1))) = some r:=by first|(rw [hy420];with_reducible exact H)|(have H2_:=(Option.bind_some _ _).symm.trans H;rw [hy420];with_reducible exact H2_)|(have H2_:=(Option.bind_some _ _).symm.trans H;with_reducible exact H2_)|with_reducible exact H|(rw [hy420];exact H)|exact H
        have Ny420:=mk_ hy420
        clear hy420
        have H':=mk_ H
        clear H
        have p416 : 0 ≤ (x4_1 : Int):=od_ qa_
        have q416 : x4_1 < (l0.length : Int):=od_ qa_
        obtain ⟨ad416,A416_0,c416_0,e416,hx416_0,hl416_0,hi416_0⟩:=at_L4 HR0.out x4_1 p416 q416
        cases e416
        replace hx416_0:=(HB.out.cell (wl_ w _ hx416_0)).trans hx416_0
        have HR416_0:=mk_ hi416_0
        have HC416_0:=mk_ hl416_0
        clear hi416_0 hl416_0
        replace p416:=eq_true p416
        replace q416:=eq_true q416
        go_wp2_with (first|((with_reducible refine gate_callee (f:=39) rfl ?_);refine goesL_ (some 20) rfl rfl Try.func39 (by kernel_rfl) rfl #[.slice A416_0 (rd_L4 l0 x4_1).length c416_0] rfl qm_ ?_;(with_reducible refine (laws_toByteS.calls k1 _ _ (rd_L4 l0 x4_1) t417 _ ?side1 ?side2 A8.out).mono ?_);(case side1 => exact qn_ HR416_0 HB);(case side2 => exact HC416_0.out);rintro e w11 ⟨v418,rfl,ho0,hb⟩;refine ⟨_,rfl,?_⟩;obtain ⟨Aq_,cq_,eq_⟩:=Kd.R_slice ho0;subst eq_;have n0_:=mk_ (Kd.S_elder' (by (with_reducible repeat (first|apply Kd.S_alloc|apply Kd.S_drewN|apply Kd.S_drew));exact HO_3.out) (Kd.R_base ho0) hb);have n1_:=mk_ (Kd.R_lower ho0 (bz_ (qb_ HB)));have n2_:=mk_ (st_ (qb_ HB) hb);clear HO_3 HB;have HO_3:=n0_;have HO419:=n1_;have HB:=n2_;clear n0_ n1_ n2_;(try clear hb);(try clear hb2);(try clear hk);(try clear hi);(try clear ho0);have p10 : 0 ≤ (x4_1 : Int):=od_ qa_;have q10 : (x4_1 : Int) < ((x3_1.length : Int) : Int):=od_ qa_;obtain ⟨go10,co10,eo10,gb10,gl10,cl10,HG10⟩:=Kd.S_form HO_3.out (by omega);(first|cases eo10|(injection eo10 with ea_ en_ ec_;(first|subst ea_|(injection ea_ with ea_;subst ea_));subst ec_;clear en_));have GB10:=mk_ gb10;have GG10:=mk_ HG10;clear gb10 gl10 HG10;obtain ⟨_,ce10,hcl10,hM10,hcc10,hfr10,_,_⟩:=Kd.S_elem HO_3.out [] (x4_1 : Int) p10 q10;obtain ⟨ve10_0,rfl,ge10_0⟩:=hM10;have hx10_0:=hcc10 0 _ rfl;have hf10_0:=hfr10 0;(try simp only [show ((Kd.slice 5 (Kd.int .u8))).sz = 1 from rfl,Nat.mul_one,Nat.add_zero] at hx10_0);(try simp only [show ((Kd.slice 5 (Kd.int .u8))).sz = 1 from rfl,Nat.mul_one,Nat.add_zero] at hf10_0);clear hcl10 hcc10 hfr10 ;(try clear hM10);replace p10:=eq_true p10;replace q10:=eq_true q10;have n_:=mk_ (Kd.S_mono (ok':=(fun k_ => some k_ ≠ ((.slice Aq_ t417.length cq_ : Value) : Value).ownBlock)) HO_3.out (fun k_ hk => hk.2));clear HO_3;have HO_3:=n_;clear n_;have HX12:=mk_ (show Kd.S (Kd.slice 5 (Kd.int .u8)) 22 w11 w.heap.size (fun k_ => ((fun _ => True)) k_ ∧ ¬ ((fun k_ => some k_ = ((.slice Aq_ t417.length cq_ : Value) : Value).ownBlock)) k_) (.slice (some ⟨go10,0,none⟩) x3_1.length co10) x3_1 from (by (with_reducible repeat (first|apply Kd.S_alloc|apply Kd.S_drewN|apply Kd.S_drew));exact Kd.S_mono HO_3.out (fun k_ hk => ⟨trivial,fun e_ => hk e_⟩)));obtain ⟨oki12,ce12,hcl12,hM12,hcc12,hfr12,hoki12,hH12⟩:=Kd.S_elem HX12.out [] (x4_1 : Int) (od_ qa_) (by have h_ : (x4_1 : Int) < ((x3_1.length : Int) : Int):=od_ qa_;first|exact h_|(have e_:=(Kd.S_reads' HO_3.out).1;omega)|simpa using h_);obtain ⟨ve12_0,rfl,ge12_0⟩:=hM12;have HP12:=Kd.S_seg hH12 (od_ qa_) (by have h_ : (x4_1 : Int) < ((x3_1.length : Int) : Int):=od_ qa_;first|exact h_|(have e_:=(Kd.S_reads' HO_3.out).1;omega)|simpa using h_) (seg:=[(.slice Aq_ t417.length cq_ : Value)]) (j:=0) (show 1 ≤ 1 from by decide) (x':=t417) (Kd.M_row (rm_ (Kd.R_tight rfl (rm_ (ok':=fun k_ => ((fun _ => True)) k_ ∧ k_ ≠ go10) (Kd.R_apart' (HO419.out) (Kd.S_typed HO_3.out) (by decide)) (fun k_ hk => ⟨trivial,fun e_ => (hk.2) (by rw [e_];rfl)⟩))) (fun _ h_ => Or.inr (h_)))) (fun _ hk => hk) (fun k_ hk_ => ((rm_ (ok':=fun k_ => ((fun _ => True)) k_ ∧ k_ ≠ go10) (Kd.R_apart' (HO419.out) (Kd.S_typed HO_3.out) (by decide)) (fun k_ hk => ⟨trivial,fun e_ => (hk.2) (by rw [e_];rfl)⟩))).1 k_ hk_.symm);have hx12_0:=hcc12 0 _ rfl;(try simp only [show ((Kd.slice 5 (Kd.int .u8))).sz = 1 from rfl,Nat.mul_one,Nat.add_zero] at hx12_0);have hf12_0:=hfr12 0;(try simp only [show ((Kd.slice 5 (Kd.int .u8))).sz = 1 from rfl,Nat.mul_one,Nat.add_zero] at hf12_0);clear hcl12 hcc12 hfr12  hoki12 hH12;(try clear hM12);(try simp only [show ((Kd.slice 5 (Kd.int .u8))).sz = 1 from rfl,Nat.mul_one,Nat.add_zero] at HP12))|((with_reducible refine gate_store (t:=22) (p:=21) rfl ?_);refine store_event (t:=22) (p:=21) (v:=?vo_w13) (w1:=(w11.setCell ⟨go10,(x4_1 : Int).toNat,none⟩ ((.slice Aq_ t417.length cq_ : Value)))) ?hg ?ho ?hn ?hr ?_;(case ho => rfl);(case hg => rfl);(case hn => rfl);(case hr => first|(go_simp;done)|(go_simp;rfl));intro w13 hw;have hg : w11.grownBy w13 (some go10):=(by rw [hw];exact HP12.2);have hp_ : Kd.S (Kd.slice 5 (Kd.int .u8)) 22 w13 w.heap.size (fun _ => True) (.slice (some ⟨go10,0,none⟩) x3_1.length co10) y420:=(by rw [hw,Ny420.out];exact HP12.1);clear HP12;have n0_:=mk_ (hp_);have n1_:=mk_ ((by rw [hw];exact bs_ (HB.out) GB10.out : Below w.heap.size w w13));clear HO_3 HB HO419;have HO_3:=n0_;have HB:=n1_;clear n0_ n1_ hg hw hp_))
        go_roundg k1
        case measure => have:=HK1.out;omega
        case rel => exact ⟨(y420),(wrap64 (x4_1 + 1)),qf_,H',⟨by have:=HK1.out;omega⟩,⟨by (with_reducible repeat (first|apply Kd.S_alloc|apply Kd.S_drewN|apply Kd.S_drew));exact HO_3.out⟩,⟨u0_ HB⟩⟩
       ·rw [if_neg c9] at H
        exact absurd H (by simp)
      ·rw [if_neg c7] at H
       exact absurd H (by simp)
     ·rw [if_neg c6] at H
      have c6b0 : decide (x4_1 < (l0.length : Int)) = false:=decide_eq_false c6
      clear c6
      obtain rfl:=Option.some.inj H
      go_wp2
      go_ret
      exact ⟨_,qe_,by (with_reducible repeat (first|apply Kd.S_alloc|apply Kd.S_drewN|apply Kd.S_drew));exact HO_3.out,u0_ HB⟩
  ·rw [if_neg c3] at H
   exact absurd H (by simp)
 ·rw [if_neg c2] at H
  exact absurd H (by simp)

end Go.Proofs.Ytdpnloibbimblaa.PAll
