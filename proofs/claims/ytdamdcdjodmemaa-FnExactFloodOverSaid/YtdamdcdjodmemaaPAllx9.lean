/- Proved here: contracts of functions of the given program, or lemmas on them, for the laws of this seat. Written by xprint.py, a program of this session, on the ground of the kit's print; parts by hand: wip/x/ext. -/
import Derived.Test.YtdamdcdjodmemaaPAllx0
import Derived.Test.YtdamdcdjodmemaaPAllx1
import Derived.Test.YtdamdcdjodmemaaPAllx2
import Derived.Test.YtdamdcdjodmemaaPAllx4
import Derived.Test.YtdamdcdjodmemaaPAllx6
import Derived.Test.YtdamdcdjodmemaaPAllx8
namespace Go.Proofs.Ytdamdcdjodmemaa.PAll
open Go.RowKit Go.Proofs.YtdamdcdjodmemaaW.PrintWords Go.Proofs.YtdamdcdjodmemaaW.PrintLast Go.Proofs.YtdamdcdjodmemaaW.PrintMore
attribute [local go_sem] max2_int min2_int max_two min_two max_three min_three max_four min_four   -- for this text's walks alone
set_option linter.unusedVariables false
set_option linter.unusedSimpArgs false

-- LIB flood
theorem treeX_len (n : Int) (cs : List S51) : (treeX n cs).length ≤ 8 := by
  unfold treeX
  split
  · rename_i hv
    obtain ⟨f1, f2, _, _⟩ := cabsB_facts hv
    have h := (tree_perm (upN n.toNat cs) n.toNat cs.length (fun x _ => (upX_lt cs _ _).2)).length_eq
    have := uL_len (upN n.toNat cs) n.toNat 0
    omega
  · simp
theorem treeX_in {n : Int} {cs : List S51} {k : Int} (h : k ∈ treeX n cs) : 0 ≤ k ∧ k < cs.length := by
  unfold treeX at h
  split at h
  · have := tI_ge _ _ _ _ _ h; omega
  · cases h
def floodB (n : Int) (cs : List S51) (hs : List Int) (s k : Int) : Bool := decide (rd (rootsL n.toNat cs) (rd_T51 cs k).f0 = rd (rootsL n.toNat cs) (rd hs s))
/-- The cables over which a frame for all goes. -/
def floodX (n : Int) (cs : List S51) (hs vs : List Int) (s : Int) : List Int := if netB n cs hs vs = true ∧ 0 ≤ s ∧ s < hs.length then (treeX n cs).filter (floodB n cs hs s) else []
theorem floodX_len (n : Int) (cs : List S51) (hs vs : List Int) (s : Int) : (floodX n cs hs vs s).length ≤ 8 := by
  unfold floodX
  split
  · exact Nat.le_trans (List.length_filter_le _ _) (treeX_len n cs)
  · simp
theorem iflood_at (n : Int) (cs : List S51) (hs vs : List Int) (s : Int) (hv : netB n cs hs vs = true) (h0 : 0 ≤ s) (h1 : s < hs.length) (d : Nat) : ∀ (k i : Nat) (acc : List Int), i + d = (treeX n cs).length → acc.length + d ≤ 15 → d < k →
    impl_FloodOver.l0 k s (rootsL n.toNat cs) acc (treeX n cs) (treeX n cs).length (i : Int) n cs hs vs = some (acc ++ ((treeX n cs).drop i).filter (floodB n cs hs s)) := by
  obtain ⟨q1, q2, q3, q4⟩ := netB_facts hv
  obtain ⟨p1, p2, p3, p4⟩ := cabsB_facts q1
  have hr := rootsL_len n.toNat cs
  have ht := treeX_len n cs
  induction d with
  | zero =>
    intro k i acc e1 e2 hk
    obtain ⟨k, rfl⟩ : ∃ m, k = m + 1 := ⟨k - 1, by omega⟩
    simp only [impl_FloodOver.l0]
    rw [if_neg (by omega), List.drop_of_length_le (by omega), List.filter_nil, List.append_nil]
  | succ d ih =>
    intro k i acc e1 e2 hk
    obtain ⟨k, rfl⟩ : ∃ m, k = m + 1 := ⟨k - 1, by omega⟩
    have hi : i < (treeX n cs).length := by omega
    obtain ⟨t0, t1⟩ := treeX_in (List.getElem_mem hi)
    obtain ⟨K, hK⟩ := Int.eq_ofNat_of_zero_le t0
    have hKl : K < cs.length := by omega
    have hc := p4 _ (List.getElem_mem hKl)
    have hrd : rd_T51 cs (K : Int) = cs[K] := rdCab_get cs K hKl
    obtain ⟨S, hS⟩ := Int.eq_ofNat_of_zero_le h0
    have m2 := q4 (rd hs s) (by rw [hS, rd_get hs S (by omega)]; exact List.getElem_mem _)
    simp only [impl_FloodOver.l0]
    rw [if_pos (by omega), if_pos (by omega), if_pos (by omega), rd_get _ i hi, hK, if_pos (by omega), if_pos (by omega), hrd, if_pos (by omega), if_pos (by omega), if_pos h0, if_pos h1, if_pos m2.1, if_pos (by omega), wrap_succ hi (by omega), List.drop_eq_getElem_cons hi, hK]
    by_cases c : rd (rootsL n.toNat cs) cs[K].f0 = rd (rootsL n.toNat cs) (rd hs s)
    · rw [if_pos c, if_pos (by omega), ih k (i + 1) _ (by omega) (by simp; omega) (by omega), List.filter_cons_of_pos (by unfold floodB; rw [hrd]; exact decide_eq_true c), List.append_assoc]; rfl
    · rw [if_neg c, ih k (i + 1) acc (by omega) (by omega) (by omega), List.filter_cons_of_neg (by unfold floodB; rw [hrd]; simp [c])]
theorem iflood_eq (n : Int) (cs : List S51) (hs vs : List Int) (s : Int) (k : Nat) (hk : 500 < k) : impl_FloodOver.f k n cs hs vs s = some (floodX n cs hs vs s) := by
  unfold impl_FloodOver.f floodX
  rw [istation_eq, Option.bind_some]
  by_cases c : netB n cs hs vs = true ∧ 0 ≤ s ∧ s < hs.length
  · obtain ⟨q1, q2, q3, q4⟩ := netB_facts c.1
    have ht := treeX_len n cs
    have e : impl_rootsOf.f n cs = some (rootsL n.toNat cs) := by unfold impl_rootsOf.f; rw [if_pos q1]
    rw [decide_eq_true c, if_pos rfl, if_pos c, e, Option.bind_some, itree_eq n cs k (by omega), Option.bind_some]
    exact iflood_at n cs hs vs s c.1 c.2.1 c.2.2 (treeX n cs).length k 0 [] (by omega) (by simp; omega) (by omega)
  · rw [decide_eq_false c, if_neg (by decide), if_neg c]
theorem sflood_at (n : Int) (cs : List S51) (hs vs : List Int) (s : Int) (inn : List Bool) (hin : (inn.length : Int) = n) (hv : cabsB n cs = true) (p : Int → Bool) (hp : ∀ k : Int, k ∈ treeX n cs → p k = rdOf false inn (rd_T51 cs k).f0) (d : Nat) : ∀ (k i : Nat) (acc : List Int), i + d = (treeX n cs).length → acc.length + d ≤ 15 → d < k →
    spec_FloodOver.l0 k acc inn (treeX n cs) (i : Int) n cs hs vs = some (acc ++ ((treeX n cs).drop i).filter p) := by
  obtain ⟨p1, p2, p3, p4⟩ := cabsB_facts hv
  have ht := treeX_len n cs
  induction d with
  | zero =>
    intro k i acc e1 e2 hk
    obtain ⟨k, rfl⟩ : ∃ m, k = m + 1 := ⟨k - 1, by omega⟩
    simp only [spec_FloodOver.l0]
    rw [if_neg (by omega), List.drop_of_length_le (by omega), List.filter_nil, List.append_nil]
  | succ d ih =>
    intro k i acc e1 e2 hk
    obtain ⟨k, rfl⟩ : ∃ m, k = m + 1 := ⟨k - 1, by omega⟩
    have hi : i < (treeX n cs).length := by omega
    have hmem := List.getElem_mem hi
    obtain ⟨t0, t1⟩ := treeX_in hmem
    have hpk := hp _ hmem
    obtain ⟨K, hK⟩ := Int.eq_ofNat_of_zero_le t0
    have hKl : K < cs.length := by omega
    have hc := p4 _ (List.getElem_mem hKl)
    have hrd : rd_T51 cs (K : Int) = cs[K] := rdCab_get cs K hKl
    rw [hK, hrd] at hpk
    simp only [spec_FloodOver.l0]
    rw [if_pos (by omega), if_pos (by omega), rd_get _ i hi, hK, if_pos (by omega), if_pos (by omega), hrd, if_pos (by omega), if_pos (by omega), wrap_succ hi (by omega), List.drop_eq_getElem_cons hi, hK]
    by_cases c : rdOf false inn cs[K].f0 = true
    · rw [if_pos c, if_pos (by omega), ih k (i + 1) _ (by omega) (by simp; omega) (by omega), List.filter_cons_of_pos (by rw [hpk]; exact c), List.append_assoc]; rfl
    · rw [if_neg c, ih k (i + 1) acc (by omega) (by omega) (by omega), List.filter_cons_of_neg (by rw [hpk]; exact c)]
theorem sflood_eq (n : Int) (cs : List S51) (hs vs : List Int) (s : Int) (hl : cs.length + hs.length + vs.length ≤ 1048576) (k : Nat) (hk : cs.length + hs.length + vs.length + 2000 < k) : spec_FloodOver.f k n cs hs vs s = some (floodX n cs hs vs s) := by
  obtain ⟨k, rfl⟩ : ∃ m, k = m + 1 := ⟨k - 1, by omega⟩
  unfold spec_FloodOver.f floodX
  rw [Option.bind_some, snet_eq n cs hs vs (by omega) (by omega) (by omega) _ (by omega), Option.bind_some]
  cases hv : netB n cs hs vs with
  | false => rw [if_neg (by decide), if_neg (by simp)]; simp only [spec_FloodOver.j0]; rw [if_pos trivial]
  | true =>
    rw [if_pos rfl, sstation_eq n cs hs vs s (by omega), Option.bind_some]
    simp only [spec_FloodOver.j0]
    by_cases c : 0 ≤ s ∧ s < hs.length
    · obtain ⟨q1, q2, q3, q4⟩ := netB_facts hv
      obtain ⟨p1, p2, p3, p4⟩ := cabsB_facts q1
      have ht := treeX_len n cs
      have hti := fun (k : Int) (h : k ∈ treeX n cs) => treeX_in h
      obtain ⟨N, hN⟩ : ∃ N : Nat, n = (N : Int) := ⟨n.toNat, by omega⟩
      subst hN
      have hc := cabOk_of q1
      obtain ⟨S, hS⟩ := Int.eq_ofNat_of_zero_le c.1
      subst hS
      have hSl : S < hs.length := by omega
      obtain ⟨x0, x1⟩ := q4 _ (List.getElem_mem hSl)
      obtain ⟨X, hX⟩ := Int.eq_ofNat_of_zero_le x0
      have hjn := jnB_len cs N X
      have hb : (cs.length + 2) * N ≤ 22 * 8 := Nat.mul_le_mul (by omega) (by omega)
      rw [decide_eq_true c, if_neg (by decide), if_pos (show True ∧ 0 ≤ (S : Int) ∧ (S : Int) < hs.length from ⟨trivial, c⟩), if_pos c.1, if_pos c.2, rd_get hs S hSl, hX, sjoin_eq N X (by omega) (by omega) cs hc (by omega) k (by omega), Option.bind_some, stree_eq (N : Int) cs (by omega) k (by omega), Option.bind_some]
      refine sflood_at (N : Int) cs hs vs (S : Int) (jnB cs N X) (by omega) q1 _ (fun k hk => ?_) (treeX (N : Int) cs).length k 0 [] (by omega) (by simp; omega) (by omega)
      obtain ⟨k0, k1⟩ := hti k hk
      obtain ⟨K, hK⟩ := Int.eq_ofNat_of_zero_le k0
      subst hK
      have hKl : K < cs.length := by omega
      have hcc := p4 _ (List.getElem_mem hKl)
      obtain ⟨Y, hY⟩ := Int.eq_ofNat_of_zero_le hcc.1
      unfold floodB
      rw [rdCab_get cs K hKl, rd_get hs S hSl, hX, hY, Int.toNat_natCast, rd_get (rootsL N cs) X (by rw [rootsL_len]; omega), rd_get (rootsL N cs) Y (by rw [rootsL_len]; omega)]
      have hr := roots_join hc (show X < N by omega) (show Y < N by omega)
      have hm := rdB_mem (jnB cs N X) (Y : Int)
      rw [Int.toNat_natCast] at hm
      cases hq : rdOf false (jnB cs N X) (Y : Int) with
      | false => rw [decide_eq_false]; intro e; rw [hm.2 (hr.1 e.symm)] at hq; cases hq
      | true => rw [decide_eq_true]; exact (hr.2 (hm.1 hq)).symm
    · rw [decide_eq_false c, if_pos (by decide), if_neg (fun h => c h.2)]

-- LIB p19e
-- what the exact laws do with their arguments
theorem rdLab_get (l : List S79) (i : Nat) (h : i < l.length) : rd_T79 l (i : Int) = l[i] := by simp [rd_T79, List.getD_eq_getElem?_getD, h]
def cvC (l : List S79) : List S51 := l.map fun x => ⟨x.f0, x.f1, x.f2⟩
theorem cvC_len (l : List S79) : (cvC l).length = l.length := by unfold cvC; simp
theorem toCable_at (l : List S79) (hl : l.length ≤ 1048576) (d : Nat) : ∀ (k i : Nat) (x : List S51), i + d = l.length → x.length = l.length → x.take i = (cvC l).take i → d < k → laws_toCableS.l0 k l x (i : Int) = some (cvC l) := by
  have hc := cvC_len l
  induction d with
  | zero =>
    intro k i x h1 h2 h3 hk
    obtain ⟨k, rfl⟩ : ∃ m, k = m + 1 := ⟨k - 1, by omega⟩
    simp only [laws_toCableS.l0]
    rw [if_neg (by omega)]
    have e1 : x.take i = x := List.take_of_length_le (by omega)
    have e2 : (cvC l).take i = cvC l := List.take_of_length_le (by omega)
    rw [← e1, h3, e2]
  | succ d ih =>
    intro k i x h1 h2 h3 hk
    obtain ⟨k, rfl⟩ : ∃ m, k = m + 1 := ⟨k - 1, by omega⟩
    simp only [laws_toCableS.l0, laws_toCable.f, Option.bind_some]
    rw [if_pos (by omega), if_pos (by omega), if_pos (by omega), wrap_succ (show i < l.length by omega) (by omega), rdLab_get l i (by omega), Int.toNat_natCast]
    have e : (cvC l)[i]? = some ⟨l[i].f0, l[i].f1, l[i].f2⟩ := by unfold cvC; simp [show i < l.length by omega]
    refine ih k (i + 1) _ (by omega) (by rw [List.length_set]; exact h2) ?_ (by omega)
    rw [List.take_add_one, List.take_add_one, List.take_set, List.getElem?_set_self (by omega), e, List.set_eq_of_length_le (by rw [List.length_take]; omega), h3]
theorem toCable_eq (l : List S79) (hl : l.length ≤ 1048576) (k : Nat) (hk : l.length < k) : laws_toCableS.f k l = some (cvC l) := by
  unfold laws_toCableS.f
  rw [if_pos (by omega), if_pos (by omega)]
  exact toCable_at l hl l.length k 0 _ (by omega) (by simp) (by simp) hk
theorem eqCable_at (l : List S51) (hl : l.length ≤ 9223372036854775807) (d : Nat) : ∀ (k i : Nat), i + d = l.length → d < k → laws_eqCableS.l0 k l l (i : Int) = some true := by
  induction d with
  | zero =>
    intro k i h1 hk
    obtain ⟨k, rfl⟩ : ∃ m, k = m + 1 := ⟨k - 1, by omega⟩
    simp only [laws_eqCableS.l0]
    rw [if_neg (by omega)]
  | succ d ih =>
    intro k i h1 hk
    obtain ⟨k, rfl⟩ : ∃ m, k = m + 1 := ⟨k - 1, by omega⟩
    have e : ∀ (a b c : Int), laws_eqCable.f a b c a b c = some true := fun a b c => by unfold laws_eqCable.f; rw [if_pos rfl, if_pos rfl, if_pos rfl]
    simp only [laws_eqCableS.l0]
    rw [if_pos (by omega), if_pos (by omega), if_pos (by omega), e, Option.bind_some, if_pos rfl, wrap_succ (show i < l.length by omega) (by omega)]
    exact ih k (i + 1) (by omega) (by omega)
theorem eqCable_eq (l : List S51) (hl : l.length ≤ 9223372036854775807) (k : Nat) (hk : l.length < k) : laws_eqCableS.f k l l = some true := by
  unfold laws_eqCableS.f
  rw [if_pos rfl]
  exact eqCable_at l hl l.length k 0 (by omega) hk
theorem szInt_of (l : List Int) (hl : l.length ≤ maxLen) (m : Int) (h0 : 0 ≤ m) (h1 : m ≤ 1048576) : ∃ n : Int, laws_szIntS.f l m = some n ∧ (¬ n < 0 → l.length ≤ m ∧ n = m - l.length) := by
  unfold maxLen at hl
  unfold laws_szIntS.f
  rw [wrap_eq (by omega) (by omega)]
  split
  · exact ⟨_, rfl, fun h => absurd (show (-1 : Int) < 0 by decide) h⟩
  · exact ⟨_, rfl, fun h => by omega⟩
theorem szNet_eq (n : Int) (cs : List S79) (hs vs : List Int) (h1 : cs.length ≤ maxLen) (h2 : hs.length ≤ maxLen) (h3 : vs.length ≤ maxLen) : ∃ m : Int, laws_szNet.f n cs hs vs 1048576 = some m ∧ (¬ m < 0 → cs.length + hs.length + vs.length ≤ 1048576 ∧ 0 ≤ m ∧ m ≤ 1048576) := by
  have hc : ∃ m : Int, laws_szCableS.f cs 1048576 = some m ∧ (¬ m < 0 → cs.length ≤ 1048576 ∧ m = 1048576 - cs.length) := by
    unfold maxLen at h1
    unfold laws_szCableS.f
    rw [wrap_eq (by omega) (by omega)]
    split
    · exact ⟨_, rfl, fun h => absurd (show (-1 : Int) < 0 by decide) h⟩
    · exact ⟨_, rfl, fun h => by omega⟩
  obtain ⟨m1, e1, g1⟩ := hc
  unfold laws_szNet.f
  rw [e1, Option.bind_some]
  by_cases c1 : m1 < 0
  · rw [if_pos c1]; exact ⟨_, rfl, fun h => absurd (show (-1 : Int) < 0 by decide) h⟩
  obtain ⟨q1, q2⟩ := g1 c1
  obtain ⟨m2, e2, g2⟩ := szInt_of hs h2 m1 (by omega) (by omega)
  rw [if_neg c1, e2, Option.bind_some]
  by_cases c2 : m2 < 0
  · rw [if_pos c2]; exact ⟨_, rfl, fun h => absurd (show (-1 : Int) < 0 by decide) h⟩
  obtain ⟨q3, q4⟩ := g2 c2
  obtain ⟨m3, e3, g3⟩ := szInt_of vs h3 m2 (by omega) (by omega)
  rw [if_neg c2, e3, Option.bind_some]
  by_cases c3 : m3 < 0
  · rw [if_pos c3]; exact ⟨_, rfl, fun h => absurd (show (-1 : Int) < 0 by decide) h⟩
  rw [if_neg c3]
  exact ⟨_, rfl, fun h => by have := g3 h; omega⟩
theorem toNet_eq (n : Int) (cs : List S79) (hs vs : List Int) (h : cs.length + hs.length + vs.length ≤ 1048576) (k : Nat) (hk : cs.length + hs.length + vs.length < k) : laws_toNet.f k n cs hs vs = some (n, cvC cs, hs, vs) := by
  unfold laws_toNet.f
  rw [toCable_eq cs (by omega) k (by omega), Option.bind_some, toIntS_eq hs (by omega) k (by omega), Option.bind_some, toIntS_eq vs (by omega) k (by omega), Option.bind_some]
theorem eqNet_eq (n : Int) (cs : List S51) (hs vs : List Int) (h : cs.length + hs.length + vs.length ≤ 1048576) (k : Nat) (hk : cs.length + hs.length + vs.length < k) : laws_eqNet.f k n cs hs vs n cs hs vs = some true := by
  unfold laws_eqNet.f
  rw [if_pos rfl, eqCable_eq cs (by omega) k (by omega), Option.bind_some, if_pos rfl, eqIntS_eq hs (by omega) k (by omega), Option.bind_some, if_pos rfl, eqIntS_eq vs (by omega) k (by omega), Option.bind_some, if_pos rfl]

-- LIB pmarkint
/-- Numbers in a row, from m on. -/
def mkI (m : Int) : Nat → List Int
  | 0 => []
  | n + 1 => m :: mkI (m + 1) n
theorem markInt_at (d : Nat) : ∀ (k i : Nat) (m : Int) (l : List Int), i + d = l.length → l.length ≤ 4611686018427387904 → d < k → 0 ≤ m → m + d ≤ 4611686018427387904 → laws_markIntS.l0 k l m i = some (m + d, l.take i ++ mkI m d) := by
  induction d with
  | zero =>
    intro k i m l h1 hl hk h2 h3
    obtain ⟨k, rfl⟩ : ∃ m, k = m + 1 := ⟨k - 1, by omega⟩
    simp only [laws_markIntS.l0]
    have e : l.take i = l := List.take_of_length_le (by omega)
    rw [if_neg (by omega), e, mkI, List.append_nil, show m + ((0 : Nat) : Int) = m by omega]
  | succ d ih =>
    intro k i m l h1 hl hk h2 h3
    obtain ⟨k, rfl⟩ : ∃ m, k = m + 1 := ⟨k - 1, by omega⟩
    simp only [laws_markIntS.l0]
    have e2 : (l.set i m).take (i + 1) = l.take i ++ [m] := by
      rw [List.take_add_one, List.take_set, List.getElem?_set_self (by omega), List.set_eq_of_length_le (by rw [List.length_take]; omega)]
      rfl
    rw [if_pos (by omega), if_pos (by omega), wrap_eq (by omega) (by omega), wrap_succ (show i < l.length by omega) (by omega), Int.toNat_natCast, ih k (i + 1) (m + 1) _ (by rw [List.length_set]; omega) (by rw [List.length_set]; omega) (by omega) (by omega) (by omega), e2, mkI, List.append_assoc, show m + 1 + (d : Int) = m + ((d + 1 : Nat) : Int) by omega]
    rfl
theorem markInt_eq (l : List Int) (m : Int) (hl : l.length ≤ 2305843009213693952) (h0 : 0 ≤ m) (h1 : m ≤ 2305843009213693952) (k : Nat) (hk : l.length < k) : laws_markIntS.f k l m = some (m + l.length, mkI m l.length) :=
  markInt_at l.length k 0 m l (by omega) (by omega) hk h0 (by omega)
theorem mkI_len (n : Nat) : ∀ m, (mkI m n).length = n := by
  induction n with
  | zero => exact fun _ => rfl
  | succ n ih => exact fun m => by rw [mkI, List.length_cons, ih]

-- LIB pheldint
theorem heldInt_at (d : Nat) : ∀ (k i : Nat) (m : Int) (l : List Int), i + d = l.length → l.length ≤ 4611686018427387904 → d < k → 0 ≤ m → m + d ≤ 4611686018427387904 → l.drop i = mkI m d → laws_heldIntS.l0 k l m i = some (m + d) := by
  induction d with
  | zero =>
    intro k i m l h1 hl hk h2 h3 h4
    obtain ⟨k, rfl⟩ : ∃ m, k = m + 1 := ⟨k - 1, by omega⟩
    simp only [laws_heldIntS.l0]
    rw [if_neg (by omega), show m + ((0 : Nat) : Int) = m by omega]
  | succ d ih =>
    intro k i m l h1 hl hk h2 h3 h4
    obtain ⟨k, rfl⟩ : ∃ m, k = m + 1 := ⟨k - 1, by omega⟩
    rw [List.drop_eq_getElem_cons (show i < l.length by omega), mkI] at h4
    obtain ⟨e1, e2⟩ := List.cons.inj h4
    simp only [laws_heldIntS.l0]
    rw [if_pos (by omega), if_pos (by omega), rd_get l i (by omega), e1, wrap_eq (by omega) (by omega), wrap_succ (show i < l.length by omega) (by omega), ih k (i + 1) (m + 1) l (by omega) hl (by omega) (by omega) (by omega) e2]
    simp
    omega
theorem heldInt_eq (n : Nat) (m : Int) (hl : n ≤ 2305843009213693952) (h0 : 0 ≤ m) (h1 : m ≤ 2305843009213693952) (k : Nat) (hk : n < k) : laws_heldIntS.f k (mkI m n) m = some (m + n) := by
  have h := heldInt_at n k 0 m (mkI m n) (by rw [mkI_len]; omega) (by rw [mkI_len]; omega) hk h0 (by omega) rfl
  exact h

-- LIB p19x
theorem markCable_at (d : Nat) : ∀ (k i : Nat) (m : Int) (l : List S51), i + d = l.length → l.length ≤ 1000000000 → d < k → 0 ≤ m → m + 3 * d ≤ 4611686018427387904 → ∃ x, laws_markCableS.l0 k l m i = some (m + 3 * d, x) := by
  induction d with
  | zero =>
    intro k i m l h1 hl hk h2 h3
    obtain ⟨k, rfl⟩ : ∃ m, k = m + 1 := ⟨k - 1, by omega⟩
    simp only [laws_markCableS.l0]
    rw [if_neg (by omega), show m + 3 * ((0 : Nat) : Int) = m by omega]
    exact ⟨_, rfl⟩
  | succ d ih =>
    intro k i m l h1 hl hk h2 h3
    obtain ⟨k, rfl⟩ : ∃ m, k = m + 1 := ⟨k - 1, by omega⟩
    simp only [laws_markCableS.l0, Option.bind_some]
    rw [if_pos (by omega), if_pos (by omega), wrap_eq (x := m + 1) (by omega) (by omega), wrap_eq (x := m + 1 + 1) (by omega) (by omega), wrap_eq (x := m + 1 + 1 + 1) (by omega) (by omega), wrap_succ (show i < l.length by omega) (by omega), show m + 3 * ((d + 1 : Nat) : Int) = m + 1 + 1 + 1 + 3 * (d : Int) by omega]
    exact ih k (i + 1) (m + 1 + 1 + 1) _ (by simp only [List.length_set]; omega) (by simp only [List.length_set]; omega) (by omega) (by omega) (by omega)
theorem markNet_eq (n : Int) (cs : List S51) (hs vs : List Int) (hl : cs.length + hs.length + vs.length ≤ 1048576) (k : Nat) (hk : cs.length + hs.length + vs.length < k) : ∃ m x y z, 0 ≤ m ∧ laws_markNet.f k n cs hs vs 1 = some (m, x, y, z) := by
  obtain ⟨x, hx⟩ := markCable_at cs.length k 0 1 cs (by omega) (by omega) (by omega) (by omega) (by omega)
  have hx' : laws_markCableS.f k cs 1 = some (1 + 3 * (cs.length : Int), x) := hx
  refine ⟨1 + 3 * (cs.length : Int) + hs.length + vs.length, x, mkI (1 + 3 * (cs.length : Int)) hs.length, mkI (1 + 3 * (cs.length : Int) + hs.length) vs.length, by omega, ?_⟩
  unfold laws_markNet.f
  rw [hx', Option.bind_some]
  simp only []
  rw [markInt_eq hs _ (by omega) (by omega) (by omega) k (by omega), Option.bind_some]
  simp only []
  rw [markInt_eq vs _ (by omega) (by omega) (by omega) k (by omega), Option.bind_some]

end Go.Proofs.Ytdamdcdjodmemaa.PAll
