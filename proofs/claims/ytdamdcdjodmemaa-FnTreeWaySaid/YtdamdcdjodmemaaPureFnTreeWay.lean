/- FnTreeWay: at every draw the program's TreeWay returns what the reference's returns and the same for both directions; its cables are of those of a flood, and join both bridges; they are fewer than the bridges. No condition. -/
import Derived.Test.YtdamdcdjodmemaaPAllx1
import Derived.Test.YtdamdcdjodmemaaPAllx3
import Derived.Test.YtdamdcdjodmemaaPAllx8
import Derived.Test.YtdamdcdjodmemaaPAllx9
import Derived.Test.YtdamdcdjodmemaaPAllx10
namespace Go.Proofs.Ytdamdcdjodmemaa.Pure
open Go.RowKit Go.Proofs.Ytdamdcdjodmemaa.PAll Go.Proofs.YtdamdcdjodmemaaW.PrintWords Go.Proofs.YtdamdcdjodmemaaW.PrintLast Go.Proofs.YtdamdcdjodmemaaW.PrintMore

/-- What is told of a way that is not empty. -/
theorem way_told {n : Int} {cs : List S51} {hs vs : List Int} {a b : Int} (h : wayX n cs hs vs a b ≠ []) : ∃ (N A B : Nat), n = (N : Int) ∧ N ≤ 8 ∧ cs.length ≤ 20 ∧ cabsB (N : Int) cs = true ∧ A < N ∧ B < N ∧ rd hs a = (A : Int) ∧ rd hs b = (B : Int) ∧ netB n cs hs vs = true ∧ (0 ≤ a ∧ a < hs.length) ∧ (0 ≤ b ∧ b < hs.length) ∧
    ∃ p q m, Ch (upN N cs) (nxN N cs) A p m ∧ Ch (upN N cs) (nxN N cs) B q m ∧ p.length + q.length < N ∧ (∀ x ∈ p ++ q, x < N ∧ 0 ≤ upN N cs x ∧ gD (rootsL N cs) x = gD (rootsL N cs) A) ∧ ((p ++ q).map (upN N cs)).Perm (wayX n cs hs vs a b) := by
  unfold wayX at h
  split at h
  · rename_i c
    obtain ⟨N, A, B, rfl, c1, c2, _, c4, c5, c6, c7, c8⟩ := way_facts c.1 c.2.1 c.2.2.1
    have c3 := c.2.2.2
    rw [c7, c8, Int.toNat_natCast, rd_gD, rd_gD] at c3
    obtain ⟨p, q, m, p1, p2, p3, p4, p5, p6, p7, p8⟩ := way_parts c4 c5 c6 c3
    refine ⟨N, A, B, rfl, c1, c2, c4, c5, c6, c7, c8, c.1, c.2.1, c.2.2.1, p, q, m, p3, p4, p5, p6, ?_⟩
    unfold wayX
    rw [if_pos c, c7, c8, Int.toNat_natCast, Int.toNat_natCast, Int.toNat_natCast]
    exact way_perm c4 (fun x hx => (p6 x hx).2.1) p7 p8
  · exact absurd rfl h
theorem way_law_at {n : Int} {cs : List S51} {hs vs : List Int} {a b : Int} (hne : wayX n cs hs vs a b ≠ []) (d : Nat) : ∀ (k i : Nat), i + d = (wayX n cs hs vs a b).length → d + 1000 < k →
    laws_FnTreeWay.l0 k a b (wayX n cs hs vs a b) (((wayX n cs hs vs a b).take i).map fun x => rd_T51 cs x) (wayX n cs hs vs a b) (wayX n cs hs vs a b).length (i : Int) n cs hs vs = some true := by
  obtain ⟨N, A, B, rfl, n8, cl, hv, hA, hB, rA, rB, hnet, ha, hb, p, q, m, pm, qm, plen, pmem, pperm⟩ := way_told hne
  have hso := sound_of hv
  obtain ⟨f1, f2, f3, f4⟩ := cabsB_facts hv
  have hlen := pperm.length_eq
  rw [List.length_map, List.length_append] at hlen
  induction d with
  | zero =>
    intro k i h1 hk
    obtain ⟨k, rfl⟩ : ∃ m, k = m + 1 := ⟨k - 1, by omega⟩
    rw [List.take_of_length_le (by omega)]
    obtain ⟨some_, hsome⟩ : ∃ l, l = (wayX (N : Int) cs hs vs a b).map fun x => rd_T51 cs x := ⟨_, rfl⟩
    have hmem : ∀ c ∈ some_, ∃ x, x ∈ p ++ q ∧ c = rd_T51 cs (upN N cs x) ∧ c ∈ cs := by
      intro c hc
      rw [hsome] at hc
      obtain ⟨y, hy, rfl⟩ := List.mem_map.1 hc
      obtain ⟨x, hx, rfl⟩ := List.mem_map.1 (pperm.mem_iff.2 hy)
      obtain ⟨K, hK, k1, _⟩ := up_hit hso x (pmem x hx).2.1
      exact ⟨x, hx, rfl, by rw [k1, rdCab_get cs K hK]; exact List.getElem_mem hK⟩
    have hsl : some_.length ≤ 20 := by rw [hsome, List.length_map]; omega
    have hsv : cabsB (N : Int) some_ = true := by
      exact cabsB_of f1 f2 hsl (fun c hc => f4 c (by obtain ⟨x, _, _, h⟩ := hmem c hc; exact h))
    have hcs := cabOk_of hsv
    have hjoin : memB (jnB some_ N A) B := by
      have hcl := jnB_closed hcs hA
      have hstep : ∀ x ∈ p ++ q, memB (jnB some_ N A) x ↔ memB (jnB some_ N A) (nxN N cs x) := by
        intro x hx
        obtain ⟨K, hK, k1, k2, _⟩ := up_hit hso x (pmem x hx).2.1
        have hin : cs[K] ∈ some_ := by
          rw [hsome]
          refine List.mem_map.2 ⟨upN N cs x, pperm.mem_iff.1 (List.mem_map.2 ⟨x, hx, rfl⟩), ?_⟩
          rw [k1, rdCab_get cs K hK]
        have hc := hcl _ hin
        rcases oth_ends k2 with ⟨y1, y2⟩ | ⟨y1, y2⟩
        · rw [← y1, ← y2, Int.toNat_natCast, Int.toNat_natCast] at hc; exact hc
        · rw [← y1, ← y2, Int.toNat_natCast, Int.toNat_natCast] at hc; exact hc.symm
      have h1 := ch_join pm (P := memB (jnB some_ N A)) (fun x hx => hstep x (List.mem_append_left _ hx))
      have h2 := ch_join qm (P := memB (jnB some_ N A)) (fun x hx => hstep x (List.mem_append_right _ hx))
      exact h2.2 (h1.1 (jnB_self hcs hA))
    have hroot := (roots_join hcs hA hB).2 hjoin
    have hrl := rootsL_len N some_
    have hRoot : ∀ X : Nat, X < N → impl_RootOf.f (N : Int) some_ (X : Int) = some (gD (rootsL N some_) X) := by
      intro X hX
      have e1 : impl_CablesValid.f (N : Int) some_ = some (cabsB (N : Int) some_) := rfl
      have e2 : impl_rootsOf.f (N : Int) some_ = some (rootsL N some_) := by unfold impl_rootsOf.f; rw [if_pos hsv, Int.toNat_natCast]
      have e3 : wrap64 ((N : Int) - 1) = (N : Int) - 1 := wrap_eq (by omega) (by omega)
      unfold impl_RootOf.f
      rw [e1, Option.bind_some, hsv, if_pos rfl, win_is, Option.bind_some, e3, decide_eq_true (show (0 : Int) ≤ (X : Int) by omega), decide_eq_true (show (X : Int) ≤ (N : Int) - 1 by omega), if_pos (by decide), e2, Option.bind_some, if_pos (by omega), if_pos (by omega), rd_gD]
    simp only [laws_FnTreeWay.l0]
    rw [if_neg (by omega), if_pos ha.1, if_pos ha.2, rA, ← hsome, hRoot A hA, Option.bind_some, if_pos hb.1, if_pos hb.2, rB, hRoot B hB, Option.bind_some, if_pos (by rw [gD_get _ _ (by omega), gD_get _ _ (by omega)]; exact hroot), decide_eq_true (by omega)]
  | succ d ih =>
    intro k i h1 hk
    obtain ⟨k, rfl⟩ : ∃ m, k = m + 1 := ⟨k - 1, by omega⟩
    have hi : i < (wayX (N : Int) cs hs vs a b).length := by omega
    obtain ⟨x, hx, hxe⟩ := List.mem_map.1 (pperm.mem_iff.2 (List.getElem_mem hi))
    obtain ⟨g1, g2, g3⟩ := pmem x hx
    obtain ⟨K, hK, k1, k2, _⟩ := up_hit hso x g2
    have hfl := floodX_len (N : Int) cs hs vs a
    have hrl := rootsL_len N cs
    have hin : hasL (floodX (N : Int) cs hs vs a) (K : Int) = true := by
      rw [hasL_iff]
      unfold floodX
      rw [if_pos ⟨hnet, ha⟩, List.mem_filter]
      refine ⟨by rw [← k1]; exact treeX_up hv g1 g2, ?_⟩
      unfold floodB
      have hc := f4 _ (List.getElem_mem hK)
      obtain ⟨Y, hY⟩ := Int.eq_ofNat_of_zero_le hc.1
      have hYN : Y < N := by omega
      rw [rdCab_get cs K hK, rA, hY, Int.toNat_natCast, rd_gD, rd_gD, ← g3]
      refine decide_eq_true ?_
      rw [gD_get _ _ (by omega), gD_get _ _ (by omega)]
      have hcb := cabOk_of hv
      refine (roots_join hcb hYN g1).2 ?_
      have hcl := jnB_closed hcb hYN cs[K] (List.getElem_mem hK)
      have hself := jnB_self hcb hYN
      rw [hY, Int.toNat_natCast] at hcl
      rcases oth_ends k2 with ⟨y1, y2⟩ | ⟨y1, y2⟩
      · have : x = Y := by omega
        rw [this]; exact hself
      · rw [← y1, Int.toNat_natCast] at hcl; exact hcl.1 hself
    have htake : (((wayX (N : Int) cs hs vs a b).take (i + 1)).map fun x => rd_T51 cs x) = (((wayX (N : Int) cs hs vs a b).take i).map fun x => rd_T51 cs x) ++ [rd_T51 cs (K : Int)] := by
      rw [List.take_succ_eq_append_getElem hi, List.map_append, List.map_cons, List.map_nil, ← hxe, k1]
    simp only [laws_FnTreeWay.l0]
    rw [if_pos (by omega), if_pos (by omega), if_pos (by omega), rd_get _ i hi, ← hxe, k1, if_pos (by omega), if_pos (by omega), if_pos (by rw [List.length_map, List.length_take]; omega), iflood_eq (N : Int) cs hs vs a k (by omega), Option.bind_some, wnHas_eq _ _ (by omega) k (by omega), Option.bind_some, hin, if_pos rfl, wrap_succ hi (by omega)]
    have ih' := ih k (i + 1) (by omega) (by omega)
    rw [htake] at ih'
    exact ih'
theorem wayX_comm (n : Int) (cs : List S51) (hs vs : List Int) (a b : Int) : wayX n cs hs vs a b = wayX n cs hs vs b a := by
  unfold wayX
  by_cases c : netB n cs hs vs = true ∧ (0 ≤ a ∧ a < hs.length) ∧ (0 ≤ b ∧ b < hs.length) ∧ rd (rootsL n.toNat cs) (rd hs a) = rd (rootsL n.toNat cs) (rd hs b)
  · rw [if_pos c, if_pos ⟨c.1, c.2.2.1, c.2.1, c.2.2.2.symm⟩]
    exact filM_congr _ _ _ _ (fun x _ _ => wayB_comm _ _ _ _ _)
  · rw [if_neg c, if_neg (fun h => c ⟨h.1, h.2.2.1, h.2.1, h.2.2.2.symm⟩)]
theorem FnTreeWay : laws_FnTreeWay.Pure := by
  intro l0 _ _ hw
  obtain ⟨n, cs, hs, vs, a, b, q1, q2, q3, hd⟩ := drawWay_ok hw
  refine ⟨4001, ?_⟩
  unfold laws_FnTreeWay.f
  by_cases c : (l0.length : Int) > 1048576
  · rw [if_pos c]
  have hx := wayX_len n cs hs vs a b
  rw [if_neg c, hd _ (by omega), Option.bind_some]
  simp only []
  rw [iway_eq n cs hs vs a b _ (by omega), Option.bind_some, sway_eq n cs hs vs a b (by omega) _ (by omega), Option.bind_some, wnInts_eq _ _ (by omega) _ (by omega), Option.bind_some, if_pos (by simp), iway_eq n cs hs vs b a _ (by omega), Option.bind_some, wayX_comm n cs hs vs b a, wnInts_eq _ _ (by omega) _ (by omega), Option.bind_some]
  simp only [laws_FnTreeWay.j0]
  rw [if_neg (by simp)]
  by_cases e : wayX n cs hs vs a b = []
  · rw [e]; rfl
  · have : (wayX n cs hs vs a b).length ≠ 0 := fun h => e (List.length_eq_zero_iff.1 h)
    rw [if_neg (by omega)]
    exact way_law_at e (wayX n cs hs vs a b).length 4000 0 (by omega) (by omega)

end Go.Proofs.Ytdamdcdjodmemaa.Pure
