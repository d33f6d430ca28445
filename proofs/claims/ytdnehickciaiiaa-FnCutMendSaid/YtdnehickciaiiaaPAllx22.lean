/- Proved here: contracts of functions of the given program, or lemmas on them, for the laws of this seat. Written by xprint.py, a program of this session, on the ground of the kit's print; parts by hand: wip/x/ext. -/
import Derived.Test.YtdnehickciaiiaaPAllx0
import Derived.Test.YtdnehickciaiiaaPAllx1
import Derived.Test.YtdnehickciaiiaaPAllx2
import Derived.Test.YtdnehickciaiiaaPAllx5
import Derived.Test.YtdnehickciaiiaaPAllx9
import Derived.Test.YtdnehickciaiiaaPAllx21
namespace Go.Proofs.Ytdnehickciaiiaa.PAll
open Go.RowKit Go.Proofs.YtdnehickciaiiaaW.PrintWords Go.Proofs.YtdnehickciaiiaaW.PrintLast Go.Proofs.YtdnehickciaiiaaW.PrintMore
attribute [local go_sem] max2_int min2_int max_two min_two max_three min_three max_four min_four   -- for this text's walks alone
set_option linter.unusedVariables false
set_option linter.unusedSimpArgs false

-- LIB p17more
theorem asc_of {l : List Int} (h : l.Pairwise (· < ·)) : ascL l = true := by
  induction l with
  | nil => rfl
  | cons x t ih =>
    cases t with
    | nil => rfl
    | cons y t =>
      simp only [ascL, Bool.and_eq_true, decide_eq_true_eq]
      exact ⟨List.rel_of_pairwise_cons h List.mem_cons_self, ih h.of_cons⟩
/-- Other cuts in the same ring. -/
theorem ring_with {n h : Int} {c d : List Int} (hv : ringB n h c = true) (hd : ∀ x ∈ d, 0 ≤ x ∧ x < n) (hp : d.Pairwise (· < ·)) : ringB n h d = true := by
  have V := ringV_of hv
  have h3 := V.n3
  have h10 := V.n10
  unfold ringB at hv ⊢
  simp only [Bool.and_eq_true] at hv ⊢
  refine ⟨hv.1, hv.2.1, ?_, asc_of hp⟩
  rw [List.all_eq_true]
  intro x hx
  have := hd x hx
  unfold linkB
  rw [wrap_eq (by omega) (by omega)]
  simp only [Bool.and_eq_true, decide_eq_true_eq]
  omega
theorem not_mem_of {c : List Int} {a : Int} (hc : hasL c a = false) : a ∉ c := fun hm => by rw [(hasL_iff c a).2 hm] at hc; cases hc
/-- What was cut is mended: the ring is as it was. -/
theorem cut_mend {n h : Int} {c : List Int} {a : Int} (hv : ringB n h c = true) (ha : inB n a = true) (hc : hasL c a = false) :
    mendX n h (filI (fun x => decide (x = a) || hasL c x) n.toNat 0) a = (n, h, c, true) ∧ ringB n h (filI (fun x => decide (x = a) || hasL c x) n.toNat 0) = true ∧ (filI (fun x => decide (x = a) || hasL c x) n.toNat 0).length = c.length + 1 := by
  have V := ringV_of hv
  have h3 := V.n3
  have ha' := (inB_iff V a).1 ha
  have hp := filI_pairwise (fun x => decide (x = a) || hasL c x) n.toNat 0
  have hmem : ∀ x, x ∈ filI (fun x => decide (x = a) || hasL c x) n.toNat 0 ↔ x = a ∨ x ∈ c := by
    intro x
    rw [filI_mem, Bool.or_eq_true, decide_eq_true_eq, hasL_iff]
    constructor
    · rintro ⟨_, _, hx⟩; exact hx
    · rintro (hx | hx)
      · subst hx; exact ⟨by omega, by omega, Or.inl rfl⟩
      · have := V.cut x hx
        exact ⟨by omega, by omega, Or.inr hx⟩
  have hr : ringB n h (filI (fun x => decide (x = a) || hasL c x) n.toNat 0) = true := by
    refine ring_with hv (fun x hx => ?_) hp
    rcases (hmem x).1 hx with e | e
    · subst e; exact ha'
    · exact V.cut x e
  have hnd : (c ++ [a]).Nodup := by
    rw [List.nodup_append]
    refine ⟨lt_nodup (asc_pairwise c V.asc), by simp, fun x hx y hy => ?_⟩
    rw [List.mem_singleton] at hy
    subst hy
    exact fun e => not_mem_of hc (e ▸ hx)
  have hperm : (filI (fun x => decide (x = a) || hasL c x) n.toNat 0).Perm (c ++ [a]) := by
    refine (List.perm_ext_iff_of_nodup (lt_nodup hp) hnd).2 (fun x => ?_)
    rw [hmem, List.mem_append, List.mem_singleton]
    exact or_comm
  have hfil : (filI (fun x => decide (x = a) || hasL c x) n.toNat 0).filter (fun x => !(x == a)) = c := by
    refine sort_uniq (lt_le (hp.filter _)) (lt_le (asc_pairwise c V.asc)) ?_
    refine (hperm.filter _).trans ?_
    rw [List.filter_append, List.filter_cons_of_neg (by simp), List.filter_nil, List.append_nil, List.filter_eq_self.2 (fun x hx => by
      have : x ≠ a := fun e => not_mem_of hc (e ▸ hx)
      simp [this])]
  refine ⟨?_, hr, by rw [hperm.length_eq]; simp⟩
  unfold mendX
  rw [hr, (hasL_iff _ a).2 ((hmem a).2 (Or.inl rfl)), if_pos (by decide), hfil]
theorem mend_ring {n h : Int} {c : List Int} {a : Int} (hv : ringB n h c = true) : ringB n h (c.filter (fun x => !(x == a))) = true := by
  have V := ringV_of hv
  exact ring_with hv (fun x hx => V.cut x ((List.mem_filter.1 hx).1)) ((asc_pairwise c V.asc).filter _)
theorem mend_len {n h : Int} {c : List Int} {a : Int} (hv : ringB n h c = true) (hc : hasL c a = true) : (c.filter (fun x => !(x == a))).length + 1 = c.length ∧ hasL (c.filter (fun x => !(x == a))) a = false := by
  have V := ringV_of hv
  have hm := (hasL_iff c a).1 hc
  have hno : a ∉ c.filter (fun x => !(x == a)) := fun h => by
    have := (List.mem_filter.1 h).2
    simp at this
  constructor
  · have hnd : (c.filter (fun x => !(x == a)) ++ [a]).Nodup := by
      rw [List.nodup_append]
      refine ⟨lt_nodup ((asc_pairwise c V.asc).filter _), by simp, fun x hx y hy => ?_⟩
      rw [List.mem_singleton] at hy
      subst hy
      exact fun e => hno (e ▸ hx)
    have hperm : (c.filter (fun x => !(x == a)) ++ [a]).Perm c := by
      refine (List.perm_ext_iff_of_nodup hnd (lt_nodup (asc_pairwise c V.asc))).2 (fun x => ?_)
      rw [List.mem_append, List.mem_filter, List.mem_singleton]
      constructor
      · rintro (h | h)
        · exact h.1
        · exact h ▸ hm
      · intro h
        by_cases e : x = a
        · exact Or.inr e
        · exact Or.inl ⟨h, by simp [e]⟩
    have := hperm.length_eq
    simpa using this
  · cases e : hasL (c.filter (fun x => !(x == a))) a with
    | false => rfl
    | true => exact absurd ((hasL_iff _ a).1 e) hno
theorem conn_of {n h : Int} {c : List Int} {s b : Int} {z : Int} (hv : ringB n h c = true) (hz : 0 ≤ z ∧ z < n) (ho : opB h c z = false) (hs : 0 ≤ s ∧ s < n) (hb : 0 ≤ b ∧ b < n) : b ∈ reachX n h c s ↔ connB (opB h c) (stZ n z) (posZ n z s) (posZ n z b) = true := by
  rw [reach_in]
  have e := pathX_empty hv hz ho hs hb
  constructor
  · intro hne
    cases hq : connB (opB h c) (stZ n z) (posZ n z s) (posZ n z b) with
    | true => rfl
    | false => rw [hq] at e; exact absurd (by simpa using e) hne
  · intro hq hnil
    rw [hq, hnil] at e
    cases e
theorem reach_ok {n h : Int} {c : List Int} {s b : Int} (hb : b ∈ reachX n h c s) : (0 ≤ s ∧ s < n) ∧ (0 ≤ b ∧ b < n) := (pathX_some (reach_in.1 hb)).2
/-- Whom one reached, one reaches still. -/
theorem reach_more {n h : Int} {c : List Int} {a s b : Int} (hv : ringB n h c = true) (hb : b ∈ reachX n h c s) : b ∈ reachX n h (c.filter (fun x => !(x == a))) s := by
  obtain ⟨hs, hb2⟩ := reach_ok hb
  have V := ringV_of hv
  have h3 := V.n3
  have hv2 := mend_ring (a := a) hv
  have V2 := ringV_of hv2
  cases hd : c.filter (fun x => !(x == a)) with
  | nil =>
    rw [hd] at hv2 V2
    obtain ⟨z1, z2, z3⟩ := zOf_ok V2
    have S := rowZ V2 ⟨z1, z2⟩ z3
    have p1 := posZ_lt ⟨z1, z2⟩ hs
    have p2 := posZ_lt ⟨z1, z2⟩ hb2
    rw [conn_of hv2 ⟨z1, z2⟩ z3 hs hb2, connB_iff]
    intro m hm
    refine one_closed (by simp) (fun e => ?_)
    have e2 : stZ n (zOf h []) (n.toNat - 1) = zOf h [] := by unfold stZ; split <;> omega
    have := S.inj m (n.toNat - 1) (by omega) (by omega) (by rw [e, e2])
    omega
  | cons z t =>
    have hzm : z ∈ c.filter (fun x => !(x == a)) := by rw [hd]; exact List.mem_cons_self
    have hzc := (List.mem_filter.1 hzm).1
    have hz := V.cut z hzc
    have hc0 : c.length ≠ 0 := fun e => by rw [List.length_eq_zero_iff.1 e] at hzc; cases hzc
    have hd0 : (c.filter (fun x => !(x == a))).length ≠ 0 := fun e => by rw [List.length_eq_zero_iff.1 e] at hzm; cases hzm
    have o1 : opB h c z = false := by unfold opB; rw [if_neg hc0, (hasL_iff c z).2 hzc]; rfl
    have o2 : opB h (c.filter (fun x => !(x == a))) z = false := by unfold opB; rw [if_neg hd0, (hasL_iff _ z).2 hzm]; rfl
    rw [← hd]
    rw [conn_of hv hz o1 hs hb2, connB_iff] at hb
    rw [conn_of hv2 hz o2 hs hb2, connB_iff]
    intro m hm
    have := hb m hm
    unfold opB at this ⊢
    rw [if_neg hc0] at this
    rw [if_neg hd0]
    cases e : hasL (c.filter (fun x => !(x == a))) (stZ n z m) with
    | false => rfl
    | true =>
      have := (hasL_iff c _).2 ((List.mem_filter.1 ((hasL_iff _ _).1 e)).1)
      simp_all

end Go.Proofs.Ytdnehickciaiiaa.PAll
