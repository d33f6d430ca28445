/- FnRingPath: at every draw the program's PathIn returns what the reference's returns; a way leads from the one station to the other, over links over which frames go, to no station twice. No condition. -/
import Derived.Test.YtdnehickciaiiaaPAllx1
import Derived.Test.YtdnehickciaiiaaPAllx2
import Derived.Test.YtdnehickciaiiaaPAllx6
import Derived.Test.YtdnehickciaiiaaPAllx9
import Derived.Test.YtdnehickciaiiaaPAllx10
import Derived.Test.YtdnehickciaiiaaPAllx13
namespace Go.Proofs.Ytdnehickciaiiaa.Pure
open Go.RowKit Go.Proofs.Ytdnehickciaiiaa.PAll Go.Proofs.YtdnehickciaiiaaW.PrintWords Go.Proofs.YtdnehickciaiiaaW.PrintLast Go.Proofs.YtdnehickciaiiaaW.PrintMore

theorem way_loop {n h : Int} {c : List Int} {a b : Int} {N : Nat} {st : Nat → Int} {i j : Nat} (hv : ringB n h c = true) (W : WayS n h c a b N st i j) (d : Nat) : ∀ (k t : Nat), 1 ≤ t → t + d = (pathX n h c a b).length → 2 * d + 100 < k → laws_FnRingPath.l0 k a b (pathX n h c a b) (openX n h c) (t : Int) n h c = some true := by
  have V := ringV_of hv
  have h3 := V.n3
  have h10 := V.n10
  have l1 := pathX_len n h c a b
  have l2 := openX_len n h c
  induction d with
  | zero =>
    intro k t h1 h2 hk
    obtain ⟨k, rfl⟩ : ∃ m, k = m + 1 := ⟨k - 1, by omega⟩
    have hw := way_ends W (by omega) (by omega)
    have e1 : wrap64 (((pathX n h c a b).length : Int) - 1) = (((pathX n h c a b).length - 1 : Nat) : Int) := by rw [wrap_eq (by omega) (by omega)]; omega
    have e2 : rd (pathX n h c a b) 0 = (pathX n h c a b)[0]'(by omega) := rd_get _ 0 (by omega)
    simp only [laws_FnRingPath.l0]
    rw [if_neg (by omega), if_pos (by omega), e2, hw.1, if_pos rfl, e1, if_pos (by omega), if_pos (by omega), rd_get _ _ (by omega), hw.2]
    simp
  | succ d ih =>
    intro k t h1 h2 hk
    obtain ⟨k, rfl⟩ : ∃ m, k = m + 1 + 1 := ⟨k - 2, by omega⟩
    obtain ⟨t, rfl⟩ : ∃ u, t = u + 1 := ⟨t - 1, by omega⟩
    obtain ⟨r1, r2, r3, r4⟩ := way_step W t (by omega)
    have ih' := ih k (t + 1 + 1) (by omega) (by omega) (by omega)
    have e1 : wrap64 (((t + 1 : Nat) : Int) - 1) = (t : Int) := by rw [wrap_eq (by omega) (by omega)]; omega
    have e2 : (((t + 1 : Nat) : Int)).toNat = t + 1 := by omega
    have ws := wrap_succ (show t + 1 < (pathX n h c a b).length by omega) (by omega)
    have o1 := openX_has hv r1
    have o2 := openX_has hv r2
    generalize hP : (pathX n h c a b)[t]'(by omega) = P at r1 r3 o1
    generalize hQ : (pathX n h c a b)[t + 1]'(by omega) = Q at r2 r3 r4 o2
    have fin : ∀ x : Bool, (x = true ∨ nxS n Q = P ∧ opB h c Q = true) → laws_FnRingPath.j2 (k + 1) a b (pathX n h c a b) (openX n h c) ((t + 1 : Nat) : Int) P Q x n h c = some true := by
      intro x hx
      simp only [laws_FnRingPath.j2]
      rw [if_neg (by omega), nxS_eq1 ⟨h3, h10⟩ r2, wnHas_eq _ Q (by omega) k (by omega), wnHas_eq _ Q (by rw [List.length_take]; omega) k (by rw [List.length_take]; omega), o2, e2, r4, ws]
      simp only [Option.bind_some]
      rw [if_pos (show (0 : Int) ≤ ((t + 1 : Nat) : Int) by omega), if_pos (show ((t + 1 : Nat) : Int) ≤ ((pathX n h c a b).length : Int) by omega), if_neg (show ¬ (false = true) by decide), ih']
      cases x with
      | true => simp
      | false =>
        rcases hx with hx | ⟨x1, x2⟩
        · cases hx
        · rw [if_pos x1, x2]; simp
    simp only [laws_FnRingPath.l0]
    rw [e1, if_pos (by omega), if_pos (by omega), if_pos (by omega), if_pos (by omega), if_neg (by omega), rd_get _ t (by omega), rd_get _ (t + 1) (by omega), hP, hQ, nxS_eq1 ⟨h3, h10⟩ r1]
    by_cases c1 : nxS n P = Q
    · rw [if_pos c1, wnHas_eq _ P (by omega) (k + 1) (by omega), Option.bind_some, o1]
      refine fin _ ?_
      rcases r3 with ⟨_, x⟩ | x
      · exact Or.inl x
      · exact Or.inr x
    · rw [if_neg c1]
      refine fin _ ?_
      rcases r3 with ⟨x, _⟩ | x
      · exact absurd x c1
      · exact Or.inr x
theorem FnRingPath : laws_FnRingPath.Pure := by
  intro l0 _ _ hw
  obtain ⟨n, h, c, a, b, hc, hd⟩ := drawPath_ok hw
  refine ⟨3001, ?_⟩
  unfold laws_FnRingPath.f
  by_cases hs : (l0.length : Int) > 1048576
  · rw [if_pos hs]
  have l1 := pathX_len n h c a b
  rw [if_neg hs, hd _ (by omega), Option.bind_some]
  simp only []
  rw [ipathin_eq n h c a b _ (by omega), Option.bind_some, spathin_eq n h c a b (by omega) _ (by omega), Option.bind_some, wnInts_eq _ _ (by omega) _ (by omega), Option.bind_some, if_pos (by simp)]
  obtain ⟨k, hk⟩ : ∃ k : Nat, 3001 = k + 1 := ⟨3000, rfl⟩
  rw [hk]
  simp only [laws_FnRingPath.j0]
  by_cases hne : pathX n h c a b = []
  · rw [hne, if_pos (by decide), spathin_eq n h c a b (by omega) _ (by omega), Option.bind_some, hne, wnInts_eq _ _ (by simp) _ (by simp; omega), Option.bind_some]
    rfl
  · obtain ⟨hv, _, _⟩ := pathX_some hne
    obtain ⟨N, st, i, j, W⟩ := wayS_of hne
    have hpos : 0 < (pathX n h c a b).length := List.length_pos_iff.2 hne
    have hl : ((((pathX n h c a b).length : Int)) == 0) = false := beq_eq_false_iff_ne.2 (by omega)
    rw [hl, if_neg (by decide), iopens_eq n h c _ (by omega), Option.bind_some]
    exact way_loop hv W ((pathX n h c a b).length - 1) k 1 (by omega) (by omega) (by omega)

end Go.Proofs.Ytdnehickciaiiaa.Pure
