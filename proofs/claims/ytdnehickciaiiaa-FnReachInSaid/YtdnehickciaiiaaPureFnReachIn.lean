/- FnReachIn: at every draw the program's ReachIn returns what the reference's returns; the stations ascend, each of them comes to the same ones, and the station itself is among them. No condition. -/
import Derived.Test.YtdnehickciaiiaaPAllx1
import Derived.Test.YtdnehickciaiiaaPAllx2
import Derived.Test.YtdnehickciaiiaaPAllx6
import Derived.Test.YtdnehickciaiiaaPAllx9
import Derived.Test.YtdnehickciaiiaaPAllx11
import Derived.Test.YtdnehickciaiiaaPAllx13
namespace Go.Proofs.Ytdnehickciaiiaa.Pure
open Go.RowKit Go.Proofs.Ytdnehickciaiiaa.PAll Go.Proofs.YtdnehickciaiiaaW.PrintWords Go.Proofs.YtdnehickciaiiaaW.PrintLast Go.Proofs.YtdnehickciaiiaaW.PrintMore

theorem reach_loop {n h : Int} {c : List Int} {a : Int} (hc : c.length ≤ 11) (d : Nat) : ∀ (k i : Nat), i + d = (reachX n h c a).length → d + 100 < k → laws_FnReachIn.l0 k a (reachX n h c a) (reachX n h c a) (reachX n h c a).length (i : Int) n h c = some true := by
  have l1 := reachX_len n h c a
  induction d with
  | zero =>
    intro k i h1 hk
    obtain ⟨k, rfl⟩ : ∃ m, k = m + 1 := ⟨k - 1, by omega⟩
    simp only [laws_FnReachIn.l0]
    rw [if_neg (by omega)]
    by_cases e : (reachX n h c a).length = 0
    · rw [if_pos (by omega)]
    · have hne : reachX n h c a ≠ [] := fun x => e (by rw [x]; rfl)
      rw [if_neg (by omega), wnHas_eq _ a (by omega) k (by omega), Option.bind_some, (hasL_iff _ _).2 (reach_self hne)]
  | succ d ih =>
    intro k i h1 hk
    obtain ⟨k, rfl⟩ : ∃ m, k = m + 1 := ⟨k - 1, by omega⟩
    have hi : i < (reachX n h c a).length := by omega
    have ih' := ih k (i + 1) (by omega) (by omega)
    have hs := reach_same (List.getElem_mem hi)
    simp only [laws_FnReachIn.l0]
    rw [if_pos (by omega), if_pos (by omega), if_pos (by omega), rd_get _ i hi]
    by_cases c0 : (i : Int) > 0
    · obtain ⟨j, rfl⟩ : ∃ j, i = j + 1 := ⟨i - 1, by omega⟩
      have e1 : wrap64 (((j + 1 : Nat) : Int) - 1) = (j : Int) := by rw [wrap_eq (by omega) (by omega)]; omega
      have hasc : (reachX n h c a)[j]'(by omega) < (reachX n h c a)[j + 1] := by
        have e : reachX n h c a = filI (fun b => !(pathX n h c a b).isEmpty) n.toNat 0 := by
          unfold reachX
          by_cases hv : ringB n h c = true
          · rw [if_pos hv]
          · exfalso
            have : reachX n h c a = [] := by unfold reachX; rw [if_neg hv]
            rw [this] at hi; simp at hi
        simp only [e] at hi ⊢
        exact filI_asc _ _ _ j hi
      rw [if_pos c0, e1, if_pos (by omega), if_pos (by omega), rd_get _ j (by omega), if_neg (by omega), ireach_eq n h c _ k (by omega), Option.bind_some, hs, wnInts_eq _ _ (by omega) k (by omega), Option.bind_some, if_pos (by simp), wrap_succ hi (by omega), ih']
    · rw [if_neg c0, ireach_eq n h c _ k (by omega), Option.bind_some, hs, wnInts_eq _ _ (by omega) k (by omega), Option.bind_some, if_pos (by simp), wrap_succ hi (by omega), ih']
theorem FnReachIn : laws_FnReachIn.Pure := by
  intro l0 _ _ hw
  obtain ⟨n, h, c, a, hc, hd⟩ := drawReach_ok hw
  refine ⟨3001, ?_⟩
  unfold laws_FnReachIn.f
  by_cases hs : (l0.length : Int) > 1048576
  · rw [if_pos hs]
  have l1 := reachX_len n h c a
  rw [if_neg hs, hd _ (by omega), Option.bind_some]
  simp only []
  rw [ireach_eq n h c a _ (by omega), Option.bind_some, sreach_eq n h c a (by omega) _ (by omega), Option.bind_some, wnInts_eq _ _ (by omega) _ (by omega), Option.bind_some, if_pos (by simp)]
  exact reach_loop hc (reachX n h c a).length 3001 0 (by omega) (by omega)

end Go.Proofs.Ytdnehickciaiiaa.Pure
