/- FnExactReachIn: for all arguments the program's ReachIn returns what the reference's returns, leaves its arguments as they were, and its result shares no memory with them or with another result. No condition. -/
import Derived.Test.YtdnehickciaiiaaPAllx5
import Derived.Test.YtdnehickciaiiaaPAllx6
import Derived.Test.YtdnehickciaiiaaPAllx12
namespace Go.Proofs.Ytdnehickciaiiaa.Pure
open Go.RowKit Go.Proofs.Ytdnehickciaiiaa.PAll Go.Proofs.YtdnehickciaiiaaW.PrintWords Go.Proofs.YtdnehickciaiiaaW.PrintLast Go.Proofs.YtdnehickciaiiaaW.PrintMore

theorem FnExactReachIn : laws_FnExactReachIn.Pure := by
  intro n h c a _ _ hc _
  obtain ⟨m, hm, hm2⟩ := szRing_eq n h c hc.1
  suffices g : ∀ k, c.length + 4000 < k → laws_FnExactReachIn.f k n h c a = some true from ⟨c.length + 4001, g _ (by omega)⟩
  intro k hk
  obtain ⟨k, rfl⟩ : ∃ m, k = m + 1 := ⟨k - 1, by omega⟩
  unfold laws_FnExactReachIn.f
  rw [hm, Option.bind_some]
  by_cases e : m < 0
  · rw [if_pos e]
  have hl := hm2 e
  have hp := reachX_len n h c a
  rw [if_neg e, toRing_eq n h c hl _ (by omega), Option.bind_some]
  simp only []
  rw [sreach_eq n h c a (by omega) _ (by omega), Option.bind_some, Option.bind_some]
  simp only []
  rw [ireach_eq n h c a _ (by omega), Option.bind_some, eqIntS_eq _ (by omega) _ (by omega), Option.bind_some, if_pos rfl, Option.bind_some]
  simp only []
  rw [eqRing_eq n h c (by omega) _ (by omega), Option.bind_some, if_pos rfl, markRing_eq n h c (by omega) _ (by omega), Option.bind_some]
  simp only []
  rw [if_neg (by omega), Option.bind_some]
  simp only [laws_FnExactReachIn.j0]
  rw [if_neg (by decide), markInt_eq _ 1 (by omega) (by omega) (by omega) _ (by omega), Option.bind_some]
  simp only []
  rw [heldInt_eq _ 1 (by omega) (by omega) (by omega) _ (by omega), Option.bind_some, if_neg (by omega), if_pos rfl, toRing_eq n h c hl _ (by omega), Option.bind_some]
  simp only []
  rw [ireach_eq n h c a _ (by omega), Option.bind_some, eqIntS_eq _ (by omega) _ (by omega), Option.bind_some, if_pos rfl, Option.bind_some, if_neg (by omega), if_pos rfl]

end Go.Proofs.Ytdnehickciaiiaa.Pure
