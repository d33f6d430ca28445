/- FnCutMend: at every draw the program's CutLink returns what the reference's returns; a ring that is cut at one more link is valid and has one more cut, and with that link mended it is the ring that it was. No condition. -/
import Derived.Test.YtdnehickciaiiaaPAllx1
import Derived.Test.YtdnehickciaiiaaPAllx2
import Derived.Test.YtdnehickciaiiaaPAllx5
import Derived.Test.YtdnehickciaiiaaPAllx9
import Derived.Test.YtdnehickciaiiaaPAllx19
import Derived.Test.YtdnehickciaiiaaPAllx20
import Derived.Test.YtdnehickciaiiaaPAllx21
import Derived.Test.YtdnehickciaiiaaPAllx22
namespace Go.Proofs.Ytdnehickciaiiaa.Pure
open Go.RowKit Go.Proofs.Ytdnehickciaiiaa.PAll Go.Proofs.YtdnehickciaiiaaW.PrintWords Go.Proofs.YtdnehickciaiiaaW.PrintLast Go.Proofs.YtdnehickciaiiaaW.PrintMore

theorem FnCutMend : laws_FnCutMend.Pure := by
  intro l0 _ _ hw
  obtain ⟨n, h, c, a, hc, hd⟩ := drawReach_ok hw
  have hdc : ∀ k, 20 < k → spec_DrawCutLink.f k l0 = some (n, h, c, a) := fun k hk => by unfold spec_DrawCutLink.f; rw [hd k hk, Option.bind_some]
  refine ⟨3001, ?_⟩
  unfold laws_FnCutMend.f
  by_cases hs : (l0.length : Int) > 1048576
  · rw [if_pos hs]
  have hx := cutX_len n h c a
  rw [if_neg hs, hdc _ (by omega), Option.bind_some]
  simp only []
  rw [icut_eq n h c a (by omega) _ (by omega), Option.bind_some, scut_eq n h c a (by omega) _ (by omega), Option.bind_some]
  simp only []
  rw [if_neg (by simp), if_pos (by trivial), if_pos (by trivial), wnInts_eq _ _ (by omega) _ (by omega), Option.bind_some, if_pos (by simp)]
  simp only [laws_FnCutMend.j0]
  by_cases hh : (ringB n h c && (inB n a && !hasL c a)) = true
  · have e : cutX n h c a = (n, h, filI (fun x => decide (x = a) || hasL c x) n.toNat 0, true) := by unfold cutX; rw [if_pos hh]
    simp only [Bool.and_eq_true, Bool.not_eq_true'] at hh
    obtain ⟨m1, m2, m3⟩ := cut_mend hh.1 hh.2.1 hh.2.2
    rw [e] at hx ⊢
    simp only [] at hx ⊢
    rw [if_neg (by decide), imend_eq n h _ a (by omega) _ (by omega), Option.bind_some, m1]
    simp only []
    rw [if_pos (by trivial), if_pos (by trivial), if_pos (by trivial), wnInts_eq _ _ (by omega) _ (by omega), Option.bind_some, if_pos (by simp), iring_eq, m2, Option.bind_some, if_pos rfl, wrap_eq (by omega) (by omega), m3]
    simp
  · have e : cutX n h c a = (0, 0, [], false) := by unfold cutX; rw [if_neg hh]
    rw [e]
    simp only []
    rw [if_pos (by decide), if_pos (by decide), if_pos (by trivial), if_pos (by trivial), wnInts_eq _ _ (by simp) _ (by simp), Option.bind_some]
    simp

end Go.Proofs.Ytdnehickciaiiaa.Pure
