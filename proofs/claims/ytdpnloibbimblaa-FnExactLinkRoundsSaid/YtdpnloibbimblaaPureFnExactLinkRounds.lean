/- FnExactLinkRounds: for all arguments the program's LinkRounds returns what the reference's returns, and leaves its arguments as they were. No condition. -/
import Derived.Test.YtdpnloibbimblaaPAllx3
import Derived.Test.YtdpnloibbimblaaPAllx9
import Derived.Test.YtdpnloibbimblaaPAllx11
namespace Go.Proofs.Ytdpnloibbimblaa.Pure
open Go.RowKit Go.Proofs.Ytdpnloibbimblaa.PAll Go.Proofs.YtdpnloibbimblaaW.PrintWords Go.Proofs.YtdpnloibbimblaaW.PrintLast Go.Proofs.YtdpnloibbimblaaW.PrintMore

theorem FnExactLinkRounds : laws_FnExactLinkRounds.Pure := by
  intro a0 l1 l2 l3 _ hm1 _ _ _ _ _ _
  have hb : bytesB l1 = true := bytesB_of (byteWf (fun y hy => (hm1.2 y hy).2))
  obtain ⟨t, ht, hq⟩ := szSS_eq l1 hm1.1 (fun y hy => (hm1.2 y hy).1)
  by_cases c2 : (l2.length : Int) > 1048576
  · exact ⟨0, by unfold laws_FnExactLinkRounds.f; rw [if_pos c2]⟩
  · by_cases c3 : (l3.length : Int) > 1048576
    · exact ⟨0, by unfold laws_FnExactLinkRounds.f; rw [if_neg c2, if_pos c3]⟩
    · by_cases c1 : t < 0
      · exact ⟨2000001, by unfold laws_FnExactLinkRounds.f; rw [if_neg c2, if_neg c3, ht 2000001 (by omega), Option.bind_some, if_pos c1]⟩
      · obtain ⟨q1, q2⟩ := hq c1
        refine ⟨9000000, ?_⟩
        have hS := lrS_eq (a0 := a0) (l2 := l2) (l3 := l3) hb (by omega) (by omega) (by omega) 9000000 (by omega)
        have hI := lrI_eq (a0 := a0) (l2 := l2) (l3 := l3) hb
        have hT := tbSS_eq l1 q1 q2 9000000 (by omega)
        have hE := eqSS_eq l1 q1 q2 9000000 (by omega)
        have hT2 := toIntS_eq l2 (by omega) 9000000 (by omega)
        have hT3 := toIntS_eq l3 (by omega) 9000000 (by omega)
        have hE2 := eqIntS_eq l2 (by omega) 9000000 (by omega)
        have hE3 := eqIntS_eq l3 (by omega) 9000000 (by omega)
        have hz := ht 9000000 (by omega)
        generalize (9000000 : Nat) = K at hS hT hE hT2 hT3 hE2 hE3 hz ⊢
        unfold laws_FnExactLinkRounds.f
        rw [if_neg c2, if_neg c3, hz, Option.bind_some, if_neg c1, hT, Option.bind_some, hT2, Option.bind_some, hT3, Option.bind_some, hS, Option.bind_some]
        rw [Option.bind_some, Option.bind_some, Option.bind_some, hI, Option.bind_some, if_pos rfl, Option.bind_some, hE, Option.bind_some, if_pos rfl, Option.bind_some, hE2, Option.bind_some, if_pos rfl, Option.bind_some, hE3, Option.bind_some, if_pos rfl]

end Go.Proofs.Ytdpnloibbimblaa.Pure
