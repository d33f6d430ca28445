/- FnExactNetValid: for all arguments the program's NetValid returns what the reference's returns, and leaves its argument as it was. No condition. -/
import Derived.Test.YtdamdcdjodmemaaPAllx2
import Derived.Test.YtdamdcdjodmemaaPAllx3
namespace Go.Proofs.Ytdamdcdjodmemaa.Pure
open Go.RowKit Go.Proofs.Ytdamdcdjodmemaa.PAll Go.Proofs.YtdamdcdjodmemaaW.PrintWords Go.Proofs.YtdamdcdjodmemaaW.PrintLast Go.Proofs.YtdamdcdjodmemaaW.PrintMore

theorem FnExactNetValid : laws_FnExactNetValid.Pure := by
  intro n cs hs vs _ h1 h2 h3
  obtain ⟨m, hm, hm2⟩ := szNet_eq n cs hs vs h1.1 h2.1 h3.1
  refine ⟨cs.length + hs.length + vs.length + 100, ?_⟩
  unfold laws_FnExactNetValid.f
  rw [hm, Option.bind_some]
  by_cases c : m < 0
  · rw [if_pos c]
  obtain ⟨hl, _, _⟩ := hm2 c
  have hc := cvC_len cs
  rw [if_neg c, toNet_eq n cs hs vs hl _ (by omega), Option.bind_some]
  simp only []
  rw [snet_eq n _ hs vs (by omega) (by omega) (by omega) _ (by omega), Option.bind_some, Option.bind_some]
  simp only []
  rw [inet_eq, Option.bind_some, if_neg (by simp), Option.bind_some]
  simp only []
  rw [eqNet_eq n _ hs vs (by omega) _ (by omega), Option.bind_some, if_pos rfl]

end Go.Proofs.Ytdamdcdjodmemaa.Pure
