/- FnExactLeastDead: for all arguments the program's LeastDead returns what the reference's returns, and leaves its argument as it was. No condition. -/
import Derived.Test.YtjhidlmaphdelaaPAllx3
import Derived.Test.YtjhidlmaphdelaaPAllx11
import Derived.Test.YtjhidlmaphdelaaPAllx12
namespace Go.Proofs.Ytjhidlmaphdelaa.Pure
open Go.RowKit Go.Proofs.Ytjhidlmaphdelaa.PAll Go.Proofs.YtjhidlmaphdelaaW.PrintWords Go.Proofs.YtjhidlmaphdelaaW.PrintLast Go.Proofs.YtjhidlmaphdelaaW.PrintMore

theorem FnExactLeastDead : laws_FnExactLeastDead.Pure := by
  intro l a h1 _ _ _
  refine ⟨l.length + 3000, ?_⟩
  unfold laws_FnExactLeastDead.f
  by_cases hl : (l.length : Int) > 1048576
  · rw [if_pos hl]
  · rw [if_neg hl, toIntS_eq l (by omega) _ (by omega), Option.bind_some, sleast_eq l a (by omega) _ (by omega) (by omega), Option.bind_some, Option.bind_some, ileast_eq l a _ (by omega), Option.bind_some, if_pos rfl, Option.bind_some, eqIntS_eq l (by omega) _ (by omega), Option.bind_some, if_pos rfl]

end Go.Proofs.Ytjhidlmaphdelaa.Pure
