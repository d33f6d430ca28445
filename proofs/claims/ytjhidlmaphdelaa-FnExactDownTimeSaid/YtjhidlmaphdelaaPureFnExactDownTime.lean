/- FnExactDownTime: for all arguments the program's DownTime returns what the reference's returns, and leaves its argument as it was. No condition. -/
import Derived.Test.YtjhidlmaphdelaaPAllx1003
import Derived.Test.YtjhidlmaphdelaaPAllx24702
import Derived.Test.YtjhidlmaphdelaaPAllx76693
namespace Go.Proofs.Ytjhidlmaphdelaa.Pure
open Go.RowKit Go.Proofs.Ytjhidlmaphdelaa.PAll Go.Proofs.YtjhidlmaphdelaaW.PrintWords Go.Proofs.YtjhidlmaphdelaaW.PrintLast Go.Proofs.YtjhidlmaphdelaaW.PrintMore

theorem FnExactDownTime : laws_FnExactDownTime.Pure := by
  intro l a b h1 _ _ _ _
  refine ⟨l.length + 3000, ?_⟩
  unfold laws_FnExactDownTime.f
  by_cases hl : (l.length : Int) > 1048576
  · rw [if_pos hl]
  · rw [if_neg hl, toIntS_eq l (by omega) _ (by omega), Option.bind_some, sdown_eq l a b (by omega) _ (by omega) (by omega), Option.bind_some, Option.bind_some, idown_eq l a b _ (by omega), Option.bind_some, if_pos rfl, Option.bind_some, eqIntS_eq l (by omega) _ (by omega), Option.bind_some, if_pos rfl]

end Go.Proofs.Ytjhidlmaphdelaa.Pure
