/- FnExactHeldAt: for all arguments the program's HeldAt returns what the reference's returns, and leaves its argument as it was. No condition. -/
import Derived.Test.YtjhidlmaphdelaaPAllx3
import Derived.Test.YtjhidlmaphdelaaPAllx16
import Derived.Test.YtjhidlmaphdelaaPAllx17
namespace Go.Proofs.Ytjhidlmaphdelaa.Pure
open Go.RowKit Go.Proofs.Ytjhidlmaphdelaa.PAll Go.Proofs.YtjhidlmaphdelaaW.PrintWords Go.Proofs.YtjhidlmaphdelaaW.PrintLast Go.Proofs.YtjhidlmaphdelaaW.PrintMore

theorem FnExactHeldAt : laws_FnExactHeldAt.Pure := by
  intro l a b c d e h1 _ _ _ _ _ _ _
  refine ⟨l.length + 3000, ?_⟩
  unfold laws_FnExactHeldAt.f
  by_cases hl : (l.length : Int) > 1048576
  · rw [if_pos hl]
  · rw [if_neg hl, toIntS_eq l (by omega) _ (by omega), Option.bind_some, sheld_eq l a b c d e (by omega) _ (by omega) (by omega), Option.bind_some, Option.bind_some, show impl_HeldAt.f l a b c d e = some (heldF l a b c d e) from rfl, Option.bind_some, if_neg (by simp), Option.bind_some, eqIntS_eq l (by omega) _ (by omega), Option.bind_some, if_pos rfl]

end Go.Proofs.Ytjhidlmaphdelaa.Pure
