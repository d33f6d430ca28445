/- FnExactTokensAt: for all arguments the program's TokensAt returns what the reference's returns, and leaves its arguments as they were. No condition. -/
import Derived.Test.YtfbicfnokibobaaPAllx1
import Derived.Test.YtfbicfnokibobaaPAllx4
import Derived.Test.YtfbicfnokibobaaPAllx5
namespace Go.Proofs.Ytfbicfnokibobaa.Pure
open Go.RowKit Go.Proofs.Ytfbicfnokibobaa.PAll Go.Proofs.YtfbicfnokibobaaW.PrintWords Go.Proofs.YtfbicfnokibobaaW.PrintLast Go.Proofs.YtfbicfnokibobaaW.PrintMore

theorem FnExactTokensAt : laws_FnExactTokensAt.Pure := by
  intro r b l a _ _ h _
  obtain ⟨n, hn, hn2⟩ := szPulse_eq l h.1
  refine ⟨l.length + 300000, ?_⟩
  unfold laws_FnExactTokensAt.f
  rw [hn, Option.bind_some]
  by_cases c : n < 0
  · rw [if_pos c]
  have hl := hn2 c
  have hc := cvP_len l
  have e0 : impl_TokensAt.f r b (cvP l) a = some (tokF r b (cvP l) a) := rfl
  rw [if_neg c, toPulse_eq l hl _ (by omega), Option.bind_some, stok_eq r b _ a (by omega) _ (by omega), Option.bind_some, Option.bind_some, e0, Option.bind_some, if_pos rfl, Option.bind_some, eqPulse_eq _ (by omega) _ (by omega), Option.bind_some, if_pos rfl]

end Go.Proofs.Ytfbicfnokibobaa.Pure
