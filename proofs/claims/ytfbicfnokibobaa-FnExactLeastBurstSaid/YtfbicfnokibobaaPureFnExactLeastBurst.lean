/- FnExactLeastBurst: for all arguments the program's LeastBurst returns what the reference's returns, and leaves its arguments as they were. No condition. -/
import Derived.Test.YtfbicfnokibobaaPAllx1
import Derived.Test.YtfbicfnokibobaaPAllx10
import Derived.Test.YtfbicfnokibobaaPAllx11
namespace Go.Proofs.Ytfbicfnokibobaa.Pure
open Go.RowKit Go.Proofs.Ytfbicfnokibobaa.PAll Go.Proofs.YtfbicfnokibobaaW.PrintWords Go.Proofs.YtfbicfnokibobaaW.PrintLast Go.Proofs.YtfbicfnokibobaaW.PrintMore

theorem FnExactLeastBurst : laws_FnExactLeastBurst.Pure := by
  intro r l _ h
  obtain ⟨n, hn, hn2⟩ := szPulse_eq l h.1
  refine ⟨2 * l.length + 300000, ?_⟩
  unfold laws_FnExactLeastBurst.f
  rw [hn, Option.bind_some]
  by_cases c : n < 0
  · rw [if_pos c]
  have hl := hn2 c
  have hc := cvP_len l
  have e1 : impl_LeastBurst.f (2 * l.length + 300000) r (cvP l) = some (lbN r (cvP l) 100 1) := ilb_at r _ 100 _ 1 (by omega) (by omega) (by omega)
  have e2 : spec_LeastBurst.f (2 * l.length + 300000) r (cvP l) = some (lbN r (cvP l) 100 1) := slb_at r _ (by omega) 100 _ 1 (by omega) (by omega) (by omega)
  rw [if_neg c, toPulse_eq l hl _ (by omega), Option.bind_some, e2, Option.bind_some, Option.bind_some, e1, Option.bind_some, if_pos rfl, Option.bind_some, eqPulse_eq _ (by omega) _ (by omega), Option.bind_some, if_pos rfl]

end Go.Proofs.Ytfbicfnokibobaa.Pure
