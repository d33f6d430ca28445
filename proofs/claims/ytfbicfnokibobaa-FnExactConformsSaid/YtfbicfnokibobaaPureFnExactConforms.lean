/- FnExactConforms: for all arguments the program's Conforms returns what the reference's returns, and leaves its arguments as they were. No condition. -/
import Derived.Test.YtfbicfnokibobaaPAllx1
import Derived.Test.YtfbicfnokibobaaPAllx3
import Derived.Test.YtfbicfnokibobaaPAllx8
namespace Go.Proofs.Ytfbicfnokibobaa.Pure
open Go.RowKit Go.Proofs.Ytfbicfnokibobaa.PAll Go.Proofs.YtfbicfnokibobaaW.PrintWords Go.Proofs.YtfbicfnokibobaaW.PrintLast Go.Proofs.YtfbicfnokibobaaW.PrintMore

theorem FnExactConforms : laws_FnExactConforms.Pure := by
  intro r b l _ _ h
  obtain ⟨n, hn, hn2⟩ := szPulse_eq l h.1
  refine ⟨2 * l.length + 300000, ?_⟩
  unfold laws_FnExactConforms.f
  rw [hn, Option.bind_some]
  by_cases c : n < 0
  · rw [if_pos c]
  have hl := hn2 c
  have hc := cvP_len l
  rw [if_neg c, toPulse_eq l hl _ (by omega), Option.bind_some, sconf_eq r b _ (by omega) _ (by omega), Option.bind_some, Option.bind_some, iconf_eq, Option.bind_some, if_neg (by simp), Option.bind_some, eqPulse_eq _ (by omega) _ (by omega), Option.bind_some, if_pos rfl]

end Go.Proofs.Ytfbicfnokibobaa.Pure
