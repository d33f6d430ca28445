/- FnExactPolicePulses: for all arguments the program's PolicePulses returns what the reference's returns, leaves its arguments as they were, and its result shares no memory with them or with another result. No condition. -/
import Derived.Test.YtfbicfnokibobaaPAllx1
import Derived.Test.YtfbicfnokibobaaPAllx2
import Derived.Test.YtfbicfnokibobaaPAllx3
import Derived.Test.YtfbicfnokibobaaPAllx9
namespace Go.Proofs.Ytfbicfnokibobaa.Pure
open Go.RowKit Go.Proofs.Ytfbicfnokibobaa.PAll Go.Proofs.YtfbicfnokibobaaW.PrintWords Go.Proofs.YtfbicfnokibobaaW.PrintLast Go.Proofs.YtfbicfnokibobaaW.PrintMore

theorem FnExactPolicePulses : laws_FnExactPolicePulses.Pure := by
  intro r b l _ _ h
  obtain ⟨n, hn, hn2⟩ := szPulse_eq l h.1
  suffices g : ∀ k, l.length + 4000 < k → laws_FnExactPolicePulses.f k r b l = some true from ⟨l.length + 4001, g _ (by omega)⟩
  intro k hk
  obtain ⟨k, rfl⟩ : ∃ m, k = m + 1 := ⟨k - 1, by omega⟩
  unfold laws_FnExactPolicePulses.f
  rw [hn, Option.bind_some]
  by_cases c : n < 0
  · rw [if_pos c]
  have hl := hn2 c
  have hc := cvP_len l
  have hp : (polF r b (cvP l)).length ≤ l.length := by unfold polF; split <;> simp [polL_len, hc]
  obtain ⟨x, hx⟩ := markPulse_eq (cvP l) (by omega) (k + 1) (by omega)
  rw [if_neg c, toPulse_eq l hl _ (by omega), Option.bind_some, spol_eq r b _ (by omega) _ (by omega), Option.bind_some, Option.bind_some, ipol_eq, Option.bind_some, eqBool_eq _ (by omega) _ (by omega), Option.bind_some, if_pos rfl, Option.bind_some, eqPulse_eq _ (by omega) _ (by omega), Option.bind_some, if_pos rfl, hx, Option.bind_some]
  simp only []
  rw [if_neg (by omega), Option.bind_some]
  simp only [laws_FnExactPolicePulses.j0]
  rw [if_neg (by decide), markBool_eq _ 1 (by omega) (by omega) (by omega) _ (by omega), Option.bind_some]
  simp only []
  rw [heldBool_eq _ 1 (by omega) (by omega) (by omega) _ (by omega), Option.bind_some, if_neg (by omega), if_pos rfl, toPulse_eq l hl _ (by omega), Option.bind_some, ipol_eq, Option.bind_some, eqBool_eq _ (by omega) _ (by omega), Option.bind_some, if_pos rfl, Option.bind_some, if_neg (by omega), if_pos rfl]

end Go.Proofs.Ytfbicfnokibobaa.Pure
