/- FnExactReadWords: for every string the program's ReadWords returns what the reference's returns, in memory of its own. No condition but that package-level variables start as the program's text lays them. -/
import Derived.Test.YthflgfaaldknhaaDoorPAllx2
import Derived.Test.YthflgfaaldknhaaDoorPAllx3
namespace Go.Proofs.YthflgfaaldknhaaDoor.Pure
open Go.RowKit Go.Proofs.YthflgfaaldknhaaDoor.PAll Go.Proofs.YthflgfaaldknhaaDoorW.PrintWords Go.Proofs.YthflgfaaldknhaaDoorW.PrintLast Go.Proofs.YthflgfaaldknhaaDoorW.PrintMore

theorem FnExactReadWords : laws_FnExactReadWords.Pure := by
  intro s _
  refine ⟨3 * s.size + 100, ?_⟩
  unfold laws_FnExactReadWords.f
  by_cases c : (s.size : Int) > 1048576
  · rw [if_pos c]
  have hl := words_len s
  obtain ⟨y, hm, hh⟩ := markS_ok (wordsB s) (by omega)
  rw [if_neg c, swords_eq s (by omega) _ (by omega), Option.bind_some, iwords_eq s (by omega) _ (by omega), Option.bind_some, eqS_eq _ (by omega) _ (by omega), Option.bind_some, if_pos rfl, hm _ (by omega), Option.bind_some]
  simp only []
  rw [hh _ (by omega), Option.bind_some, if_neg (by omega), if_pos rfl, Option.bind_some, eqS_eq _ (by omega) _ (by omega), Option.bind_some, if_pos rfl, Option.bind_some, if_neg (by omega), if_pos rfl]

end Go.Proofs.YthflgfaaldknhaaDoor.Pure
