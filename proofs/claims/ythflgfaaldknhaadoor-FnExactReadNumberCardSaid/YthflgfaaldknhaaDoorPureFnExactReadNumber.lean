/- FnExactReadNumber: for every string the program's ReadNumber returns what the reference's returns. No condition but that package-level variables start as the program's text lays them. -/
import Derived.Test.YthflgfaaldknhaaDoorPAllx2
namespace Go.Proofs.YthflgfaaldknhaaDoor.Pure
open Go.RowKit Go.Proofs.YthflgfaaldknhaaDoor.PAll Go.Proofs.YthflgfaaldknhaaDoorW.PrintWords Go.Proofs.YthflgfaaldknhaaDoorW.PrintLast Go.Proofs.YthflgfaaldknhaaDoorW.PrintMore

theorem FnExactReadNumber : laws_FnExactReadNumber.Pure := by
  intro s _
  refine ⟨20, ?_⟩
  unfold laws_FnExactReadNumber.f
  by_cases c : (s.size : Int) > 1048576
  · rw [if_pos c]
  rw [if_neg c, snum_eq s (by omega) 20 (by omega), Option.bind_some, inum_eq s (by omega), Option.bind_some, if_pos rfl]

end Go.Proofs.YthflgfaaldknhaaDoor.Pure
