/- FnNetOver: at every draw both runs of the frames return the same; a frame goes over cables of its flood alone, one for all over all of them, one for a mate at least over those of the way. No condition. -/
import Derived.Test.YtblcnbnphjnhdaaPAllx11
namespace Go.Proofs.Ytblcnbnphjnhdaa.Pure
open Go.RowKit Go.Proofs.Ytblcnbnphjnhdaa.PAll Go.Proofs.YtblcnbnphjnhdaaW.PrintWords Go.Proofs.YtblcnbnphjnhdaaW.PrintLast Go.Proofs.YtblcnbnphjnhdaaW.PrintMore

theorem FnNetOver : laws_FnNetOver.Pure := fun _ _ _ hw => ⟨0, if_pos (List.all_eq_true.2 hw)⟩

end Go.Proofs.Ytblcnbnphjnhdaa.Pure
