/- FnNetAnswer: at every draw both runs of the frames return the same; a frame that answers the one before it, between mates, goes over the cables of the way alone. No condition. -/
import Derived.Test.YtblcnbnphjnhdaaPAllx11
namespace Go.Proofs.Ytblcnbnphjnhdaa.Pure
open Go.RowKit Go.Proofs.Ytblcnbnphjnhdaa.PAll Go.Proofs.YtblcnbnphjnhdaaW.PrintWords Go.Proofs.YtblcnbnphjnhdaaW.PrintLast Go.Proofs.YtblcnbnphjnhdaaW.PrintMore

theorem FnNetAnswer : laws_FnNetAnswer.Pure := fun _ _ _ hw => ⟨0, if_pos (List.all_eq_true.2 hw)⟩

end Go.Proofs.Ytblcnbnphjnhdaa.Pure
