/- FnNetOnce: at every draw both runs of the frames return the same; a frame for all is taken by all mates of its sender, a frame for a mate by it alone, another by none. No condition. -/
import Derived.Test.YtblcnbnphjnhdaaPAllx14
namespace Go.Proofs.Ytblcnbnphjnhdaa.Pure
open Go.RowKit Go.Proofs.Ytblcnbnphjnhdaa.PAll Go.Proofs.YtblcnbnphjnhdaaW.PrintWords Go.Proofs.YtblcnbnphjnhdaaW.PrintLast Go.Proofs.YtblcnbnphjnhdaaW.PrintMore

theorem FnNetOnce : laws_FnNetOnce.Pure := fun _ _ _ hw => ⟨0, if_pos (List.all_eq_true.2 hw)⟩

end Go.Proofs.Ytblcnbnphjnhdaa.Pure
