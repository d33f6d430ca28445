/- FnEveryNet: for every network and all frames whatever both runs return the same; each frame comes to whom it is for, and to nobody else, and goes over cables of its flood alone; the network's text is empty where the network is none. No condition. -/
import Derived.Test.YtblcnbnphjnhdaaDoorPAllx9
namespace Go.Proofs.YtblcnbnphjnhdaaDoor.Pure
open Go.RowKit Go.Proofs.YtblcnbnphjnhdaaDoor.PAll Go.Proofs.YtblcnbnphjnhdaaDoorW.PrintWords Go.Proofs.YtblcnbnphjnhdaaDoorW.PrintLast Go.Proofs.YtblcnbnphjnhdaaDoorW.PrintMore

theorem FnEveryNet : laws_FnEveryNet.Pure := fun _ _ _ _ _ _ _ _ _ _ => ⟨0, rfl⟩

end Go.Proofs.YtblcnbnphjnhdaaDoor.Pure
