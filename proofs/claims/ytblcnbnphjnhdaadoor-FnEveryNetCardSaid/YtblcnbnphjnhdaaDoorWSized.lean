-- word file of print.sh, of which prune.py left out what nothing names
import Derived.SizedLaws
import Derived.ChangeSlices
namespace Go.Proofs.YtblcnbnphjnhdaaDoorW.PrintWords
open Go.ChangeShapes Go.WideShapes
end Go.Proofs.YtblcnbnphjnhdaaDoorW.PrintWords
