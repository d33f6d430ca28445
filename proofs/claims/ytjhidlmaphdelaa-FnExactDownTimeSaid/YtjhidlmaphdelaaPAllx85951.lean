-- Written by xprint.py, a program of this session, on the ground of the kit's print; hand-made parts: wip/x/ext.
import Derived.Test.YtjhidlmaphdelaaPAllx0
namespace Go.Proofs.Ytjhidlmaphdelaa.PAll
open Go.RowKit Go.Proofs.YtjhidlmaphdelaaW.PrintWords Go.Proofs.YtjhidlmaphdelaaW.PrintLast Go.Proofs.YtjhidlmaphdelaaW.PrintMore
attribute [local go_sem] max2_int min2_int max_two min_two max_three min_three max_four min_four   -- for this text's walks alone
set_option linter.unusedVariables false
set_option linter.unusedSimpArgs false

-- LIB pbase
theorem wrap_eq {x : Int} (h1 : -9223372036854775808 ≤ x) (h2 : x ≤ 9223372036854775807) : wrap64 x = x := by unfold wrap64; omega
theorem wrap_succ {i n : Nat} (h : i < n) (hn : n ≤ 9223372036854775807) : wrap64 ((i : Int) + 1) = ((i + 1 : Nat) : Int) := by rw [wrap_eq (by omega) (by omega)]; rfl
theorem rd_get (l : List Int) (i : Nat) (h : i < l.length) : rd l (i : Int) = l[i] := by simp [rd, List.getD_eq_getElem?_getD, h]
theorem rd_get0 (l : List Int) (h : 0 < l.length) : rd l 0 = l[0] := rd_get l 0 h

end Go.Proofs.Ytjhidlmaphdelaa.PAll
