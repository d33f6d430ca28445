/-
  No cell of these rows narrows 'for every input' (looked for: loops, veiled, ifaces, maps, wideKeys, modest, calm, conditions, laid).
  DERIVED. THE GIVEN ROWS OF THIS SEAT. 5 by the template 'for every input the law returns true; each argument reads behind the call as it read before'; 0 by the template 'total and deterministic' (their statements: YtblcnbnphjnhdaaTotals.lean).
  GIVEN WITH THE SEED: the statements are not yours to turn. If you find one false, say at which input.
  Laid BY PROGRAM, IN A SANDBOX (cutbox-rows.mjs): the forced cells as the released guide's own fill.sh prints them over the translation db7100606b5b9f0b… (all of the seat's roots in one cut). By AI agents, Wed Nov 11 2026. No macro, syntax, notation, axiom, sorry.
-/
import Derived.Test.YtblcnbnphjnhdaaChecked
import GoSem.Claim
import GoSem.ClaimJoined
import GoSem.ClaimMapViews
import Derived.JoinedTies
import Derived.KernelRfl
namespace Go.Proofs.Ytblcnbnphjnhdaa
/- THE CELL 'sum', in the pinned program and in every row, IS THE sha256 OF THE DUMP (.gsa) THAT YtblcnbnphjnhdaaProg.lean LOADS. Nothing in Lean hashes anything: it is a label: what it is worth is what the hold of that sum in a sandbox is worth. -/
noncomputable def Try.pinned : Pinned := { name := "ytblcnbnphjnhdaa", sum := "db7100606b5b9f0ba00cab0b842ced1a808d3d151a60ac1417af3655fa6e0b9f", checked := Try.checked }
namespace Rows
def none {H : Type} : Left H := { results := [], args := [] }

/-- 'laws.FnNetOnce': WHATEVER THE INPUT: true; the input reads as it did. -/
def fnNetOnceSpec : ChangeSpec := { name := "fnNetOnce", fn := fun _ => fun
  | [d] => { results := [.lit (.bool true)], args := [d] }
  | _ => none }
def fnNetOnceRow : OpenClaim := { program := "ytblcnbnphjnhdaa", sum := "db7100606b5b9f0ba00cab0b842ced1a808d3d151a60ac1417af3655fa6e0b9f", func := "loop.example/wholenet/laws.FnNetOnce", spec := "fnNetOnce", unfollowed := true, recurses := true, plainKeys := false, apart := false }
def FnNetOnceSaid : Prop := fnNetOnceRow.holds Try.pinned (OpenSpec.ofChange fnNetOnceSpec)

/-- ITS FALSE NEIGHBOUR: 'it returns false'. Refute it at one input. -/
def fnNetOnceWrong : ChangeSpec := { name := "fnNetOnce", fn := fun _ => fun
  | [d] => { results := [.lit (.bool false)], args := [d] }
  | _ => none }
def FnNetOnceWrongFalsely : Prop := fnNetOnceRow.holds Try.pinned (OpenSpec.ofChange fnNetOnceWrong)

/-- 'laws.FnNetAnswer': WHATEVER THE INPUT: true; the input reads as it did. -/
def fnNetAnswerSpec : ChangeSpec := { name := "fnNetAnswer", fn := fun _ => fun
  | [d] => { results := [.lit (.bool true)], args := [d] }
  | _ => none }
def fnNetAnswerRow : OpenClaim := { program := "ytblcnbnphjnhdaa", sum := "db7100606b5b9f0ba00cab0b842ced1a808d3d151a60ac1417af3655fa6e0b9f", func := "loop.example/wholenet/laws.FnNetAnswer", spec := "fnNetAnswer", unfollowed := true, recurses := true, plainKeys := false, apart := false }
def FnNetAnswerSaid : Prop := fnNetAnswerRow.holds Try.pinned (OpenSpec.ofChange fnNetAnswerSpec)

/-- ITS FALSE NEIGHBOUR: 'it returns false'. Refute it at one input. -/
def fnNetAnswerWrong : ChangeSpec := { name := "fnNetAnswer", fn := fun _ => fun
  | [d] => { results := [.lit (.bool false)], args := [d] }
  | _ => none }
def FnNetAnswerWrongFalsely : Prop := fnNetAnswerRow.holds Try.pinned (OpenSpec.ofChange fnNetAnswerWrong)

/-- 'laws.FnNetLearned': WHATEVER THE INPUT: true; the input reads as it did. -/
def fnNetLearnedSpec : ChangeSpec := { name := "fnNetLearned", fn := fun _ => fun
  | [d] => { results := [.lit (.bool true)], args := [d] }
  | _ => none }
def fnNetLearnedRow : OpenClaim := { program := "ytblcnbnphjnhdaa", sum := "db7100606b5b9f0ba00cab0b842ced1a808d3d151a60ac1417af3655fa6e0b9f", func := "loop.example/wholenet/laws.FnNetLearned", spec := "fnNetLearned", unfollowed := true, recurses := true, plainKeys := false, apart := false }
def FnNetLearnedSaid : Prop := fnNetLearnedRow.holds Try.pinned (OpenSpec.ofChange fnNetLearnedSpec)

/-- ITS FALSE NEIGHBOUR: 'it returns false'. Refute it at one input. -/
def fnNetLearnedWrong : ChangeSpec := { name := "fnNetLearned", fn := fun _ => fun
  | [d] => { results := [.lit (.bool false)], args := [d] }
  | _ => none }
def FnNetLearnedWrongFalsely : Prop := fnNetLearnedRow.holds Try.pinned (OpenSpec.ofChange fnNetLearnedWrong)

/-- 'laws.FnNetOver': WHATEVER THE INPUT: true; the input reads as it did. -/
def fnNetOverSpec : ChangeSpec := { name := "fnNetOver", fn := fun _ => fun
  | [d] => { results := [.lit (.bool true)], args := [d] }
  | _ => none }
def fnNetOverRow : OpenClaim := { program := "ytblcnbnphjnhdaa", sum := "db7100606b5b9f0ba00cab0b842ced1a808d3d151a60ac1417af3655fa6e0b9f", func := "loop.example/wholenet/laws.FnNetOver", spec := "fnNetOver", unfollowed := true, recurses := true, plainKeys := false, apart := false }
def FnNetOverSaid : Prop := fnNetOverRow.holds Try.pinned (OpenSpec.ofChange fnNetOverSpec)

/-- ITS FALSE NEIGHBOUR: 'it returns false'. Refute it at one input. -/
def fnNetOverWrong : ChangeSpec := { name := "fnNetOver", fn := fun _ => fun
  | [d] => { results := [.lit (.bool false)], args := [d] }
  | _ => none }
def FnNetOverWrongFalsely : Prop := fnNetOverRow.holds Try.pinned (OpenSpec.ofChange fnNetOverWrong)

/-- 'laws.FnExactRunNet': WHATEVER THE INPUT: true; the input reads as it did. -/
def fnExactRunNetSpec : ChangeSpec := { name := "fnExactRunNet", fn := fun _ => fun
  | [d1, d2] => { results := [.lit (.bool true)], args := [d1, d2] }
  | _ => none }
def fnExactRunNetRow : OpenClaim := { program := "ytblcnbnphjnhdaa", sum := "db7100606b5b9f0ba00cab0b842ced1a808d3d151a60ac1417af3655fa6e0b9f", func := "loop.example/wholenet/laws.FnExactRunNet", spec := "fnExactRunNet", unfollowed := true, recurses := true, plainKeys := false, apart := false }
def FnExactRunNetSaid : Prop := fnExactRunNetRow.holds Try.pinned (OpenSpec.ofChange fnExactRunNetSpec)

/-- ITS FALSE NEIGHBOUR: 'it returns false'. Refute it at one input. -/
def fnExactRunNetWrong : ChangeSpec := { name := "fnExactRunNet", fn := fun _ => fun
  | [d1, d2] => { results := [.lit (.bool false)], args := [d1, d2] }
  | _ => none }
def FnExactRunNetWrongFalsely : Prop := fnExactRunNetRow.holds Try.pinned (OpenSpec.ofChange fnExactRunNetWrong)

/- THE SECOND FORM. 'bulk': how many values and letters a reading holds, each counted each time it is reached (what is shared counts as often as it is met; a slice's spare places count too). A statement '..UptoSaid' is the law's where the arguments, and the package variables that the reading takes, are together of bulk at most 1048576: NARROWER than '..Said'. Prove '..Said' where nothing that the law and all that it calls make is longer than what came in: it says more and counts as full. Else prove '..UptoSaid'. A law counts once. -/
mutual
def uptoBulk {H : Type} : DataW H → Nat
  | .lit (.string bytes) => bytes.length + 1
  | .lit _ => 1
  | .nil => 1
  | .ptr d => uptoBulk d + 1
  | .slice elems spare => uptoBulkAll elems + uptoBulkAll spare + 1
  | .agg parts => uptoBulkAll parts + 1
  | .iface _ d => uptoBulk d + 1
  | .map entries => uptoBulkEntries entries + 1
  | .held _ => 1
def uptoBulkAll {H : Type} : List (DataW H) → Nat
  | [] => 0
  | d :: r => uptoBulk d + uptoBulkAll r
def uptoBulkEntries {H : Type} : List (Lit × DataW H) → Nat
  | [] => 0
  | x :: r => uptoBulkEntry x + uptoBulkEntries r
def uptoBulkEntry {H : Type} : Lit × DataW H → Nat
  | (.string bytes, d) => bytes.length + uptoBulk d + 1
  | (_, d) => uptoBulk d + 1
 end
def uptoSmall : (H : Type) → List (DataW H) → Bool := fun _ ds => decide (uptoBulkAll ds ≤ 1048576)
def OpenSpec.upto (s : _root_.Go.ChangeSpec) : _root_.Go.OpenSpec := { _root_.Go.OpenSpec.ofChange s with cond := some uptoSmall }

/-- 'laws.FnNetOnce', WHERE WHAT IT READS IS OF BULK AT MOST 1048576: true; the input reads as it did. -/
def fnNetOnceUptoRow : OpenClaim := { program := "ytblcnbnphjnhdaa", sum := "db7100606b5b9f0ba00cab0b842ced1a808d3d151a60ac1417af3655fa6e0b9f", func := "loop.example/wholenet/laws.FnNetOnce", spec := "fnNetOnce", unfollowed := true, recurses := true, plainKeys := false, apart := false, narrowed := true }
def FnNetOnceUptoSaid : Prop := fnNetOnceUptoRow.holds Try.pinned (OpenSpec.upto fnNetOnceSpec)

/-- 'laws.FnNetAnswer', WHERE WHAT IT READS IS OF BULK AT MOST 1048576: true; the input reads as it did. -/
def fnNetAnswerUptoRow : OpenClaim := { program := "ytblcnbnphjnhdaa", sum := "db7100606b5b9f0ba00cab0b842ced1a808d3d151a60ac1417af3655fa6e0b9f", func := "loop.example/wholenet/laws.FnNetAnswer", spec := "fnNetAnswer", unfollowed := true, recurses := true, plainKeys := false, apart := false, narrowed := true }
def FnNetAnswerUptoSaid : Prop := fnNetAnswerUptoRow.holds Try.pinned (OpenSpec.upto fnNetAnswerSpec)

/-- 'laws.FnNetLearned', WHERE WHAT IT READS IS OF BULK AT MOST 1048576: true; the input reads as it did. -/
def fnNetLearnedUptoRow : OpenClaim := { program := "ytblcnbnphjnhdaa", sum := "db7100606b5b9f0ba00cab0b842ced1a808d3d151a60ac1417af3655fa6e0b9f", func := "loop.example/wholenet/laws.FnNetLearned", spec := "fnNetLearned", unfollowed := true, recurses := true, plainKeys := false, apart := false, narrowed := true }
def FnNetLearnedUptoSaid : Prop := fnNetLearnedUptoRow.holds Try.pinned (OpenSpec.upto fnNetLearnedSpec)

/-- 'laws.FnNetOver', WHERE WHAT IT READS IS OF BULK AT MOST 1048576: true; the input reads as it did. -/
def fnNetOverUptoRow : OpenClaim := { program := "ytblcnbnphjnhdaa", sum := "db7100606b5b9f0ba00cab0b842ced1a808d3d151a60ac1417af3655fa6e0b9f", func := "loop.example/wholenet/laws.FnNetOver", spec := "fnNetOver", unfollowed := true, recurses := true, plainKeys := false, apart := false, narrowed := true }
def FnNetOverUptoSaid : Prop := fnNetOverUptoRow.holds Try.pinned (OpenSpec.upto fnNetOverSpec)

/-- 'laws.FnExactRunNet', WHERE WHAT IT READS IS OF BULK AT MOST 1048576: true; the input reads as it did. -/
def fnExactRunNetUptoRow : OpenClaim := { program := "ytblcnbnphjnhdaa", sum := "db7100606b5b9f0ba00cab0b842ced1a808d3d151a60ac1417af3655fa6e0b9f", func := "loop.example/wholenet/laws.FnExactRunNet", spec := "fnExactRunNet", unfollowed := true, recurses := true, plainKeys := false, apart := false, narrowed := true }
def FnExactRunNetUptoSaid : Prop := fnExactRunNetUptoRow.holds Try.pinned (OpenSpec.upto fnExactRunNetSpec)

end Rows
end Go.Proofs.Ytblcnbnphjnhdaa
