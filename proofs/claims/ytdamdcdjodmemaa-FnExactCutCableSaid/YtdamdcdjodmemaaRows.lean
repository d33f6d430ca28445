/-
  No cell of these rows narrows 'for every input' (looked for: loops, veiled, ifaces, maps, wideKeys, modest, calm, conditions, laid).
  DERIVED. THE GIVEN ROWS OF THIS SEAT. 9 by the template 'for every input the law returns true; each argument reads behind the call as it read before'; 0 by the template 'total and deterministic' (their statements: YtdamdcdjodmemaaTotals.lean).
  GIVEN WITH THE SEED: the statements are not yours to turn. If you find one false, say at which input.
  Laid BY PROGRAM, IN A SANDBOX (cutbox-rows.mjs): the forced cells as the released guide's own fill.sh prints them over the translation 9d1a80baac5dde99… (all of the seat's roots in one cut). By AI agents, Wed Nov 11 2026. No macro, syntax, notation, axiom, sorry.
-/
import Derived.Test.YtdamdcdjodmemaaChecked
import GoSem.Claim
import GoSem.ClaimJoined
import GoSem.ClaimMapViews
import Derived.JoinedTies
import Derived.KernelRfl
namespace Go.Proofs.Ytdamdcdjodmemaa
/- THE CELL 'sum', in the pinned program and in every row, IS THE sha256 OF THE DUMP (.gsa) THAT YtdamdcdjodmemaaProg.lean LOADS. Nothing in Lean hashes anything: it is a label: what it is worth is what the hold of that sum in a sandbox is worth. -/
noncomputable def Try.pinned : Pinned := { name := "ytdamdcdjodmemaa", sum := "9d1a80baac5dde99966d1a4438c8ac40ce3304166716907871fa20ea9e6222f4", checked := Try.checked }
namespace Rows
def none {H : Type} : Left H := { results := [], args := [] }

/-- 'laws.FnExactNetValid': WHATEVER THE INPUT: true; the input reads as it did. -/
def fnExactNetValidSpec : ChangeSpec := { name := "fnExactNetValid", fn := fun _ => fun
  | [d] => { results := [.lit (.bool true)], args := [d] }
  | _ => none }
def fnExactNetValidRow : OpenClaim := { program := "ytdamdcdjodmemaa", sum := "9d1a80baac5dde99966d1a4438c8ac40ce3304166716907871fa20ea9e6222f4", func := "loop.example/wholenet/laws.FnExactNetValid", spec := "fnExactNetValid", unfollowed := true, recurses := true, apart := false }
def FnExactNetValidSaid : Prop := fnExactNetValidRow.holds Try.pinned (OpenSpec.ofChange fnExactNetValidSpec)

/-- ITS FALSE NEIGHBOUR: 'it returns false'. Refute it at one input. -/
def fnExactNetValidWrong : ChangeSpec := { name := "fnExactNetValid", fn := fun _ => fun
  | [d] => { results := [.lit (.bool false)], args := [d] }
  | _ => none }
def FnExactNetValidWrongFalsely : Prop := fnExactNetValidRow.holds Try.pinned (OpenSpec.ofChange fnExactNetValidWrong)

/-- 'laws.FnMates': WHATEVER THE INPUT: true; the input reads as it did. -/
def fnMatesSpec : ChangeSpec := { name := "fnMates", fn := fun _ => fun
  | [d] => { results := [.lit (.bool true)], args := [d] }
  | _ => none }
def fnMatesRow : OpenClaim := { program := "ytdamdcdjodmemaa", sum := "9d1a80baac5dde99966d1a4438c8ac40ce3304166716907871fa20ea9e6222f4", func := "loop.example/wholenet/laws.FnMates", spec := "fnMates", unfollowed := true, recurses := true, apart := false }
def FnMatesSaid : Prop := fnMatesRow.holds Try.pinned (OpenSpec.ofChange fnMatesSpec)

/-- ITS FALSE NEIGHBOUR: 'it returns false'. Refute it at one input. -/
def fnMatesWrong : ChangeSpec := { name := "fnMates", fn := fun _ => fun
  | [d] => { results := [.lit (.bool false)], args := [d] }
  | _ => none }
def FnMatesWrongFalsely : Prop := fnMatesRow.holds Try.pinned (OpenSpec.ofChange fnMatesWrong)

/-- 'laws.FnExactMatesOf': WHATEVER THE INPUT: true; the input reads as it did. -/
def fnExactMatesOfSpec : ChangeSpec := { name := "fnExactMatesOf", fn := fun _ => fun
  | [d1, d2] => { results := [.lit (.bool true)], args := [d1, d2] }
  | _ => none }
def fnExactMatesOfRow : OpenClaim := { program := "ytdamdcdjodmemaa", sum := "9d1a80baac5dde99966d1a4438c8ac40ce3304166716907871fa20ea9e6222f4", func := "loop.example/wholenet/laws.FnExactMatesOf", spec := "fnExactMatesOf", unfollowed := true, recurses := true, apart := false }
def FnExactMatesOfSaid : Prop := fnExactMatesOfRow.holds Try.pinned (OpenSpec.ofChange fnExactMatesOfSpec)

/-- ITS FALSE NEIGHBOUR: 'it returns false'. Refute it at one input. -/
def fnExactMatesOfWrong : ChangeSpec := { name := "fnExactMatesOf", fn := fun _ => fun
  | [d1, d2] => { results := [.lit (.bool false)], args := [d1, d2] }
  | _ => none }
def FnExactMatesOfWrongFalsely : Prop := fnExactMatesOfRow.holds Try.pinned (OpenSpec.ofChange fnExactMatesOfWrong)

/-- 'laws.FnExactCutCable': WHATEVER THE INPUT: true; the input reads as it did. -/
def fnExactCutCableSpec : ChangeSpec := { name := "fnExactCutCable", fn := fun _ => fun
  | [d1, d2] => { results := [.lit (.bool true)], args := [d1, d2] }
  | _ => none }
def fnExactCutCableRow : OpenClaim := { program := "ytdamdcdjodmemaa", sum := "9d1a80baac5dde99966d1a4438c8ac40ce3304166716907871fa20ea9e6222f4", func := "loop.example/wholenet/laws.FnExactCutCable", spec := "fnExactCutCable", unfollowed := true, recurses := true, apart := false }
def FnExactCutCableSaid : Prop := fnExactCutCableRow.holds Try.pinned (OpenSpec.ofChange fnExactCutCableSpec)

/-- ITS FALSE NEIGHBOUR: 'it returns false'. Refute it at one input. -/
def fnExactCutCableWrong : ChangeSpec := { name := "fnExactCutCable", fn := fun _ => fun
  | [d1, d2] => { results := [.lit (.bool false)], args := [d1, d2] }
  | _ => none }
def FnExactCutCableWrongFalsely : Prop := fnExactCutCableRow.holds Try.pinned (OpenSpec.ofChange fnExactCutCableWrong)

/-- 'laws.FnCutCable': WHATEVER THE INPUT: true; the input reads as it did. -/
def fnCutCableSpec : ChangeSpec := { name := "fnCutCable", fn := fun _ => fun
  | [d] => { results := [.lit (.bool true)], args := [d] }
  | _ => none }
def fnCutCableRow : OpenClaim := { program := "ytdamdcdjodmemaa", sum := "9d1a80baac5dde99966d1a4438c8ac40ce3304166716907871fa20ea9e6222f4", func := "loop.example/wholenet/laws.FnCutCable", spec := "fnCutCable", unfollowed := true, recurses := true, apart := false }
def FnCutCableSaid : Prop := fnCutCableRow.holds Try.pinned (OpenSpec.ofChange fnCutCableSpec)

/-- ITS FALSE NEIGHBOUR: 'it returns false'. Refute it at one input. -/
def fnCutCableWrong : ChangeSpec := { name := "fnCutCable", fn := fun _ => fun
  | [d] => { results := [.lit (.bool false)], args := [d] }
  | _ => none }
def FnCutCableWrongFalsely : Prop := fnCutCableRow.holds Try.pinned (OpenSpec.ofChange fnCutCableWrong)

/-- 'laws.FnFloodOver': WHATEVER THE INPUT: true; the input reads as it did. -/
def fnFloodOverSpec : ChangeSpec := { name := "fnFloodOver", fn := fun _ => fun
  | [d] => { results := [.lit (.bool true)], args := [d] }
  | _ => none }
def fnFloodOverRow : OpenClaim := { program := "ytdamdcdjodmemaa", sum := "9d1a80baac5dde99966d1a4438c8ac40ce3304166716907871fa20ea9e6222f4", func := "loop.example/wholenet/laws.FnFloodOver", spec := "fnFloodOver", unfollowed := true, recurses := true, apart := false }
def FnFloodOverSaid : Prop := fnFloodOverRow.holds Try.pinned (OpenSpec.ofChange fnFloodOverSpec)

/-- ITS FALSE NEIGHBOUR: 'it returns false'. Refute it at one input. -/
def fnFloodOverWrong : ChangeSpec := { name := "fnFloodOver", fn := fun _ => fun
  | [d] => { results := [.lit (.bool false)], args := [d] }
  | _ => none }
def FnFloodOverWrongFalsely : Prop := fnFloodOverRow.holds Try.pinned (OpenSpec.ofChange fnFloodOverWrong)

/-- 'laws.FnTreeWay': WHATEVER THE INPUT: true; the input reads as it did. -/
def fnTreeWaySpec : ChangeSpec := { name := "fnTreeWay", fn := fun _ => fun
  | [d] => { results := [.lit (.bool true)], args := [d] }
  | _ => none }
def fnTreeWayRow : OpenClaim := { program := "ytdamdcdjodmemaa", sum := "9d1a80baac5dde99966d1a4438c8ac40ce3304166716907871fa20ea9e6222f4", func := "loop.example/wholenet/laws.FnTreeWay", spec := "fnTreeWay", unfollowed := true, recurses := true, apart := false }
def FnTreeWaySaid : Prop := fnTreeWayRow.holds Try.pinned (OpenSpec.ofChange fnTreeWaySpec)

/-- ITS FALSE NEIGHBOUR: 'it returns false'. Refute it at one input. -/
def fnTreeWayWrong : ChangeSpec := { name := "fnTreeWay", fn := fun _ => fun
  | [d] => { results := [.lit (.bool false)], args := [d] }
  | _ => none }
def FnTreeWayWrongFalsely : Prop := fnTreeWayRow.holds Try.pinned (OpenSpec.ofChange fnTreeWayWrong)

/-- 'laws.FnExactFloodOver': WHATEVER THE INPUT: true; the input reads as it did. -/
def fnExactFloodOverSpec : ChangeSpec := { name := "fnExactFloodOver", fn := fun _ => fun
  | [d1, d2] => { results := [.lit (.bool true)], args := [d1, d2] }
  | _ => none }
def fnExactFloodOverRow : OpenClaim := { program := "ytdamdcdjodmemaa", sum := "9d1a80baac5dde99966d1a4438c8ac40ce3304166716907871fa20ea9e6222f4", func := "loop.example/wholenet/laws.FnExactFloodOver", spec := "fnExactFloodOver", unfollowed := true, recurses := true, apart := false }
def FnExactFloodOverSaid : Prop := fnExactFloodOverRow.holds Try.pinned (OpenSpec.ofChange fnExactFloodOverSpec)

/-- ITS FALSE NEIGHBOUR: 'it returns false'. Refute it at one input. -/
def fnExactFloodOverWrong : ChangeSpec := { name := "fnExactFloodOver", fn := fun _ => fun
  | [d1, d2] => { results := [.lit (.bool false)], args := [d1, d2] }
  | _ => none }
def FnExactFloodOverWrongFalsely : Prop := fnExactFloodOverRow.holds Try.pinned (OpenSpec.ofChange fnExactFloodOverWrong)

/-- 'laws.FnExactTreeWay': WHATEVER THE INPUT: true; the input reads as it did. -/
def fnExactTreeWaySpec : ChangeSpec := { name := "fnExactTreeWay", fn := fun _ => fun
  | [d1, d2, d3] => { results := [.lit (.bool true)], args := [d1, d2, d3] }
  | _ => none }
def fnExactTreeWayRow : OpenClaim := { program := "ytdamdcdjodmemaa", sum := "9d1a80baac5dde99966d1a4438c8ac40ce3304166716907871fa20ea9e6222f4", func := "loop.example/wholenet/laws.FnExactTreeWay", spec := "fnExactTreeWay", unfollowed := true, recurses := true, apart := false }
def FnExactTreeWaySaid : Prop := fnExactTreeWayRow.holds Try.pinned (OpenSpec.ofChange fnExactTreeWaySpec)

/-- ITS FALSE NEIGHBOUR: 'it returns false'. Refute it at one input. -/
def fnExactTreeWayWrong : ChangeSpec := { name := "fnExactTreeWay", fn := fun _ => fun
  | [d1, d2, d3] => { results := [.lit (.bool false)], args := [d1, d2, d3] }
  | _ => none }
def FnExactTreeWayWrongFalsely : Prop := fnExactTreeWayRow.holds Try.pinned (OpenSpec.ofChange fnExactTreeWayWrong)

/- THE SECOND FORM. 'bulk': how many values and letters a reading holds, each counted each time it is reached (what is shared counts as often as it is met; a slice's spare places count too). A statement '..UptoSaid' is the law's where the arguments, and the package variables that the reading takes, are together of bulk at most 1048576: NARROWER than '..Said'. Prove '..Said' where nothing that the law and all that it calls make is longer than what came in: it says more and counts as full. Else prove '..UptoSaid'. A law counts once. -/
mutual
def uptoBulk {H : Type} : DataW H → Nat
  | .lit (.string bytes) => bytes.length + 1
  | .lit _ => 1
  | .nil => 1
  | .ptr d => uptoBulk d + 1
  | .slice elems spare => uptoBulkAll elems + uptoBulkAll spare + 1
  | .agg parts => uptoBulkAll parts + 1
  | .iface _ d => uptoBulk d + 1
  | .map entries => uptoBulkEntries entries + 1
  | .held _ => 1
def uptoBulkAll {H : Type} : List (DataW H) → Nat
  | [] => 0
  | d :: r => uptoBulk d + uptoBulkAll r
def uptoBulkEntries {H : Type} : List (Lit × DataW H) → Nat
  | [] => 0
  | x :: r => uptoBulkEntry x + uptoBulkEntries r
def uptoBulkEntry {H : Type} : Lit × DataW H → Nat
  | (.string bytes, d) => bytes.length + uptoBulk d + 1
  | (_, d) => uptoBulk d + 1
 end
def uptoSmall : (H : Type) → List (DataW H) → Bool := fun _ ds => decide (uptoBulkAll ds ≤ 1048576)
def OpenSpec.upto (s : _root_.Go.ChangeSpec) : _root_.Go.OpenSpec := { _root_.Go.OpenSpec.ofChange s with cond := some uptoSmall }

/-- 'laws.FnExactNetValid', WHERE WHAT IT READS IS OF BULK AT MOST 1048576: true; the input reads as it did. -/
def fnExactNetValidUptoRow : OpenClaim := { program := "ytdamdcdjodmemaa", sum := "9d1a80baac5dde99966d1a4438c8ac40ce3304166716907871fa20ea9e6222f4", func := "loop.example/wholenet/laws.FnExactNetValid", spec := "fnExactNetValid", unfollowed := true, recurses := true, apart := false, narrowed := true }
def FnExactNetValidUptoSaid : Prop := fnExactNetValidUptoRow.holds Try.pinned (OpenSpec.upto fnExactNetValidSpec)

/-- 'laws.FnMates', WHERE WHAT IT READS IS OF BULK AT MOST 1048576: true; the input reads as it did. -/
def fnMatesUptoRow : OpenClaim := { program := "ytdamdcdjodmemaa", sum := "9d1a80baac5dde99966d1a4438c8ac40ce3304166716907871fa20ea9e6222f4", func := "loop.example/wholenet/laws.FnMates", spec := "fnMates", unfollowed := true, recurses := true, apart := false, narrowed := true }
def FnMatesUptoSaid : Prop := fnMatesUptoRow.holds Try.pinned (OpenSpec.upto fnMatesSpec)

/-- 'laws.FnExactMatesOf', WHERE WHAT IT READS IS OF BULK AT MOST 1048576: true; the input reads as it did. -/
def fnExactMatesOfUptoRow : OpenClaim := { program := "ytdamdcdjodmemaa", sum := "9d1a80baac5dde99966d1a4438c8ac40ce3304166716907871fa20ea9e6222f4", func := "loop.example/wholenet/laws.FnExactMatesOf", spec := "fnExactMatesOf", unfollowed := true, recurses := true, apart := false, narrowed := true }
def FnExactMatesOfUptoSaid : Prop := fnExactMatesOfUptoRow.holds Try.pinned (OpenSpec.upto fnExactMatesOfSpec)

/-- 'laws.FnExactCutCable', WHERE WHAT IT READS IS OF BULK AT MOST 1048576: true; the input reads as it did. -/
def fnExactCutCableUptoRow : OpenClaim := { program := "ytdamdcdjodmemaa", sum := "9d1a80baac5dde99966d1a4438c8ac40ce3304166716907871fa20ea9e6222f4", func := "loop.example/wholenet/laws.FnExactCutCable", spec := "fnExactCutCable", unfollowed := true, recurses := true, apart := false, narrowed := true }
def FnExactCutCableUptoSaid : Prop := fnExactCutCableUptoRow.holds Try.pinned (OpenSpec.upto fnExactCutCableSpec)

/-- 'laws.FnCutCable', WHERE WHAT IT READS IS OF BULK AT MOST 1048576: true; the input reads as it did. -/
def fnCutCableUptoRow : OpenClaim := { program := "ytdamdcdjodmemaa", sum := "9d1a80baac5dde99966d1a4438c8ac40ce3304166716907871fa20ea9e6222f4", func := "loop.example/wholenet/laws.FnCutCable", spec := "fnCutCable", unfollowed := true, recurses := true, apart := false, narrowed := true }
def FnCutCableUptoSaid : Prop := fnCutCableUptoRow.holds Try.pinned (OpenSpec.upto fnCutCableSpec)

/-- 'laws.FnFloodOver', WHERE WHAT IT READS IS OF BULK AT MOST 1048576: true; the input reads as it did. -/
def fnFloodOverUptoRow : OpenClaim := { program := "ytdamdcdjodmemaa", sum := "9d1a80baac5dde99966d1a4438c8ac40ce3304166716907871fa20ea9e6222f4", func := "loop.example/wholenet/laws.FnFloodOver", spec := "fnFloodOver", unfollowed := true, recurses := true, apart := false, narrowed := true }
def FnFloodOverUptoSaid : Prop := fnFloodOverUptoRow.holds Try.pinned (OpenSpec.upto fnFloodOverSpec)

/-- 'laws.FnTreeWay', WHERE WHAT IT READS IS OF BULK AT MOST 1048576: true; the input reads as it did. -/
def fnTreeWayUptoRow : OpenClaim := { program := "ytdamdcdjodmemaa", sum := "9d1a80baac5dde99966d1a4438c8ac40ce3304166716907871fa20ea9e6222f4", func := "loop.example/wholenet/laws.FnTreeWay", spec := "fnTreeWay", unfollowed := true, recurses := true, apart := false, narrowed := true }
def FnTreeWayUptoSaid : Prop := fnTreeWayUptoRow.holds Try.pinned (OpenSpec.upto fnTreeWaySpec)

/-- 'laws.FnExactFloodOver', WHERE WHAT IT READS IS OF BULK AT MOST 1048576: true; the input reads as it did. -/
def fnExactFloodOverUptoRow : OpenClaim := { program := "ytdamdcdjodmemaa", sum := "9d1a80baac5dde99966d1a4438c8ac40ce3304166716907871fa20ea9e6222f4", func := "loop.example/wholenet/laws.FnExactFloodOver", spec := "fnExactFloodOver", unfollowed := true, recurses := true, apart := false, narrowed := true }
def FnExactFloodOverUptoSaid : Prop := fnExactFloodOverUptoRow.holds Try.pinned (OpenSpec.upto fnExactFloodOverSpec)

/-- 'laws.FnExactTreeWay', WHERE WHAT IT READS IS OF BULK AT MOST 1048576: true; the input reads as it did. -/
def fnExactTreeWayUptoRow : OpenClaim := { program := "ytdamdcdjodmemaa", sum := "9d1a80baac5dde99966d1a4438c8ac40ce3304166716907871fa20ea9e6222f4", func := "loop.example/wholenet/laws.FnExactTreeWay", spec := "fnExactTreeWay", unfollowed := true, recurses := true, apart := false, narrowed := true }
def FnExactTreeWayUptoSaid : Prop := fnExactTreeWayUptoRow.holds Try.pinned (OpenSpec.upto fnExactTreeWaySpec)

end Rows
end Go.Proofs.Ytdamdcdjodmemaa
