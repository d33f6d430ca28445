/-
  No cell of these rows narrows 'for every input' (looked for: loops, veiled, ifaces, maps, wideKeys, modest, calm, conditions, laid).
  DERIVED. THE GIVEN ROWS OF THIS SEAT. 10 by the template 'for every input the law returns true; each argument reads behind the call as it read before'; 0 by the template 'total and deterministic' (their statements: YtdnehickciaiiaaTotals.lean).
  GIVEN WITH THE SEED: the statements are not yours to turn. If you find one false, say at which input.
  Laid BY PROGRAM, IN A SANDBOX (cutbox-rows.mjs): the forced cells as the released guide's own fill.sh prints them over the translation 6ac9aeef2d214d75… (all of the seat's roots in one cut). By AI agents, Wed Nov 11 2026. No macro, syntax, notation, axiom, sorry.
-/
import Derived.Test.YtdnehickciaiiaaChecked
import GoSem.Claim
import GoSem.ClaimJoined
import GoSem.ClaimMapViews
import Derived.JoinedTies
import Derived.KernelRfl
namespace Go.Proofs.Ytdnehickciaiiaa
/- THE CELL 'sum', in the pinned program and in every row, IS THE sha256 OF THE DUMP (.gsa) THAT YtdnehickciaiiaaProg.lean LOADS. Nothing in Lean hashes anything: it is a label: what it is worth is what the hold of that sum in a sandbox is worth. -/
noncomputable def Try.pinned : Pinned := { name := "ytdnehickciaiiaa", sum := "6ac9aeef2d214d75af74fb33c113ffc39c70fea119f9ec3c161b67e62b35c7c0", checked := Try.checked }
namespace Rows
def none {H : Type} : Left H := { results := [], args := [] }

/-- 'laws.FnRingOne': WHATEVER THE INPUT: true; the input reads as it did. -/
def fnRingOneSpec : ChangeSpec := { name := "fnRingOne", fn := fun _ => fun
  | [d] => { results := [.lit (.bool true)], args := [d] }
  | _ => none }
def fnRingOneRow : OpenClaim := { program := "ytdnehickciaiiaa", sum := "6ac9aeef2d214d75af74fb33c113ffc39c70fea119f9ec3c161b67e62b35c7c0", func := "loop.example/wholenet/laws.FnRingOne", spec := "fnRingOne", unfollowed := true, recurses := true, apart := false }
def FnRingOneSaid : Prop := fnRingOneRow.holds Try.pinned (OpenSpec.ofChange fnRingOneSpec)

/-- ITS FALSE NEIGHBOUR: 'it returns false'. Refute it at one input. -/
def fnRingOneWrong : ChangeSpec := { name := "fnRingOne", fn := fun _ => fun
  | [d] => { results := [.lit (.bool false)], args := [d] }
  | _ => none }
def FnRingOneWrongFalsely : Prop := fnRingOneRow.holds Try.pinned (OpenSpec.ofChange fnRingOneWrong)

/-- 'laws.FnExactMendLink': WHATEVER THE INPUT: true; the input reads as it did. -/
def fnExactMendLinkSpec : ChangeSpec := { name := "fnExactMendLink", fn := fun _ => fun
  | [d1, d2] => { results := [.lit (.bool true)], args := [d1, d2] }
  | _ => none }
def fnExactMendLinkRow : OpenClaim := { program := "ytdnehickciaiiaa", sum := "6ac9aeef2d214d75af74fb33c113ffc39c70fea119f9ec3c161b67e62b35c7c0", func := "loop.example/wholenet/laws.FnExactMendLink", spec := "fnExactMendLink", unfollowed := true, recurses := true, apart := false }
def FnExactMendLinkSaid : Prop := fnExactMendLinkRow.holds Try.pinned (OpenSpec.ofChange fnExactMendLinkSpec)

/-- ITS FALSE NEIGHBOUR: 'it returns false'. Refute it at one input. -/
def fnExactMendLinkWrong : ChangeSpec := { name := "fnExactMendLink", fn := fun _ => fun
  | [d1, d2] => { results := [.lit (.bool false)], args := [d1, d2] }
  | _ => none }
def FnExactMendLinkWrongFalsely : Prop := fnExactMendLinkRow.holds Try.pinned (OpenSpec.ofChange fnExactMendLinkWrong)

/-- 'laws.FnRingBack': WHATEVER THE INPUT: true; the input reads as it did. -/
def fnRingBackSpec : ChangeSpec := { name := "fnRingBack", fn := fun _ => fun
  | [d] => { results := [.lit (.bool true)], args := [d] }
  | _ => none }
def fnRingBackRow : OpenClaim := { program := "ytdnehickciaiiaa", sum := "6ac9aeef2d214d75af74fb33c113ffc39c70fea119f9ec3c161b67e62b35c7c0", func := "loop.example/wholenet/laws.FnRingBack", spec := "fnRingBack", unfollowed := true, recurses := true, apart := false }
def FnRingBackSaid : Prop := fnRingBackRow.holds Try.pinned (OpenSpec.ofChange fnRingBackSpec)

/-- ITS FALSE NEIGHBOUR: 'it returns false'. Refute it at one input. -/
def fnRingBackWrong : ChangeSpec := { name := "fnRingBack", fn := fun _ => fun
  | [d] => { results := [.lit (.bool false)], args := [d] }
  | _ => none }
def FnRingBackWrongFalsely : Prop := fnRingBackRow.holds Try.pinned (OpenSpec.ofChange fnRingBackWrong)

/-- 'laws.FnExactPathIn': WHATEVER THE INPUT: true; the input reads as it did. -/
def fnExactPathInSpec : ChangeSpec := { name := "fnExactPathIn", fn := fun _ => fun
  | [d1, d2, d3] => { results := [.lit (.bool true)], args := [d1, d2, d3] }
  | _ => none }
def fnExactPathInRow : OpenClaim := { program := "ytdnehickciaiiaa", sum := "6ac9aeef2d214d75af74fb33c113ffc39c70fea119f9ec3c161b67e62b35c7c0", func := "loop.example/wholenet/laws.FnExactPathIn", spec := "fnExactPathIn", unfollowed := true, recurses := true, apart := false }
def FnExactPathInSaid : Prop := fnExactPathInRow.holds Try.pinned (OpenSpec.ofChange fnExactPathInSpec)

/-- ITS FALSE NEIGHBOUR: 'it returns false'. Refute it at one input. -/
def fnExactPathInWrong : ChangeSpec := { name := "fnExactPathIn", fn := fun _ => fun
  | [d1, d2, d3] => { results := [.lit (.bool false)], args := [d1, d2, d3] }
  | _ => none }
def FnExactPathInWrongFalsely : Prop := fnExactPathInRow.holds Try.pinned (OpenSpec.ofChange fnExactPathInWrong)

/-- 'laws.FnRingPath': WHATEVER THE INPUT: true; the input reads as it did. -/
def fnRingPathSpec : ChangeSpec := { name := "fnRingPath", fn := fun _ => fun
  | [d] => { results := [.lit (.bool true)], args := [d] }
  | _ => none }
def fnRingPathRow : OpenClaim := { program := "ytdnehickciaiiaa", sum := "6ac9aeef2d214d75af74fb33c113ffc39c70fea119f9ec3c161b67e62b35c7c0", func := "loop.example/wholenet/laws.FnRingPath", spec := "fnRingPath", unfollowed := true, recurses := true, apart := false }
def FnRingPathSaid : Prop := fnRingPathRow.holds Try.pinned (OpenSpec.ofChange fnRingPathSpec)

/-- ITS FALSE NEIGHBOUR: 'it returns false'. Refute it at one input. -/
def fnRingPathWrong : ChangeSpec := { name := "fnRingPath", fn := fun _ => fun
  | [d] => { results := [.lit (.bool false)], args := [d] }
  | _ => none }
def FnRingPathWrongFalsely : Prop := fnRingPathRow.holds Try.pinned (OpenSpec.ofChange fnRingPathWrong)

/-- 'laws.FnReachIn': WHATEVER THE INPUT: true; the input reads as it did. -/
def fnReachInSpec : ChangeSpec := { name := "fnReachIn", fn := fun _ => fun
  | [d] => { results := [.lit (.bool true)], args := [d] }
  | _ => none }
def fnReachInRow : OpenClaim := { program := "ytdnehickciaiiaa", sum := "6ac9aeef2d214d75af74fb33c113ffc39c70fea119f9ec3c161b67e62b35c7c0", func := "loop.example/wholenet/laws.FnReachIn", spec := "fnReachIn", unfollowed := true, recurses := true, apart := false }
def FnReachInSaid : Prop := fnReachInRow.holds Try.pinned (OpenSpec.ofChange fnReachInSpec)

/-- ITS FALSE NEIGHBOUR: 'it returns false'. Refute it at one input. -/
def fnReachInWrong : ChangeSpec := { name := "fnReachIn", fn := fun _ => fun
  | [d] => { results := [.lit (.bool false)], args := [d] }
  | _ => none }
def FnReachInWrongFalsely : Prop := fnReachInRow.holds Try.pinned (OpenSpec.ofChange fnReachInWrong)

/-- 'laws.FnExactReachIn': WHATEVER THE INPUT: true; the input reads as it did. -/
def fnExactReachInSpec : ChangeSpec := { name := "fnExactReachIn", fn := fun _ => fun
  | [d1, d2] => { results := [.lit (.bool true)], args := [d1, d2] }
  | _ => none }
def fnExactReachInRow : OpenClaim := { program := "ytdnehickciaiiaa", sum := "6ac9aeef2d214d75af74fb33c113ffc39c70fea119f9ec3c161b67e62b35c7c0", func := "loop.example/wholenet/laws.FnExactReachIn", spec := "fnExactReachIn", unfollowed := true, recurses := true, apart := false }
def FnExactReachInSaid : Prop := fnExactReachInRow.holds Try.pinned (OpenSpec.ofChange fnExactReachInSpec)

/-- ITS FALSE NEIGHBOUR: 'it returns false'. Refute it at one input. -/
def fnExactReachInWrong : ChangeSpec := { name := "fnExactReachIn", fn := fun _ => fun
  | [d1, d2] => { results := [.lit (.bool false)], args := [d1, d2] }
  | _ => none }
def FnExactReachInWrongFalsely : Prop := fnExactReachInRow.holds Try.pinned (OpenSpec.ofChange fnExactReachInWrong)

/-- 'laws.FnMend': WHATEVER THE INPUT: true; the input reads as it did. -/
def fnMendSpec : ChangeSpec := { name := "fnMend", fn := fun _ => fun
  | [d] => { results := [.lit (.bool true)], args := [d] }
  | _ => none }
def fnMendRow : OpenClaim := { program := "ytdnehickciaiiaa", sum := "6ac9aeef2d214d75af74fb33c113ffc39c70fea119f9ec3c161b67e62b35c7c0", func := "loop.example/wholenet/laws.FnMend", spec := "fnMend", unfollowed := true, recurses := true, apart := false }
def FnMendSaid : Prop := fnMendRow.holds Try.pinned (OpenSpec.ofChange fnMendSpec)

/-- ITS FALSE NEIGHBOUR: 'it returns false'. Refute it at one input. -/
def fnMendWrong : ChangeSpec := { name := "fnMend", fn := fun _ => fun
  | [d] => { results := [.lit (.bool false)], args := [d] }
  | _ => none }
def FnMendWrongFalsely : Prop := fnMendRow.holds Try.pinned (OpenSpec.ofChange fnMendWrong)

/-- 'laws.FnExactCutLink': WHATEVER THE INPUT: true; the input reads as it did. -/
def fnExactCutLinkSpec : ChangeSpec := { name := "fnExactCutLink", fn := fun _ => fun
  | [d1, d2] => { results := [.lit (.bool true)], args := [d1, d2] }
  | _ => none }
def fnExactCutLinkRow : OpenClaim := { program := "ytdnehickciaiiaa", sum := "6ac9aeef2d214d75af74fb33c113ffc39c70fea119f9ec3c161b67e62b35c7c0", func := "loop.example/wholenet/laws.FnExactCutLink", spec := "fnExactCutLink", unfollowed := true, recurses := true, apart := false }
def FnExactCutLinkSaid : Prop := fnExactCutLinkRow.holds Try.pinned (OpenSpec.ofChange fnExactCutLinkSpec)

/-- ITS FALSE NEIGHBOUR: 'it returns false'. Refute it at one input. -/
def fnExactCutLinkWrong : ChangeSpec := { name := "fnExactCutLink", fn := fun _ => fun
  | [d1, d2] => { results := [.lit (.bool false)], args := [d1, d2] }
  | _ => none }
def FnExactCutLinkWrongFalsely : Prop := fnExactCutLinkRow.holds Try.pinned (OpenSpec.ofChange fnExactCutLinkWrong)

/-- 'laws.FnCutMend': WHATEVER THE INPUT: true; the input reads as it did. -/
def fnCutMendSpec : ChangeSpec := { name := "fnCutMend", fn := fun _ => fun
  | [d] => { results := [.lit (.bool true)], args := [d] }
  | _ => none }
def fnCutMendRow : OpenClaim := { program := "ytdnehickciaiiaa", sum := "6ac9aeef2d214d75af74fb33c113ffc39c70fea119f9ec3c161b67e62b35c7c0", func := "loop.example/wholenet/laws.FnCutMend", spec := "fnCutMend", unfollowed := true, recurses := true, apart := false }
def FnCutMendSaid : Prop := fnCutMendRow.holds Try.pinned (OpenSpec.ofChange fnCutMendSpec)

/-- ITS FALSE NEIGHBOUR: 'it returns false'. Refute it at one input. -/
def fnCutMendWrong : ChangeSpec := { name := "fnCutMend", fn := fun _ => fun
  | [d] => { results := [.lit (.bool false)], args := [d] }
  | _ => none }
def FnCutMendWrongFalsely : Prop := fnCutMendRow.holds Try.pinned (OpenSpec.ofChange fnCutMendWrong)

/- THE SECOND FORM. 'bulk': how many values and letters a reading holds, each counted each time it is reached (what is shared counts as often as it is met; a slice's spare places count too). A statement '..UptoSaid' is the law's where the arguments, and the package variables that the reading takes, are together of bulk at most 1048576: NARROWER than '..Said'. Prove '..Said' where nothing that the law and all that it calls make is longer than what came in: it says more and counts as full. Else prove '..UptoSaid'. A law counts once. -/
mutual
def uptoBulk {H : Type} : DataW H → Nat
  | .lit (.string bytes) => bytes.length + 1
  | .lit _ => 1
  | .nil => 1
  | .ptr d => uptoBulk d + 1
  | .slice elems spare => uptoBulkAll elems + uptoBulkAll spare + 1
  | .agg parts => uptoBulkAll parts + 1
  | .iface _ d => uptoBulk d + 1
  | .map entries => uptoBulkEntries entries + 1
  | .held _ => 1
def uptoBulkAll {H : Type} : List (DataW H) → Nat
  | [] => 0
  | d :: r => uptoBulk d + uptoBulkAll r
def uptoBulkEntries {H : Type} : List (Lit × DataW H) → Nat
  | [] => 0
  | x :: r => uptoBulkEntry x + uptoBulkEntries r
def uptoBulkEntry {H : Type} : Lit × DataW H → Nat
  | (.string bytes, d) => bytes.length + uptoBulk d + 1
  | (_, d) => uptoBulk d + 1
 end
def uptoSmall : (H : Type) → List (DataW H) → Bool := fun _ ds => decide (uptoBulkAll ds ≤ 1048576)
def OpenSpec.upto (s : _root_.Go.ChangeSpec) : _root_.Go.OpenSpec := { _root_.Go.OpenSpec.ofChange s with cond := some uptoSmall }

/-- 'laws.FnRingOne', WHERE WHAT IT READS IS OF BULK AT MOST 1048576: true; the input reads as it did. -/
def fnRingOneUptoRow : OpenClaim := { program := "ytdnehickciaiiaa", sum := "6ac9aeef2d214d75af74fb33c113ffc39c70fea119f9ec3c161b67e62b35c7c0", func := "loop.example/wholenet/laws.FnRingOne", spec := "fnRingOne", unfollowed := true, recurses := true, apart := false, narrowed := true }
def FnRingOneUptoSaid : Prop := fnRingOneUptoRow.holds Try.pinned (OpenSpec.upto fnRingOneSpec)

/-- 'laws.FnExactMendLink', WHERE WHAT IT READS IS OF BULK AT MOST 1048576: true; the input reads as it did. -/
def fnExactMendLinkUptoRow : OpenClaim := { program := "ytdnehickciaiiaa", sum := "6ac9aeef2d214d75af74fb33c113ffc39c70fea119f9ec3c161b67e62b35c7c0", func := "loop.example/wholenet/laws.FnExactMendLink", spec := "fnExactMendLink", unfollowed := true, recurses := true, apart := false, narrowed := true }
def FnExactMendLinkUptoSaid : Prop := fnExactMendLinkUptoRow.holds Try.pinned (OpenSpec.upto fnExactMendLinkSpec)

/-- 'laws.FnRingBack', WHERE WHAT IT READS IS OF BULK AT MOST 1048576: true; the input reads as it did. -/
def fnRingBackUptoRow : OpenClaim := { program := "ytdnehickciaiiaa", sum := "6ac9aeef2d214d75af74fb33c113ffc39c70fea119f9ec3c161b67e62b35c7c0", func := "loop.example/wholenet/laws.FnRingBack", spec := "fnRingBack", unfollowed := true, recurses := true, apart := false, narrowed := true }
def FnRingBackUptoSaid : Prop := fnRingBackUptoRow.holds Try.pinned (OpenSpec.upto fnRingBackSpec)

/-- 'laws.FnExactPathIn', WHERE WHAT IT READS IS OF BULK AT MOST 1048576: true; the input reads as it did. -/
def fnExactPathInUptoRow : OpenClaim := { program := "ytdnehickciaiiaa", sum := "6ac9aeef2d214d75af74fb33c113ffc39c70fea119f9ec3c161b67e62b35c7c0", func := "loop.example/wholenet/laws.FnExactPathIn", spec := "fnExactPathIn", unfollowed := true, recurses := true, apart := false, narrowed := true }
def FnExactPathInUptoSaid : Prop := fnExactPathInUptoRow.holds Try.pinned (OpenSpec.upto fnExactPathInSpec)

/-- 'laws.FnRingPath', WHERE WHAT IT READS IS OF BULK AT MOST 1048576: true; the input reads as it did. -/
def fnRingPathUptoRow : OpenClaim := { program := "ytdnehickciaiiaa", sum := "6ac9aeef2d214d75af74fb33c113ffc39c70fea119f9ec3c161b67e62b35c7c0", func := "loop.example/wholenet/laws.FnRingPath", spec := "fnRingPath", unfollowed := true, recurses := true, apart := false, narrowed := true }
def FnRingPathUptoSaid : Prop := fnRingPathUptoRow.holds Try.pinned (OpenSpec.upto fnRingPathSpec)

/-- 'laws.FnReachIn', WHERE WHAT IT READS IS OF BULK AT MOST 1048576: true; the input reads as it did. -/
def fnReachInUptoRow : OpenClaim := { program := "ytdnehickciaiiaa", sum := "6ac9aeef2d214d75af74fb33c113ffc39c70fea119f9ec3c161b67e62b35c7c0", func := "loop.example/wholenet/laws.FnReachIn", spec := "fnReachIn", unfollowed := true, recurses := true, apart := false, narrowed := true }
def FnReachInUptoSaid : Prop := fnReachInUptoRow.holds Try.pinned (OpenSpec.upto fnReachInSpec)

/-- 'laws.FnExactReachIn', WHERE WHAT IT READS IS OF BULK AT MOST 1048576: true; the input reads as it did. -/
def fnExactReachInUptoRow : OpenClaim := { program := "ytdnehickciaiiaa", sum := "6ac9aeef2d214d75af74fb33c113ffc39c70fea119f9ec3c161b67e62b35c7c0", func := "loop.example/wholenet/laws.FnExactReachIn", spec := "fnExactReachIn", unfollowed := true, recurses := true, apart := false, narrowed := true }
def FnExactReachInUptoSaid : Prop := fnExactReachInUptoRow.holds Try.pinned (OpenSpec.upto fnExactReachInSpec)

/-- 'laws.FnMend', WHERE WHAT IT READS IS OF BULK AT MOST 1048576: true; the input reads as it did. -/
def fnMendUptoRow : OpenClaim := { program := "ytdnehickciaiiaa", sum := "6ac9aeef2d214d75af74fb33c113ffc39c70fea119f9ec3c161b67e62b35c7c0", func := "loop.example/wholenet/laws.FnMend", spec := "fnMend", unfollowed := true, recurses := true, apart := false, narrowed := true }
def FnMendUptoSaid : Prop := fnMendUptoRow.holds Try.pinned (OpenSpec.upto fnMendSpec)

/-- 'laws.FnExactCutLink', WHERE WHAT IT READS IS OF BULK AT MOST 1048576: true; the input reads as it did. -/
def fnExactCutLinkUptoRow : OpenClaim := { program := "ytdnehickciaiiaa", sum := "6ac9aeef2d214d75af74fb33c113ffc39c70fea119f9ec3c161b67e62b35c7c0", func := "loop.example/wholenet/laws.FnExactCutLink", spec := "fnExactCutLink", unfollowed := true, recurses := true, apart := false, narrowed := true }
def FnExactCutLinkUptoSaid : Prop := fnExactCutLinkUptoRow.holds Try.pinned (OpenSpec.upto fnExactCutLinkSpec)

/-- 'laws.FnCutMend', WHERE WHAT IT READS IS OF BULK AT MOST 1048576: true; the input reads as it did. -/
def fnCutMendUptoRow : OpenClaim := { program := "ytdnehickciaiiaa", sum := "6ac9aeef2d214d75af74fb33c113ffc39c70fea119f9ec3c161b67e62b35c7c0", func := "loop.example/wholenet/laws.FnCutMend", spec := "fnCutMend", unfollowed := true, recurses := true, apart := false, narrowed := true }
def FnCutMendUptoSaid : Prop := fnCutMendUptoRow.holds Try.pinned (OpenSpec.upto fnCutMendSpec)

end Rows
end Go.Proofs.Ytdnehickciaiiaa
