/-
  No cell of these rows narrows 'for every input' (looked for: loops, veiled, ifaces, maps, wideKeys, modest, calm, conditions, laid).
  DERIVED. THE GIVEN ROWS OF THIS SEAT. 12 by the template 'for every input the law returns true; each argument reads behind the call as it read before'; 0 by the template 'total and deterministic' (their statements: YtjhidlmaphdelaaTotals.lean).
  GIVEN WITH THE SEED: the statements are not yours to turn. If you find one false, say at which input.
  Laid BY PROGRAM, IN A SANDBOX (cutbox-rows.mjs): the forced cells as the released guide's own fill.sh prints them over the translation 1e5da34049de30a9… (all of the seat's roots in one cut). By AI agents, Wed Nov 11 2026. No macro, syntax, notation, axiom, sorry.
-/
import Derived.Test.YtjhidlmaphdelaaChecked
import GoSem.Claim
import GoSem.ClaimJoined
import GoSem.ClaimMapViews
import Derived.JoinedTies
import Derived.KernelRfl
namespace Go.Proofs.Ytjhidlmaphdelaa
/- THE CELL 'sum', in the pinned program and in every row, IS THE sha256 OF THE DUMP (.gsa) THAT YtjhidlmaphdelaaProg.lean LOADS. Nothing in Lean hashes anything: it is a label: what it is worth is what the hold of that sum in a sandbox is worth. -/
noncomputable def Try.pinned : Pinned := { name := "ytjhidlmaphdelaa", sum := "1e5da34049de30a9a7417cd92f5eccc61be12d83f73bcd8dc532eaca1a595183", checked := Try.checked }
namespace Rows
def none {H : Type} : Left H := { results := [], args := [] }

/-- 'laws.FnExactDownTime': WHATEVER THE INPUT: true; the input reads as it did. -/
def fnExactDownTimeSpec : ChangeSpec := { name := "fnExactDownTime", fn := fun _ => fun
  | [d1, d2, d3] => { results := [.lit (.bool true)], args := [d1, d2, d3] }
  | _ => none }
def fnExactDownTimeRow : OpenClaim := { program := "ytjhidlmaphdelaa", sum := "1e5da34049de30a9a7417cd92f5eccc61be12d83f73bcd8dc532eaca1a595183", func := "loop.example/wholenet/laws.FnExactDownTime", spec := "fnExactDownTime", unfollowed := true, recurses := true, apart := false }
def FnExactDownTimeSaid : Prop := fnExactDownTimeRow.holds Try.pinned (OpenSpec.ofChange fnExactDownTimeSpec)

/-- ITS FALSE NEIGHBOUR: 'it returns false'. Refute it at one input. -/
def fnExactDownTimeWrong : ChangeSpec := { name := "fnExactDownTime", fn := fun _ => fun
  | [d1, d2, d3] => { results := [.lit (.bool false)], args := [d1, d2, d3] }
  | _ => none }
def FnExactDownTimeWrongFalsely : Prop := fnExactDownTimeRow.holds Try.pinned (OpenSpec.ofChange fnExactDownTimeWrong)

/-- 'laws.FnAlive': WHATEVER THE INPUT: true; the input reads as it did. -/
def fnAliveSpec : ChangeSpec := { name := "fnAlive", fn := fun _ => fun
  | [d] => { results := [.lit (.bool true)], args := [d] }
  | _ => none }
def fnAliveRow : OpenClaim := { program := "ytjhidlmaphdelaa", sum := "1e5da34049de30a9a7417cd92f5eccc61be12d83f73bcd8dc532eaca1a595183", func := "loop.example/wholenet/laws.FnAlive", spec := "fnAlive", unfollowed := true, recurses := true, apart := false }
def FnAliveSaid : Prop := fnAliveRow.holds Try.pinned (OpenSpec.ofChange fnAliveSpec)

/-- ITS FALSE NEIGHBOUR: 'it returns false'. Refute it at one input. -/
def fnAliveWrong : ChangeSpec := { name := "fnAlive", fn := fun _ => fun
  | [d] => { results := [.lit (.bool false)], args := [d] }
  | _ => none }
def FnAliveWrongFalsely : Prop := fnAliveRow.holds Try.pinned (OpenSpec.ofChange fnAliveWrong)

/-- 'laws.FnExactPenaltyAt': WHATEVER THE INPUT: true; the input reads as it did. -/
def fnExactPenaltyAtSpec : ChangeSpec := { name := "fnExactPenaltyAt", fn := fun _ => fun
  | [d1, d2, d3, d4] => { results := [.lit (.bool true)], args := [d1, d2, d3, d4] }
  | _ => none }
def fnExactPenaltyAtRow : OpenClaim := { program := "ytjhidlmaphdelaa", sum := "1e5da34049de30a9a7417cd92f5eccc61be12d83f73bcd8dc532eaca1a595183", func := "loop.example/wholenet/laws.FnExactPenaltyAt", spec := "fnExactPenaltyAt", unfollowed := true, recurses := true, apart := false }
def FnExactPenaltyAtSaid : Prop := fnExactPenaltyAtRow.holds Try.pinned (OpenSpec.ofChange fnExactPenaltyAtSpec)

/-- ITS FALSE NEIGHBOUR: 'it returns false'. Refute it at one input. -/
def fnExactPenaltyAtWrong : ChangeSpec := { name := "fnExactPenaltyAt", fn := fun _ => fun
  | [d1, d2, d3, d4] => { results := [.lit (.bool false)], args := [d1, d2, d3, d4] }
  | _ => none }
def FnExactPenaltyAtWrongFalsely : Prop := fnExactPenaltyAtRow.holds Try.pinned (OpenSpec.ofChange fnExactPenaltyAtWrong)

/-- 'laws.FnExactLeastDead': WHATEVER THE INPUT: true; the input reads as it did. -/
def fnExactLeastDeadSpec : ChangeSpec := { name := "fnExactLeastDead", fn := fun _ => fun
  | [d1, d2] => { results := [.lit (.bool true)], args := [d1, d2] }
  | _ => none }
def fnExactLeastDeadRow : OpenClaim := { program := "ytjhidlmaphdelaa", sum := "1e5da34049de30a9a7417cd92f5eccc61be12d83f73bcd8dc532eaca1a595183", func := "loop.example/wholenet/laws.FnExactLeastDead", spec := "fnExactLeastDead", unfollowed := true, recurses := true, apart := false }
def FnExactLeastDeadSaid : Prop := fnExactLeastDeadRow.holds Try.pinned (OpenSpec.ofChange fnExactLeastDeadSpec)

/-- ITS FALSE NEIGHBOUR: 'it returns false'. Refute it at one input. -/
def fnExactLeastDeadWrong : ChangeSpec := { name := "fnExactLeastDead", fn := fun _ => fun
  | [d1, d2] => { results := [.lit (.bool false)], args := [d1, d2] }
  | _ => none }
def FnExactLeastDeadWrongFalsely : Prop := fnExactLeastDeadRow.holds Try.pinned (OpenSpec.ofChange fnExactLeastDeadWrong)

/-- 'laws.FnPatience': WHATEVER THE INPUT: true; the input reads as it did. -/
def fnPatienceSpec : ChangeSpec := { name := "fnPatience", fn := fun _ => fun
  | [d] => { results := [.lit (.bool true)], args := [d] }
  | _ => none }
def fnPatienceRow : OpenClaim := { program := "ytjhidlmaphdelaa", sum := "1e5da34049de30a9a7417cd92f5eccc61be12d83f73bcd8dc532eaca1a595183", func := "loop.example/wholenet/laws.FnPatience", spec := "fnPatience", unfollowed := true, recurses := true, apart := false }
def FnPatienceSaid : Prop := fnPatienceRow.holds Try.pinned (OpenSpec.ofChange fnPatienceSpec)

/-- ITS FALSE NEIGHBOUR: 'it returns false'. Refute it at one input. -/
def fnPatienceWrong : ChangeSpec := { name := "fnPatience", fn := fun _ => fun
  | [d] => { results := [.lit (.bool false)], args := [d] }
  | _ => none }
def FnPatienceWrongFalsely : Prop := fnPatienceRow.holds Try.pinned (OpenSpec.ofChange fnPatienceWrong)

/-- 'laws.FnEdges': WHATEVER THE INPUT: true; the input reads as it did. -/
def fnEdgesSpec : ChangeSpec := { name := "fnEdges", fn := fun _ => fun
  | [d] => { results := [.lit (.bool true)], args := [d] }
  | _ => none }
def fnEdgesRow : OpenClaim := { program := "ytjhidlmaphdelaa", sum := "1e5da34049de30a9a7417cd92f5eccc61be12d83f73bcd8dc532eaca1a595183", func := "loop.example/wholenet/laws.FnEdges", spec := "fnEdges", unfollowed := true, recurses := true, apart := false }
def FnEdgesSaid : Prop := fnEdgesRow.holds Try.pinned (OpenSpec.ofChange fnEdgesSpec)

/-- ITS FALSE NEIGHBOUR: 'it returns false'. Refute it at one input. -/
def fnEdgesWrong : ChangeSpec := { name := "fnEdges", fn := fun _ => fun
  | [d] => { results := [.lit (.bool false)], args := [d] }
  | _ => none }
def FnEdgesWrongFalsely : Prop := fnEdgesRow.holds Try.pinned (OpenSpec.ofChange fnEdgesWrong)

/-- 'laws.FnExactHeldAt': WHATEVER THE INPUT: true; the input reads as it did. -/
def fnExactHeldAtSpec : ChangeSpec := { name := "fnExactHeldAt", fn := fun _ => fun
  | [d1, d2, d3, d4, d5, d6] => { results := [.lit (.bool true)], args := [d1, d2, d3, d4, d5, d6] }
  | _ => none }
def fnExactHeldAtRow : OpenClaim := { program := "ytjhidlmaphdelaa", sum := "1e5da34049de30a9a7417cd92f5eccc61be12d83f73bcd8dc532eaca1a595183", func := "loop.example/wholenet/laws.FnExactHeldAt", spec := "fnExactHeldAt", unfollowed := true, recurses := true, apart := false }
def FnExactHeldAtSaid : Prop := fnExactHeldAtRow.holds Try.pinned (OpenSpec.ofChange fnExactHeldAtSpec)

/-- ITS FALSE NEIGHBOUR: 'it returns false'. Refute it at one input. -/
def fnExactHeldAtWrong : ChangeSpec := { name := "fnExactHeldAt", fn := fun _ => fun
  | [d1, d2, d3, d4, d5, d6] => { results := [.lit (.bool false)], args := [d1, d2, d3, d4, d5, d6] }
  | _ => none }
def FnExactHeldAtWrongFalsely : Prop := fnExactHeldAtRow.holds Try.pinned (OpenSpec.ofChange fnExactHeldAtWrong)

/-- 'laws.FnDownSum': WHATEVER THE INPUT: true; the input reads as it did. -/
def fnDownSumSpec : ChangeSpec := { name := "fnDownSum", fn := fun _ => fun
  | [d] => { results := [.lit (.bool true)], args := [d] }
  | _ => none }
def fnDownSumRow : OpenClaim := { program := "ytjhidlmaphdelaa", sum := "1e5da34049de30a9a7417cd92f5eccc61be12d83f73bcd8dc532eaca1a595183", func := "loop.example/wholenet/laws.FnDownSum", spec := "fnDownSum", unfollowed := true, recurses := true, apart := false }
def FnDownSumSaid : Prop := fnDownSumRow.holds Try.pinned (OpenSpec.ofChange fnDownSumSpec)

/-- ITS FALSE NEIGHBOUR: 'it returns false'. Refute it at one input. -/
def fnDownSumWrong : ChangeSpec := { name := "fnDownSum", fn := fun _ => fun
  | [d] => { results := [.lit (.bool false)], args := [d] }
  | _ => none }
def FnDownSumWrongFalsely : Prop := fnDownSumRow.holds Try.pinned (OpenSpec.ofChange fnDownSumWrong)

/-- 'laws.FnLeastDead': WHATEVER THE INPUT: true; the input reads as it did. -/
def fnLeastDeadSpec : ChangeSpec := { name := "fnLeastDead", fn := fun _ => fun
  | [d] => { results := [.lit (.bool true)], args := [d] }
  | _ => none }
def fnLeastDeadRow : OpenClaim := { program := "ytjhidlmaphdelaa", sum := "1e5da34049de30a9a7417cd92f5eccc61be12d83f73bcd8dc532eaca1a595183", func := "loop.example/wholenet/laws.FnLeastDead", spec := "fnLeastDead", unfollowed := true, recurses := true, apart := false }
def FnLeastDeadSaid : Prop := fnLeastDeadRow.holds Try.pinned (OpenSpec.ofChange fnLeastDeadSpec)

/-- ITS FALSE NEIGHBOUR: 'it returns false'. Refute it at one input. -/
def fnLeastDeadWrong : ChangeSpec := { name := "fnLeastDead", fn := fun _ => fun
  | [d] => { results := [.lit (.bool false)], args := [d] }
  | _ => none }
def FnLeastDeadWrongFalsely : Prop := fnLeastDeadRow.holds Try.pinned (OpenSpec.ofChange fnLeastDeadWrong)

/-- 'laws.FnPenalty': WHATEVER THE INPUT: true; the input reads as it did. -/
def fnPenaltySpec : ChangeSpec := { name := "fnPenalty", fn := fun _ => fun
  | [d] => { results := [.lit (.bool true)], args := [d] }
  | _ => none }
def fnPenaltyRow : OpenClaim := { program := "ytjhidlmaphdelaa", sum := "1e5da34049de30a9a7417cd92f5eccc61be12d83f73bcd8dc532eaca1a595183", func := "loop.example/wholenet/laws.FnPenalty", spec := "fnPenalty", unfollowed := true, recurses := true, apart := false }
def FnPenaltySaid : Prop := fnPenaltyRow.holds Try.pinned (OpenSpec.ofChange fnPenaltySpec)

/-- ITS FALSE NEIGHBOUR: 'it returns false'. Refute it at one input. -/
def fnPenaltyWrong : ChangeSpec := { name := "fnPenalty", fn := fun _ => fun
  | [d] => { results := [.lit (.bool false)], args := [d] }
  | _ => none }
def FnPenaltyWrongFalsely : Prop := fnPenaltyRow.holds Try.pinned (OpenSpec.ofChange fnPenaltyWrong)

/-- 'laws.FnExactEdgesOf': WHATEVER THE INPUT: true; the input reads as it did. -/
def fnExactEdgesOfSpec : ChangeSpec := { name := "fnExactEdgesOf", fn := fun _ => fun
  | [d1, d2, d3] => { results := [.lit (.bool true)], args := [d1, d2, d3] }
  | _ => none }
def fnExactEdgesOfRow : OpenClaim := { program := "ytjhidlmaphdelaa", sum := "1e5da34049de30a9a7417cd92f5eccc61be12d83f73bcd8dc532eaca1a595183", func := "loop.example/wholenet/laws.FnExactEdgesOf", spec := "fnExactEdgesOf", unfollowed := true, recurses := true, apart := false }
def FnExactEdgesOfSaid : Prop := fnExactEdgesOfRow.holds Try.pinned (OpenSpec.ofChange fnExactEdgesOfSpec)

/-- ITS FALSE NEIGHBOUR: 'it returns false'. Refute it at one input. -/
def fnExactEdgesOfWrong : ChangeSpec := { name := "fnExactEdgesOf", fn := fun _ => fun
  | [d1, d2, d3] => { results := [.lit (.bool false)], args := [d1, d2, d3] }
  | _ => none }
def FnExactEdgesOfWrongFalsely : Prop := fnExactEdgesOfRow.holds Try.pinned (OpenSpec.ofChange fnExactEdgesOfWrong)

/-- 'laws.FnHeld': WHATEVER THE INPUT: true; the input reads as it did. -/
def fnHeldSpec : ChangeSpec := { name := "fnHeld", fn := fun _ => fun
  | [d] => { results := [.lit (.bool true)], args := [d] }
  | _ => none }
def fnHeldRow : OpenClaim := { program := "ytjhidlmaphdelaa", sum := "1e5da34049de30a9a7417cd92f5eccc61be12d83f73bcd8dc532eaca1a595183", func := "loop.example/wholenet/laws.FnHeld", spec := "fnHeld", unfollowed := true, recurses := true, apart := false }
def FnHeldSaid : Prop := fnHeldRow.holds Try.pinned (OpenSpec.ofChange fnHeldSpec)

/-- ITS FALSE NEIGHBOUR: 'it returns false'. Refute it at one input. -/
def fnHeldWrong : ChangeSpec := { name := "fnHeld", fn := fun _ => fun
  | [d] => { results := [.lit (.bool false)], args := [d] }
  | _ => none }
def FnHeldWrongFalsely : Prop := fnHeldRow.holds Try.pinned (OpenSpec.ofChange fnHeldWrong)

/- THE SECOND FORM. 'bulk': how many values and letters a reading holds, each counted each time it is reached (what is shared counts as often as it is met; a slice's spare places count too). A statement '..UptoSaid' is the law's where the arguments, and the package variables that the reading takes, are together of bulk at most 1048576: NARROWER than '..Said'. Prove '..Said' where nothing that the law and all that it calls make is longer than what came in: it says more and counts as full. Else prove '..UptoSaid'. A law counts once. -/
mutual
def uptoBulk {H : Type} : DataW H → Nat
  | .lit (.string bytes) => bytes.length + 1
  | .lit _ => 1
  | .nil => 1
  | .ptr d => uptoBulk d + 1
  | .slice elems spare => uptoBulkAll elems + uptoBulkAll spare + 1
  | .agg parts => uptoBulkAll parts + 1
  | .iface _ d => uptoBulk d + 1
  | .map entries => uptoBulkEntries entries + 1
  | .held _ => 1
def uptoBulkAll {H : Type} : List (DataW H) → Nat
  | [] => 0
  | d :: r => uptoBulk d + uptoBulkAll r
def uptoBulkEntries {H : Type} : List (Lit × DataW H) → Nat
  | [] => 0
  | x :: r => uptoBulkEntry x + uptoBulkEntries r
def uptoBulkEntry {H : Type} : Lit × DataW H → Nat
  | (.string bytes, d) => bytes.length + uptoBulk d + 1
  | (_, d) => uptoBulk d + 1
 end
def uptoSmall : (H : Type) → List (DataW H) → Bool := fun _ ds => decide (uptoBulkAll ds ≤ 1048576)
def OpenSpec.upto (s : _root_.Go.ChangeSpec) : _root_.Go.OpenSpec := { _root_.Go.OpenSpec.ofChange s with cond := some uptoSmall }

/-- 'laws.FnExactDownTime', WHERE WHAT IT READS IS OF BULK AT MOST 1048576: true; the input reads as it did. -/
def fnExactDownTimeUptoRow : OpenClaim := { program := "ytjhidlmaphdelaa", sum := "1e5da34049de30a9a7417cd92f5eccc61be12d83f73bcd8dc532eaca1a595183", func := "loop.example/wholenet/laws.FnExactDownTime", spec := "fnExactDownTime", unfollowed := true, recurses := true, apart := false, narrowed := true }
def FnExactDownTimeUptoSaid : Prop := fnExactDownTimeUptoRow.holds Try.pinned (OpenSpec.upto fnExactDownTimeSpec)

/-- 'laws.FnAlive', WHERE WHAT IT READS IS OF BULK AT MOST 1048576: true; the input reads as it did. -/
def fnAliveUptoRow : OpenClaim := { program := "ytjhidlmaphdelaa", sum := "1e5da34049de30a9a7417cd92f5eccc61be12d83f73bcd8dc532eaca1a595183", func := "loop.example/wholenet/laws.FnAlive", spec := "fnAlive", unfollowed := true, recurses := true, apart := false, narrowed := true }
def FnAliveUptoSaid : Prop := fnAliveUptoRow.holds Try.pinned (OpenSpec.upto fnAliveSpec)

/-- 'laws.FnExactPenaltyAt', WHERE WHAT IT READS IS OF BULK AT MOST 1048576: true; the input reads as it did. -/
def fnExactPenaltyAtUptoRow : OpenClaim := { program := "ytjhidlmaphdelaa", sum := "1e5da34049de30a9a7417cd92f5eccc61be12d83f73bcd8dc532eaca1a595183", func := "loop.example/wholenet/laws.FnExactPenaltyAt", spec := "fnExactPenaltyAt", unfollowed := true, recurses := true, apart := false, narrowed := true }
def FnExactPenaltyAtUptoSaid : Prop := fnExactPenaltyAtUptoRow.holds Try.pinned (OpenSpec.upto fnExactPenaltyAtSpec)

/-- 'laws.FnExactLeastDead', WHERE WHAT IT READS IS OF BULK AT MOST 1048576: true; the input reads as it did. -/
def fnExactLeastDeadUptoRow : OpenClaim := { program := "ytjhidlmaphdelaa", sum := "1e5da34049de30a9a7417cd92f5eccc61be12d83f73bcd8dc532eaca1a595183", func := "loop.example/wholenet/laws.FnExactLeastDead", spec := "fnExactLeastDead", unfollowed := true, recurses := true, apart := false, narrowed := true }
def FnExactLeastDeadUptoSaid : Prop := fnExactLeastDeadUptoRow.holds Try.pinned (OpenSpec.upto fnExactLeastDeadSpec)

/-- 'laws.FnPatience', WHERE WHAT IT READS IS OF BULK AT MOST 1048576: true; the input reads as it did. -/
def fnPatienceUptoRow : OpenClaim := { program := "ytjhidlmaphdelaa", sum := "1e5da34049de30a9a7417cd92f5eccc61be12d83f73bcd8dc532eaca1a595183", func := "loop.example/wholenet/laws.FnPatience", spec := "fnPatience", unfollowed := true, recurses := true, apart := false, narrowed := true }
def FnPatienceUptoSaid : Prop := fnPatienceUptoRow.holds Try.pinned (OpenSpec.upto fnPatienceSpec)

/-- 'laws.FnEdges', WHERE WHAT IT READS IS OF BULK AT MOST 1048576: true; the input reads as it did. -/
def fnEdgesUptoRow : OpenClaim := { program := "ytjhidlmaphdelaa", sum := "1e5da34049de30a9a7417cd92f5eccc61be12d83f73bcd8dc532eaca1a595183", func := "loop.example/wholenet/laws.FnEdges", spec := "fnEdges", unfollowed := true, recurses := true, apart := false, narrowed := true }
def FnEdgesUptoSaid : Prop := fnEdgesUptoRow.holds Try.pinned (OpenSpec.upto fnEdgesSpec)

/-- 'laws.FnExactHeldAt', WHERE WHAT IT READS IS OF BULK AT MOST 1048576: true; the input reads as it did. -/
def fnExactHeldAtUptoRow : OpenClaim := { program := "ytjhidlmaphdelaa", sum := "1e5da34049de30a9a7417cd92f5eccc61be12d83f73bcd8dc532eaca1a595183", func := "loop.example/wholenet/laws.FnExactHeldAt", spec := "fnExactHeldAt", unfollowed := true, recurses := true, apart := false, narrowed := true }
def FnExactHeldAtUptoSaid : Prop := fnExactHeldAtUptoRow.holds Try.pinned (OpenSpec.upto fnExactHeldAtSpec)

/-- 'laws.FnDownSum', WHERE WHAT IT READS IS OF BULK AT MOST 1048576: true; the input reads as it did. -/
def fnDownSumUptoRow : OpenClaim := { program := "ytjhidlmaphdelaa", sum := "1e5da34049de30a9a7417cd92f5eccc61be12d83f73bcd8dc532eaca1a595183", func := "loop.example/wholenet/laws.FnDownSum", spec := "fnDownSum", unfollowed := true, recurses := true, apart := false, narrowed := true }
def FnDownSumUptoSaid : Prop := fnDownSumUptoRow.holds Try.pinned (OpenSpec.upto fnDownSumSpec)

/-- 'laws.FnLeastDead', WHERE WHAT IT READS IS OF BULK AT MOST 1048576: true; the input reads as it did. -/
def fnLeastDeadUptoRow : OpenClaim := { program := "ytjhidlmaphdelaa", sum := "1e5da34049de30a9a7417cd92f5eccc61be12d83f73bcd8dc532eaca1a595183", func := "loop.example/wholenet/laws.FnLeastDead", spec := "fnLeastDead", unfollowed := true, recurses := true, apart := false, narrowed := true }
def FnLeastDeadUptoSaid : Prop := fnLeastDeadUptoRow.holds Try.pinned (OpenSpec.upto fnLeastDeadSpec)

/-- 'laws.FnPenalty', WHERE WHAT IT READS IS OF BULK AT MOST 1048576: true; the input reads as it did. -/
def fnPenaltyUptoRow : OpenClaim := { program := "ytjhidlmaphdelaa", sum := "1e5da34049de30a9a7417cd92f5eccc61be12d83f73bcd8dc532eaca1a595183", func := "loop.example/wholenet/laws.FnPenalty", spec := "fnPenalty", unfollowed := true, recurses := true, apart := false, narrowed := true }
def FnPenaltyUptoSaid : Prop := fnPenaltyUptoRow.holds Try.pinned (OpenSpec.upto fnPenaltySpec)

/-- 'laws.FnExactEdgesOf', WHERE WHAT IT READS IS OF BULK AT MOST 1048576: true; the input reads as it did. -/
def fnExactEdgesOfUptoRow : OpenClaim := { program := "ytjhidlmaphdelaa", sum := "1e5da34049de30a9a7417cd92f5eccc61be12d83f73bcd8dc532eaca1a595183", func := "loop.example/wholenet/laws.FnExactEdgesOf", spec := "fnExactEdgesOf", unfollowed := true, recurses := true, apart := false, narrowed := true }
def FnExactEdgesOfUptoSaid : Prop := fnExactEdgesOfUptoRow.holds Try.pinned (OpenSpec.upto fnExactEdgesOfSpec)

/-- 'laws.FnHeld', WHERE WHAT IT READS IS OF BULK AT MOST 1048576: true; the input reads as it did. -/
def fnHeldUptoRow : OpenClaim := { program := "ytjhidlmaphdelaa", sum := "1e5da34049de30a9a7417cd92f5eccc61be12d83f73bcd8dc532eaca1a595183", func := "loop.example/wholenet/laws.FnHeld", spec := "fnHeld", unfollowed := true, recurses := true, apart := false, narrowed := true }
def FnHeldUptoSaid : Prop := fnHeldUptoRow.holds Try.pinned (OpenSpec.upto fnHeldSpec)

end Rows
end Go.Proofs.Ytjhidlmaphdelaa
