/-
  No cell of these rows narrows 'for every input' (looked for: loops, veiled, ifaces, maps, wideKeys, modest, calm, conditions, laid).
  DERIVED. THE GIVEN ROWS OF THIS SEAT. 6 by the template 'for every input the law returns true; each argument reads behind the call as it read before'; 0 by the template 'total and deterministic' (their statements: YtdpnloibbimblaaTotals.lean).
  GIVEN WITH THE SEED: the statements are not yours to turn. If you find one false, say at which input.
  Laid BY PROGRAM, IN A SANDBOX (cutbox-rows.mjs): the forced cells as the released guide's own fill.sh prints them over the translation 7a35ddc542216c71… (all of the seat's roots in one cut). By AI agents, Wed Nov 11 2026. No macro, syntax, notation, axiom, sorry.
-/
import Derived.Test.YtdpnloibbimblaaChecked
import GoSem.Claim
import GoSem.ClaimJoined
import GoSem.ClaimMapViews
import Derived.JoinedTies
import Derived.KernelRfl
namespace Go.Proofs.Ytdpnloibbimblaa
/- THE CELL 'sum', in the pinned program and in every row, IS THE sha256 OF THE DUMP (.gsa) THAT YtdpnloibbimblaaProg.lean LOADS. Nothing in Lean hashes anything: it is a label: what it is worth is what the hold of that sum in a sandbox is worth. -/
noncomputable def Try.pinned : Pinned := { name := "ytdpnloibbimblaa", sum := "7a35ddc542216c719facf5e8beb9f5f7e00967dfbb727e6fc7d7234389756107", checked := Try.checked }
namespace Rows
def none {H : Type} : Left H := { results := [], args := [] }

/-- 'laws.FnLinkClear': WHATEVER THE INPUT: true; the input reads as it did. -/
def fnLinkClearSpec : ChangeSpec := { name := "fnLinkClear", fn := fun _ => fun
  | [d] => { results := [.lit (.bool true)], args := [d] }
  | _ => none }
def fnLinkClearRow : OpenClaim := { program := "ytdpnloibbimblaa", sum := "7a35ddc542216c719facf5e8beb9f5f7e00967dfbb727e6fc7d7234389756107", func := "loop.example/wholenet/laws.FnLinkClear", spec := "fnLinkClear", unfollowed := true, recurses := true, apart := false }
def FnLinkClearSaid : Prop := fnLinkClearRow.holds Try.pinned (OpenSpec.ofChange fnLinkClearSpec)

/-- ITS FALSE NEIGHBOUR: 'it returns false'. Refute it at one input. -/
def fnLinkClearWrong : ChangeSpec := { name := "fnLinkClear", fn := fun _ => fun
  | [d] => { results := [.lit (.bool false)], args := [d] }
  | _ => none }
def FnLinkClearWrongFalsely : Prop := fnLinkClearRow.holds Try.pinned (OpenSpec.ofChange fnLinkClearWrong)

/-- 'laws.FnExactLinkRounds': WHATEVER THE INPUT: true; the input reads as it did. -/
def fnExactLinkRoundsSpec : ChangeSpec := { name := "fnExactLinkRounds", fn := fun _ => fun
  | [d1, d2, d3, d4] => { results := [.lit (.bool true)], args := [d1, d2, d3, d4] }
  | _ => none }
def fnExactLinkRoundsRow : OpenClaim := { program := "ytdpnloibbimblaa", sum := "7a35ddc542216c719facf5e8beb9f5f7e00967dfbb727e6fc7d7234389756107", func := "loop.example/wholenet/laws.FnExactLinkRounds", spec := "fnExactLinkRounds", unfollowed := true, recurses := true, apart := false }
def FnExactLinkRoundsSaid : Prop := fnExactLinkRoundsRow.holds Try.pinned (OpenSpec.ofChange fnExactLinkRoundsSpec)

/-- ITS FALSE NEIGHBOUR: 'it returns false'. Refute it at one input. -/
def fnExactLinkRoundsWrong : ChangeSpec := { name := "fnExactLinkRounds", fn := fun _ => fun
  | [d1, d2, d3, d4] => { results := [.lit (.bool false)], args := [d1, d2, d3, d4] }
  | _ => none }
def FnExactLinkRoundsWrongFalsely : Prop := fnExactLinkRoundsRow.holds Try.pinned (OpenSpec.ofChange fnExactLinkRoundsWrong)

/-- 'laws.FnLinkSafe': WHATEVER THE INPUT: true; the input reads as it did. -/
def fnLinkSafeSpec : ChangeSpec := { name := "fnLinkSafe", fn := fun _ => fun
  | [d] => { results := [.lit (.bool true)], args := [d] }
  | _ => none }
def fnLinkSafeRow : OpenClaim := { program := "ytdpnloibbimblaa", sum := "7a35ddc542216c719facf5e8beb9f5f7e00967dfbb727e6fc7d7234389756107", func := "loop.example/wholenet/laws.FnLinkSafe", spec := "fnLinkSafe", unfollowed := true, recurses := true, apart := false }
def FnLinkSafeSaid : Prop := fnLinkSafeRow.holds Try.pinned (OpenSpec.ofChange fnLinkSafeSpec)

/-- ITS FALSE NEIGHBOUR: 'it returns false'. Refute it at one input. -/
def fnLinkSafeWrong : ChangeSpec := { name := "fnLinkSafe", fn := fun _ => fun
  | [d] => { results := [.lit (.bool false)], args := [d] }
  | _ => none }
def FnLinkSafeWrongFalsely : Prop := fnLinkSafeRow.holds Try.pinned (OpenSpec.ofChange fnLinkSafeWrong)

/-- 'laws.FnLinkRounds': WHATEVER THE INPUT: true; the input reads as it did. -/
def fnLinkRoundsSpec : ChangeSpec := { name := "fnLinkRounds", fn := fun _ => fun
  | [d] => { results := [.lit (.bool true)], args := [d] }
  | _ => none }
def fnLinkRoundsRow : OpenClaim := { program := "ytdpnloibbimblaa", sum := "7a35ddc542216c719facf5e8beb9f5f7e00967dfbb727e6fc7d7234389756107", func := "loop.example/wholenet/laws.FnLinkRounds", spec := "fnLinkRounds", unfollowed := true, recurses := true, apart := false }
def FnLinkRoundsSaid : Prop := fnLinkRoundsRow.holds Try.pinned (OpenSpec.ofChange fnLinkRoundsSpec)

/-- ITS FALSE NEIGHBOUR: 'it returns false'. Refute it at one input. -/
def fnLinkRoundsWrong : ChangeSpec := { name := "fnLinkRounds", fn := fun _ => fun
  | [d] => { results := [.lit (.bool false)], args := [d] }
  | _ => none }
def FnLinkRoundsWrongFalsely : Prop := fnLinkRoundsRow.holds Try.pinned (OpenSpec.ofChange fnLinkRoundsWrong)

/-- 'laws.FnLinkLive': WHATEVER THE INPUT: true; the input reads as it did. -/
def fnLinkLiveSpec : ChangeSpec := { name := "fnLinkLive", fn := fun _ => fun
  | [d] => { results := [.lit (.bool true)], args := [d] }
  | _ => none }
def fnLinkLiveRow : OpenClaim := { program := "ytdpnloibbimblaa", sum := "7a35ddc542216c719facf5e8beb9f5f7e00967dfbb727e6fc7d7234389756107", func := "loop.example/wholenet/laws.FnLinkLive", spec := "fnLinkLive", unfollowed := true, recurses := true, apart := false }
def FnLinkLiveSaid : Prop := fnLinkLiveRow.holds Try.pinned (OpenSpec.ofChange fnLinkLiveSpec)

/-- ITS FALSE NEIGHBOUR: 'it returns false'. Refute it at one input. -/
def fnLinkLiveWrong : ChangeSpec := { name := "fnLinkLive", fn := fun _ => fun
  | [d] => { results := [.lit (.bool false)], args := [d] }
  | _ => none }
def FnLinkLiveWrongFalsely : Prop := fnLinkLiveRow.holds Try.pinned (OpenSpec.ofChange fnLinkLiveWrong)

/-- 'laws.FnExactRunLink': WHATEVER THE INPUT: true; the input reads as it did. -/
def fnExactRunLinkSpec : ChangeSpec := { name := "fnExactRunLink", fn := fun _ => fun
  | [d1, d2, d3, d4, d5] => { results := [.lit (.bool true)], args := [d1, d2, d3, d4, d5] }
  | _ => none }
def fnExactRunLinkRow : OpenClaim := { program := "ytdpnloibbimblaa", sum := "7a35ddc542216c719facf5e8beb9f5f7e00967dfbb727e6fc7d7234389756107", func := "loop.example/wholenet/laws.FnExactRunLink", spec := "fnExactRunLink", unfollowed := true, recurses := true, apart := false }
def FnExactRunLinkSaid : Prop := fnExactRunLinkRow.holds Try.pinned (OpenSpec.ofChange fnExactRunLinkSpec)

/-- ITS FALSE NEIGHBOUR: 'it returns false'. Refute it at one input. -/
def fnExactRunLinkWrong : ChangeSpec := { name := "fnExactRunLink", fn := fun _ => fun
  | [d1, d2, d3, d4, d5] => { results := [.lit (.bool false)], args := [d1, d2, d3, d4, d5] }
  | _ => none }
def FnExactRunLinkWrongFalsely : Prop := fnExactRunLinkRow.holds Try.pinned (OpenSpec.ofChange fnExactRunLinkWrong)

/- THE SECOND FORM. 'bulk': how many values and letters a reading holds, each counted each time it is reached (what is shared counts as often as it is met; a slice's spare places count too). A statement '..UptoSaid' is the law's where the arguments, and the package variables that the reading takes, are together of bulk at most 1048576: NARROWER than '..Said'. Prove '..Said' where nothing that the law and all that it calls make is longer than what came in: it says more and counts as full. Else prove '..UptoSaid'. A law counts once. -/
mutual
def uptoBulk {H : Type} : DataW H → Nat
  | .lit (.string bytes) => bytes.length + 1
  | .lit _ => 1
  | .nil => 1
  | .ptr d => uptoBulk d + 1
  | .slice elems spare => uptoBulkAll elems + uptoBulkAll spare + 1
  | .agg parts => uptoBulkAll parts + 1
  | .iface _ d => uptoBulk d + 1
  | .map entries => uptoBulkEntries entries + 1
  | .held _ => 1
def uptoBulkAll {H : Type} : List (DataW H) → Nat
  | [] => 0
  | d :: r => uptoBulk d + uptoBulkAll r
def uptoBulkEntries {H : Type} : List (Lit × DataW H) → Nat
  | [] => 0
  | x :: r => uptoBulkEntry x + uptoBulkEntries r
def uptoBulkEntry {H : Type} : Lit × DataW H → Nat
  | (.string bytes, d) => bytes.length + uptoBulk d + 1
  | (_, d) => uptoBulk d + 1
 end
def uptoSmall : (H : Type) → List (DataW H) → Bool := fun _ ds => decide (uptoBulkAll ds ≤ 1048576)
def OpenSpec.upto (s : _root_.Go.ChangeSpec) : _root_.Go.OpenSpec := { _root_.Go.OpenSpec.ofChange s with cond := some uptoSmall }

/-- 'laws.FnLinkClear', WHERE WHAT IT READS IS OF BULK AT MOST 1048576: true; the input reads as it did. -/
def fnLinkClearUptoRow : OpenClaim := { program := "ytdpnloibbimblaa", sum := "7a35ddc542216c719facf5e8beb9f5f7e00967dfbb727e6fc7d7234389756107", func := "loop.example/wholenet/laws.FnLinkClear", spec := "fnLinkClear", unfollowed := true, recurses := true, apart := false, narrowed := true }
def FnLinkClearUptoSaid : Prop := fnLinkClearUptoRow.holds Try.pinned (OpenSpec.upto fnLinkClearSpec)

/-- 'laws.FnExactLinkRounds', WHERE WHAT IT READS IS OF BULK AT MOST 1048576: true; the input reads as it did. -/
def fnExactLinkRoundsUptoRow : OpenClaim := { program := "ytdpnloibbimblaa", sum := "7a35ddc542216c719facf5e8beb9f5f7e00967dfbb727e6fc7d7234389756107", func := "loop.example/wholenet/laws.FnExactLinkRounds", spec := "fnExactLinkRounds", unfollowed := true, recurses := true, apart := false, narrowed := true }
def FnExactLinkRoundsUptoSaid : Prop := fnExactLinkRoundsUptoRow.holds Try.pinned (OpenSpec.upto fnExactLinkRoundsSpec)

/-- 'laws.FnLinkSafe', WHERE WHAT IT READS IS OF BULK AT MOST 1048576: true; the input reads as it did. -/
def fnLinkSafeUptoRow : OpenClaim := { program := "ytdpnloibbimblaa", sum := "7a35ddc542216c719facf5e8beb9f5f7e00967dfbb727e6fc7d7234389756107", func := "loop.example/wholenet/laws.FnLinkSafe", spec := "fnLinkSafe", unfollowed := true, recurses := true, apart := false, narrowed := true }
def FnLinkSafeUptoSaid : Prop := fnLinkSafeUptoRow.holds Try.pinned (OpenSpec.upto fnLinkSafeSpec)

/-- 'laws.FnLinkRounds', WHERE WHAT IT READS IS OF BULK AT MOST 1048576: true; the input reads as it did. -/
def fnLinkRoundsUptoRow : OpenClaim := { program := "ytdpnloibbimblaa", sum := "7a35ddc542216c719facf5e8beb9f5f7e00967dfbb727e6fc7d7234389756107", func := "loop.example/wholenet/laws.FnLinkRounds", spec := "fnLinkRounds", unfollowed := true, recurses := true, apart := false, narrowed := true }
def FnLinkRoundsUptoSaid : Prop := fnLinkRoundsUptoRow.holds Try.pinned (OpenSpec.upto fnLinkRoundsSpec)

/-- 'laws.FnLinkLive', WHERE WHAT IT READS IS OF BULK AT MOST 1048576: true; the input reads as it did. -/
def fnLinkLiveUptoRow : OpenClaim := { program := "ytdpnloibbimblaa", sum := "7a35ddc542216c719facf5e8beb9f5f7e00967dfbb727e6fc7d7234389756107", func := "loop.example/wholenet/laws.FnLinkLive", spec := "fnLinkLive", unfollowed := true, recurses := true, apart := false, narrowed := true }
def FnLinkLiveUptoSaid : Prop := fnLinkLiveUptoRow.holds Try.pinned (OpenSpec.upto fnLinkLiveSpec)

/-- 'laws.FnExactRunLink', WHERE WHAT IT READS IS OF BULK AT MOST 1048576: true; the input reads as it did. -/
def fnExactRunLinkUptoRow : OpenClaim := { program := "ytdpnloibbimblaa", sum := "7a35ddc542216c719facf5e8beb9f5f7e00967dfbb727e6fc7d7234389756107", func := "loop.example/wholenet/laws.FnExactRunLink", spec := "fnExactRunLink", unfollowed := true, recurses := true, apart := false, narrowed := true }
def FnExactRunLinkUptoSaid : Prop := fnExactRunLinkUptoRow.holds Try.pinned (OpenSpec.upto fnExactRunLinkSpec)

end Rows
end Go.Proofs.Ytdpnloibbimblaa
