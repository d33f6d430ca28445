/-
  DERIVED. GIVEN WITH THE SEED: THE CARDS: each row of YtblcnbnphjnhdaaDoorRows.lean that lists a variable, with what it lists TIED to the program's text (the seventh form; the later family's looks); each row that meets fmt, with fmt's text TOLD by the authors' own Lean function (tested against real Go, not proved from fmt's source: count such statements apart). THE CARD IS WHAT COUNTS. Prove the row's statement (the work); the ties are given (YtblcnbnphjnhdaaDoorTie.lean); close each card by the builder's one call (the guide's Derived/Test/ToyasCard.lean, 'card_holds'). Laid BY PROGRAM, IN A SANDBOX (cutbox-door.mjs). By AI agents, Wed Nov 11 2026. No macro, syntax, notation, axiom, sorry.
-/
import Derived.Test.YtblcnbnphjnhdaaDoorRows
import GoSem.ClaimSeven
namespace Go.Proofs.YtblcnbnphjnhdaaDoor
namespace Rows

/-- THE TIED CARD OF 'laws.FnEveryNet'. -/
def fnEveryNetCard : Claim7 := { stood := { row := fnEveryNetRow, standIns := [], harness := (true, "2b002868f90abb3bb9089d3bb6c32305af67649216857bbe5ea5508c9db0b96b"), looks := false }, kinds := [], alts := [], laidByText := true, laidKinds := [.data, .data, .data], laidTests := true, laidLooks := .later }
def FnEveryNetCardSaid : Prop := Claim7.holds Tryd.pinned (.plain (OpenSpec.ofChange fnEveryNetSpec)) fnEveryNetCard

/-- THE SECOND FORM's CARD OF 'laws.FnEveryNet'. -/
def fnEveryNetUptoCard : Claim7 := { stood := { row := fnEveryNetUptoRow, standIns := [], harness := (true, "2b002868f90abb3bb9089d3bb6c32305af67649216857bbe5ea5508c9db0b96b"), looks := false }, kinds := [], alts := [], laidByText := true, laidKinds := [.data, .data, .data], laidTests := true, laidLooks := .later }
def FnEveryNetUptoCardSaid : Prop := Claim7.holds Tryd.pinned (.plain (OpenSpec.upto fnEveryNetSpec)) fnEveryNetUptoCard
end Rows
end Go.Proofs.YtblcnbnphjnhdaaDoor
